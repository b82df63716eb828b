import Derived.Test.YthpodlcbikialaaDoorCs
import Derived.Test.YthpodlcbikialaaDoorTie
import Derived.Test.YthpodlcbikialaaDoorCards
import Derived.Test.YthpodlcbikialaaDoorShRow
import Derived.Deep.Slices
set_option linter.unusedVariables false
set_option linter.unusedSimpArgs false
set_option linter.unusedVariables false
set_option linter.unusedSimpArgs false
set_option maxRecDepth 100000
namespace Go.Proofs.YthpodlcbikialaaDoor
open Go Go.Sh Go.Fr
open Go.ChangeShapes Go.WideShapes Go.ChangeAt Go.WideElems Go.RowKit

/-! ## from the rows to the walks -/
theorem own : ownKnob Tryd.prog.godebug = none := by kernel_rfl
theorem laidOut : laidOutB prog = true := by kernel_rfl
theorem gTab : prog.globalNamed "math/bits.deBruijn64tab" = some 0 := by kernel_rfl
theorem tTab : (prog.globals[0]?).map (·.type) = some 116 := by kernel_rfl
theorem und116 : prog.underlying 116 = some (.array 64 5) := by kernel_rfl
theorem und5 : prog.underlying 5 = some (.int .u8) := by kernel_rfl
theorem und3 : prog.underlying 3 = some (.int .i64) := by kernel_rfl
theorem und41 : prog.underlying 41 = some (.slice 47) := by kernel_rfl
theorem cells47 : prog.cellsOf 47 = 5 := by kernel_rfl
theorem cells3 : prog.cellsOf 3 = 1 := by kernel_rfl
theorem cells5 : prog.cellsOf 5 = 1 := by kernel_rfl
def laid1 : List (String × DataW Unit) := [("math/bits.deBruijn64tab", Rows.laid_math_bits_deBruijn64tab)]
theorem tab_lits : (Rows.laid_math_bits_deBruijn64tab : DataW Unit) = .agg (Lib.deBruijn64tab.map fun n => .lit (.int .u8 ((n : Nat) : Int))) := rfl
theorem tab_len : Lib.deBruijn64tab.length = 64 := rfl
/-- what the row's condition gives: the table of math/bits -/
theorem tz_of {W : World} (h : laidMetH prog laid1 W) : Tz W := by
  rw [MakeChecks.laidMetH_plain _ _ _ (by kernel_rfl)] at h
  obtain ⟨ps, ⟨g0, t0, cs0, f0, p0, q0, hg0, ht0, hv0, hd0, _, _⟩, _, _⟩ := h
  obtain rfl := Option.some.inj (gTab.symm.trans hg0)
  obtain rfl := Option.some.inj (tTab.symm.trans ht0)
  obtain ⟨xs, m1, rfl, hx1, hlen, hn, hel⟩ := DataW.trod_array und116 hd0
  rw [cells5] at hel
  have hx2 : xs.map (·.1) = Lib.deBruijn64tab.map fun n => (.lit (.int .u8 ((n : Nat) : Int)) : DataW Unit) := by
    exact (DataW.agg.inj (tab_lits.symm.trans (congrArg Prod.fst hx1))).symm
  have hcell : ∀ k, k < 64 → W.cell? ⟨0, k, none⟩ = some (.int .u8 (Lib.deBruijn64tab.getD k 0 : Nat)) := by
    intro k hk
    have h1 := hel k hk
    obtain ⟨y, hy⟩ : ∃ y, xs[k]? = some y := ⟨_, List.getElem?_eq_getElem (by omega)⟩
    rw [hy] at h1
    obtain ⟨n, e1, e2, _⟩ := DataW.trod_int und5 h1
    have h3 : (xs.map (·.1))[k]? = some y.1 := by rw [List.getElem?_map, hy]; rfl
    rw [hx2, List.getElem?_map] at h3
    have hk2 : k < Lib.deBruijn64tab.length := by rw [tab_len]; exact hk
    rw [List.getElem?_eq_getElem hk2] at h3
    simp only [Option.map_some, Option.some.injEq] at h3
    rw [e2] at h3
    injection h3 with h3
    injection h3 with _ h3
    have h4 := World.var?_cell hg0 hv0 k
    rw [h4]
    have h5 : ((cs0.toList.drop (k * 1)).take 1)[0]? = some (.int .u8 n) := by rw [e1]; rfl
    rw [List.getElem?_take, if_pos (by decide), List.getElem?_drop, Nat.mul_one, Nat.add_zero] at h5
    rw [← Array.getElem?_toList, h5, List.getD_eq_getElem?_getD, List.getElem?_eq_getElem hk2, ← h3]
    rfl
  exact ⟨cell_lt (hcell 0 (by decide)), hcell⟩
theorem wf64 {n : Int} (h : (Lit.int .i64 n).wf = true) : I64 n := by
  simp only [Lit.wf, Bool.and_eq_true, decide_eq_true_eq] at h
  exact h
instance : Inhabited Op5 := ⟨⟨0, 0, 0, 0, 0⟩⟩
section
variable {H : Type} {enc : TypeId × Value → H}
theorem open_script {W : World} {base : Nat} {v : Value} {d : DataW H} {ps : List MemPlace} (hv : Value.okWide prog W .any base 41 v) (h : DataW.Trod enc prog W 0 (fun _ => true) true 41 v d ps) :
    ∃ q n c l, v = .slice q n c ∧ ScrAt W q n l := by
  obtain ⟨q, n, c, rfl⟩ : ∃ q n c, v = .slice q n c := okWide_slice und41 hv
  obtain ⟨fuel, hf⟩ := h
  rcases Deep.open_slice und41 hf with ⟨h0, _⟩ | ⟨a, len, cap, m, nn, D, Pl, hcs, _, hlc, hcm, hm, _, hel⟩
  · simp only [Value.cells, List.cons.injEq, and_true] at h0
    injection h0 with h1 h2 h3
    subst h1 h2 h3
    exact ⟨none, 0, 0, [], rfl, Rd.nil _ _, rfl, fun o ho => by simp at ho, by decide⟩
  · simp only [Value.cells, List.cons.injEq, and_true] at hcs
    injection hcs with h1 h2 h3
    subst h1 h2 h3
    have hm' : n ≤ m := by rw [hm]; split <;> omega
    rw [cells47] at hel
    obtain ⟨fs, hfs⟩ : ∃ fs, prog.underlying 47 = some (.struct fs) ∧ fs.toList.map (fun f => (f.type, f.offset)) = [(3, 0), (3, 1), (3, 2), (3, 3), (3, 4)] := ⟨prog.fieldsOf 47, by kernel_rfl, by kernel_rfl⟩
    have each : ∀ i, i < n → ∃ o : Op5, o.Ok ∧ ∀ j v, j < 5 → o.cells[j]? = some v → W.cell? ((a.add (i * 5)).add j) = some v := by
      intro i hi
      obtain ⟨cs, hc, ht⟩ := hel i (by omega)
      obtain ⟨_, hl, hget⟩ := World.cells?_some hc
      obtain ⟨xs, n', _, _, _, hxl, hfld⟩ := DataW.trod_struct hfs.1 ht
      have one : ∀ j, j < 5 → ∃ z, cs[j]? = some (.int .i64 z) ∧ I64 z := by
        intro j hj
        have hfl : (fs.toList.map fun f => (f.type, f.offset))[j]? = some (3, j) := by
          rw [hfs.2]
          rcases j with _ | _ | _ | _ | _ | j
          · rfl
          · rfl
          · rfl
          · rfl
          · rfl
          · omega
        rw [List.getElem?_map] at hfl
        obtain ⟨f, hf1, hf2⟩ := Option.map_eq_some_iff.1 hfl
        rw [Array.getElem?_toList] at hf1
        have h1 := hfld j f hf1
        injection hf2 with e1 e2
        rw [e1, e2, cells3] at h1
        have hjx : j < xs.length := by
          rw [hxl]; exact (Array.getElem?_eq_some_iff.1 hf1).1
        rw [List.getElem?_eq_getElem hjx] at h1
        obtain ⟨z, e1, _, e3⟩ := DataW.trod_int und3 h1
        refine ⟨z, ?_, wf64 e3⟩
        have h5 : ((cs.drop j).take 1)[0]? = some (.int .i64 z) := by rw [e1]; rfl
        rw [List.getElem?_take, if_pos (by decide), List.getElem?_drop, Nat.add_zero] at h5
        exact h5
      obtain ⟨z0, c0, k0⟩ := one 0 (by decide)
      obtain ⟨z1, c1, k1⟩ := one 1 (by decide)
      obtain ⟨z2, c2, k2⟩ := one 2 (by decide)
      obtain ⟨z3, c3, k3⟩ := one 3 (by decide)
      obtain ⟨z4, c4, k4⟩ := one 4 (by decide)
      refine ⟨⟨z0, z1, z2, z3, z4⟩, ⟨k0, k1, k2, k3, k4⟩, fun j v hj hv => ?_⟩
      rw [hget j hj, ← hv]
      rcases j with _ | _ | _ | _ | _ | j
      · exact c0
      · exact c1
      · exact c2
      · exact c3
      · exact c4
      · omega
    obtain ⟨O, hO⟩ := Deep.choose_lt (α := Op5) (p := fun i o => o.Ok ∧ ∀ j v, j < 5 → o.cells[j]? = some v → W.cell? ((a.add (i * 5)).add j) = some v) each
    refine ⟨some a, n, c, (List.range n).map O, rfl, ?_, by simp, fun o ho => ?_, by simp only [maxLen] at hcm; omega⟩
    · intro i v hv
      have hlen : i < n * 5 := by
        have := (List.getElem?_eq_some_iff.1 hv).1
        rw [opCells, flat_len op_len, List.length_map, List.length_range] at this
        exact this
      have hi5 : i / 5 < n := by omega
      have e : i = i / 5 * 5 + i % 5 := by omega
      have h1 : ((List.range n).map O)[i / 5]? = some (O (i / 5)) := by rw [List.getElem?_map, List.getElem?_range hi5]; rfl
      rw [e, opCells, flat_get op_len _ (i / 5) (i % 5) (by omega) _ h1] at hv
      have hc := (hO (i / 5) hi5).2 (i % 5) v (by omega) hv
      have hs : a.spot = none := by
        have h0 := (hO 0 (by omega)).2 0 _ (by decide) rfl
        rw [Nat.zero_mul] at h0
        simp only [Addr.add, if_true] at h0
        unfold World.cell? at h0
        split at h0
        · split at h0
          · cases h0
          · rename_i hsp; simpa using hsp
        · cases h0
      obtain ⟨ab, ao, asp⟩ := a
      simp only at hs
      subst hs
      refine ⟨ab, ao, rfl, ?_⟩
      rw [← at0_add, ← at0_add, at0_mk, at0_mk] at hc
      rw [e, ← Nat.add_assoc]; exact hc
    · obtain ⟨i, hi, rfl⟩ := List.mem_map.1 ho
      exact (hO i (List.mem_range.1 hi)).1
end
end Go.Proofs.YthpodlcbikialaaDoor
