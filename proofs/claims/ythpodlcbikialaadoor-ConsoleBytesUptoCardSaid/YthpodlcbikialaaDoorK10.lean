/- ConsoleBytes: where what it reads is of bulk at most 1048576 the law returns true and its arguments read afterwards as they read before. Conditions: the bulk bound of the second form; the package variables that the row lists are as the program's text lays them (tied by the card). -/
import Derived.Test.YthpodlcbikialaaDoorZs
import Derived.Test.YthpodlcbikialaaDoorTie
import Derived.Test.YthpodlcbikialaaDoorCards
import Derived.Test.YthpodlcbikialaaDoorShRow
import Derived.Deep.Slices
import Derived.Deep.DeepHandedRow
import Derived.Deep.DeepWitnessRowRef
import Derived.Lib.LaidTab
import Derived.ChangeMaps5
set_option linter.unusedVariables false
set_option linter.unusedSimpArgs false
set_option linter.unusedVariables false
set_option linter.unusedSimpArgs false
set_option maxRecDepth 100000
namespace Go.Proofs.YthpodlcbikialaaDoor.consoleBytes
open Go Go.Sh Go.Sh.Cb
open Go.ChangeShapes Go.WideShapes Go.ChangeAt Go.WideElems Go.RowKit Go.ChangeMaps

theorem own : ownKnob Tryd.prog.godebug = none := by kernel_rfl
theorem laidOut : laidOutB prog = true := by kernel_rfl
theorem cells5 : prog.cellsOf 5 = 1 := by kernel_rfl
theorem und103 : ∃ ms, prog.underlying 103 = some (.interface ms) := ⟨#[("Error", 140)], by kernel_rfl⟩
theorem gSyn : prog.globalNamed "strconv.ErrSyntax" = some 1 := by kernel_rfl
theorem tSyn : (prog.globals[1]?).map (·.type) = some 103 := by kernel_rfl
theorem trod_iface {H : Type} {enc : TypeId × Value → H} {P : Program} {w : World} {base : Nat} {spare : Nat → Bool} {held : Bool} {fuel : Nat} {t : TypeId} {cs : List Value} {ms : Array (String × TypeId)} {name : String} {d : DataW H} {p : List MemPlace}
    (ht : P.underlying t = some (.interface ms)) (h : DataW.trod enc P w base spare held fuel t cs = some (.iface name d, p)) : ∃ u v, cs = [.iface u v] := by
  cases fuel with
  | zero => simp [DataW.trod] at h
  | succ fuel =>
    unfold DataW.trod at h
    rw [ht] at h
    rcases cs with _ | ⟨c, _ | ⟨c2, r⟩⟩
    · simp at h
    · cases c <;> first | exact ⟨_, _, rfl⟩ | simp at h
    · cases c <;> simp at h
/-- what the row's list gives: strconv.ErrSyntax holds an error -/
theorem es_of {W : World} (h : laidMetH prog Rows.consoleBytesUptoRow.laid W) : Es W := by
  rw [MakeChecks.laidMetH_plain _ _ _ (by kernel_rfl)] at h
  obtain ⟨ps, h, _, _⟩ := h
  obtain ⟨_, _, _, _, _, _, _, _, _, _, h, _⟩ := h
  obtain ⟨_, _, _, _, _, _, _, _, _, _, h, _⟩ := h
  obtain ⟨_, _, _, _, _, _, _, _, _, _, h, _⟩ := h
  obtain ⟨_, _, _, _, _, _, _, _, _, _, h, _⟩ := h
  obtain ⟨g, t, cs, f, p, q, hg, ht, hv, hd, h, _⟩ := h
  obtain rfl := Option.some.inj (gSyn.symm.trans hg)
  obtain rfl := Option.some.inj (tSyn.symm.trans ht)
  obtain ⟨ms, hu⟩ := und103
  obtain ⟨u, v, hc⟩ := trod_iface hu (show DataW.trod _ _ _ _ _ _ _ _ _ = some (.iface _ _, _) from hd)
  refine ⟨u, v, ?_⟩
  rw [World.var?_cell hg hv 0, ← Array.getElem?_toList, hc]; rfl

theorem one_le {H : Type} (d : DataW H) : 1 ≤ Rows.uptoBulk d := by
  cases d with
  | lit l => cases l <;> simp [Rows.uptoBulk]
  | nil => simp [Rows.uptoBulk]
  | ptr d => simp [Rows.uptoBulk]
  | slice elems spare => simp [Rows.uptoBulk]
  | agg parts => simp [Rows.uptoBulk]
  | iface t d => simp [Rows.uptoBulk]
  | map entries => simp [Rows.uptoBulk]
  | held h => simp [Rows.uptoBulk]
theorem length_le {H : Type} (l : List (DataW H)) : l.length ≤ Rows.uptoBulkAll l := by
  induction l with
  | nil => simp [Rows.uptoBulkAll]
  | cons x r ih => have := one_le x; simp only [Rows.uptoBulkAll, List.length_cons]; omega
section
variable {H : Type} {enc : TypeId × Value → H}
theorem open_bytes {W : World} {base : Nat} {v : Value} {d : DataW H} {ps : List MemPlace} (hv : Value.okWide prog W .any base 66 v) (h : DataW.Trod enc prog W 0 (fun _ => true) true 66 v d ps) :
    ∃ q n c l, v = .slice q n c ∧ Rd W q (bvs l) ∧ l.length = n ∧ n ≤ c ∧ (q = none → c = 0) ∧ n ≤ Rows.uptoBulk d := by
  obtain ⟨q, n, c, rfl⟩ : ∃ q n c, v = .slice q n c := okWide_slice und66 hv
  obtain ⟨fuel, hf⟩ := h
  rcases Deep.open_slice1 und66 cells5 hf with ⟨h0, hx⟩ | ⟨a, len, cap, m, nn, V, D, Pl, hcs, _, hlc, hcm, hm, hx, hel⟩
  · simp only [Value.cells, List.cons.injEq, and_true] at h0
    injection h0 with h1 h2 h3
    subst h1 h2 h3
    exact ⟨none, 0, 0, [], rfl, Rd.nil _ _, rfl, Nat.le_refl _, fun _ => rfl, Nat.zero_le _⟩
  · simp only [Value.cells, List.cons.injEq, and_true] at hcs
    injection hcs with h1 h2 h3
    subst h1 h2 h3
    have hm' : n ≤ m := by rw [hm]; split <;> omega
    have each : ∀ i, i < n → ∃ x : UInt8, W.cell? (a.add i) = some (bv x) := by
      intro i hi
      obtain ⟨hc, ht⟩ := hel i (by omega)
      obtain ⟨z, e1, _, e3⟩ := DataW.trod_int und5 ht
      simp only [List.cons.injEq, and_true] at e1
      simp only [Lit.wf, Bool.and_eq_true, decide_eq_true_eq] at e3
      have hz : 0 ≤ z ∧ z ≤ 255 := e3
      refine ⟨UInt8.ofNat z.toNat, ?_⟩
      rw [hc, e1]
      unfold bv
      rw [UInt8.toNat_ofNat_of_lt' (by show _ < 256; omega), Int.toNat_of_nonneg hz.1]
    obtain ⟨O, hO⟩ := Deep.choose_lt (α := UInt8) (p := fun i x => W.cell? (a.add i) = some (bv x)) each
    refine ⟨some a, n, c, (List.range n).map O, rfl, ?_, by simp, hlc, (fun h => by cases h), ?_⟩
    · intro i v hv
      have hi : i < n := by
        have := (List.getElem?_eq_some_iff.1 hv).1
        simpa using this
      have hc := hO i hi
      have hv' : bv (O i) = v := by
        rw [List.getElem?_map, List.getElem?_map, List.getElem?_range hi] at hv; exact Option.some.inj hv
      have hs : a.spot = none := by
        have h0 := hO 0 (by omega)
        simp only [Addr.add, if_true] at h0
        unfold World.cell? at h0
        split at h0
        · split at h0
          · cases h0
          · rename_i hsp; simpa using hsp
        · cases h0
      obtain ⟨ab, ao, asp⟩ := a
      simp only at hs
      subst hs
      refine ⟨ab, ao, rfl, ?_⟩
      rw [← at0_add, at0_mk] at hc
      rw [hc, hv']
    · injection hx with hx1 hx2
      rw [hx1]
      simp only [Rows.uptoBulk]
      have := length_le ((List.range n).map D)
      simp at this
      omega
end
theorem law (H : Type) (enc : TypeId × Value → H) (W : World) (base : Nat) (args : Array Value) (ds gs : List (DataW H)) (before : List MemPlace)
    (hval0 : ∀ (j : Nat) t v, Tryd.f10.params[j]? = some t → args[j]? = some v → Value.okWide Tryd.prog W .any base t v)
    (hW : DataW.Whole enc Tryd.prog Tryd.f10.params.toList Rows.consoleBytesSpec.vars false W args.toList ds gs before) (hL : laidMetH Tryd.prog Rows.consoleBytesUptoRow.laid W) (hB : Rows.uptoSmall H (ds ++ gs) = true) :
    Calls Tryd.prog 10 args W fun e W' => ∃ v, e = .returned v ∧ Rows.consoleBytesSpec.post enc Tryd.prog Tryd.f10 false true false false W args v W' := by
  have hval : ∀ (j : Nat) t v, Tryd.f10.params[j]? = some t → args[j]? = some v → Value.okWide Tryd.prog W .any base t v := hval0
  have hW' := hW
  obtain ⟨p, q, hA0, hV, rfl, hfz, hnd⟩ := hW
  have hA : DataW.TrodAll enc Tryd.prog W 0 (fun _ => true) true Tryd.f10.params.toList args.toList ds p := hA0
  rw [Tryd.params10] at hA hval
  obtain ⟨v0, vs0, d0, ds0, p0, q0, hargs, rfl, rfl, h0, r0⟩ := trodAll_cons hA
  obtain ⟨v1, vs1, d1, ds1, p1, q1, rfl, rfl, rfl, h1, r1⟩ := trodAll_cons r0
  obtain ⟨rfl, rfl, rfl⟩ := trodAll_nil r1
  obtain rfl : args = #[v0, v1] := by cases args; simp_all
  obtain ⟨rfl, rfl⟩ := trodVars_none hV
  have hB2 : Rows.uptoBulkAll ([d0, d1] ++ []) ≤ 1048576 := of_decide_eq_true hB
  simp only [List.append_nil, Rows.uptoBulkAll] at hB2
  obtain ⟨b, n, c, l, rfl, hR, hn, hnc, hbn, hbulk⟩ := open_bytes (hval 0 66 v0 rfl rfl) h0
  obtain ⟨s, rfl, rfl, rfl, hs⟩ := open_string und9 (hval 1 9 v1 rfl rfl) h1
  clear hA0 hval0
  have hst : s.data.toList.length ≤ 1048576 := by
    simp only [Rows.uptoBulk] at hB2; omega
  have hw := f10 (es_of hL) hR hn hnc hbn (by omega) hst
  rw [str_data] at hw
  refine Calls.mono hw fun e W' ⟨v, he, hv, hf⟩ => ?_
  subst he; subst hv
  refine ⟨_, rfl, post_law rfl rfl (by kernel_rfl) Tryd.underlying4 laidOut ?_ hW' hf⟩
  rw [Tryd.params10]
  intro t ht
  have hall : ([66, 9].all fun t => prog.readableRec t && decide (t < prog.types.size)) = true := by kernel_rfl
  have := List.all_eq_true.1 hall t ht
  simp only [Bool.and_eq_true, decide_eq_true_eq] at this
  exact this
theorem door_met (os : Os) (args : Array Value) : laidMetH prog Rows.consoleBytesUptoRow.laid ((World.doorLaid prog 4000 os).forCall (fun _ _ => 0) ⟨#[], args, []⟩).memory :=
  laidMetH_of_parts3 (fuel := 8) (laidMet_of_run' 8 (by kernel_rfl) (by kernel_rfl)) (by kernel_rfl) (by kernel_rfl)
theorem reads (os : Os) {H : Type} (enc : TypeId × Value → H) : ∃ places, DataW.whole enc Tryd.prog ((World.doorLaid Tryd.prog 4000 os).forCall (fun _ _ => 0) ⟨#[], #[.slice none 0 0, .string .empty], []⟩).memory Tryd.f10.params.toList Rows.consoleBytesSpec.vars false #[Value.slice none 0 0, .string .empty].toList 8 = some ([.nil, .lit (.string [])], [], places) :=
  ⟨[], by kernel_rfl⟩
theorem lifted (os : Os) (started : os.Started) (H : Type) (enc : TypeId × Value → H) (F : Stop.Interp) :
    ReturnsInHanded {} Tryd.checked os 10 .any ((Rows.OpenSpec.upto Rows.consoleBytesSpec).preRow enc Tryd.prog Tryd.f10 Rows.consoleBytesUptoRow.domain false Rows.consoleBytesUptoRow.laid) (((Rows.OpenSpec.upto Rows.consoleBytesSpec).at F).post enc Tryd.prog Tryd.f10 false true false false) := by
  obtain ⟨places, hx⟩ := reads os enc
  refine returnsInHanded_of_row (C := Tryd.checked) (s := Rows.OpenSpec.upto Rows.consoleBytesSpec) own started (by kernel_rfl) Tryd.func10
    (witness_row_atRef (enc := enc) (C := Tryd.checked) false (World.doorLaid Tryd.prog 4000 os) #[.slice none 0 0, .string .empty] rfl (by kernel_rfl) (by kernel_rfl) (by kernel_rfl)
      (OpenSpec.preRow_of_cond 8 hx (by kernel_rfl) (fun k hk => by cases hk; kernel_rfl) (by kernel_rfl) (door_met os _))) ?_
  intro W base args ds gs before hval hW _ hcond _ hL _ _
  exact law H enc W base args ds gs before hval hW hL (hcond _ rfl)
theorem row : Rows.ConsoleBytesUptoSaid :=
  OpenClaim.holds_of_cond 10 Tryd.f10 rfl rfl rfl rfl rfl rfl rfl ⟨rfl, rfl, rfl, rfl, rfl⟩ rfl rfl rfl rfl rfl (by kernel_rfl) Tryd.func10 (by kernel_rfl)
    (of_decide_eq_true (by kernel_rfl)) (by unfold Func.isWrapper; first | (rw [if_pos (by decide +kernel)]; kernel_rfl) | (rw [if_neg (by decide +kernel)]; exact ⟨rfl, rfl⟩))
    (fun os started H enc _ F => by rw [OpenClaim.pre_eq_preRow]; exact lifted os started H enc F)
theorem plain (f : FuncId) (fn : Func) (hf : Tryd.pinned.checked.prog.funcNamed "atlas/atlaslaw30.ConsoleBytes" = some f) (hfn : Tryd.pinned.checked.prog.funcs[f]? = some fn) :
    true = Tryd.pinned.checked.prog.looks [] ∧ ∀ (j : Nat) t, fn.params[j]? = some t → Tryd.pinned.checked.prog.wantsStandIn t = false := by
  obtain rfl : f = 10 := Option.some.inj ((show Tryd.prog.funcNamed "atlas/atlaslaw30.ConsoleBytes" = some 10 by kernel_rfl).symm.trans hf) |>.symm
  obtain rfl : fn = Tryd.f10 := (Option.some.inj (Tryd.func10.symm.trans hfn)).symm
  refine ⟨by kernel_rfl, fun j t ht => ?_⟩
  rw [Tryd.params10] at ht
  have hm : t ∈ [66, 9] := by simpa using Array.mem_of_getElem? ht
  have hall : ([66, 9].all fun u => !Tryd.prog.wantsStandIn u) = true := by kernel_rfl
  exact (show Tryd.prog.wantsStandIn t = false by simpa using List.all_eq_true.1 hall t hm)
theorem holds : Rows.ConsoleBytesUptoCardSaid :=
  Claim7.holds_tied_plain_at .later [] _ _ _ _ row (fun _ h => by cases h) (by kernel_rfl) (fun _ h => by cases h) consoleBytesUpto_row_tie rfl ⟨rfl, rfl⟩ (by kernel_rfl) rfl plain (by kernel_rfl)
#print axioms holds
end Go.Proofs.YthpodlcbikialaaDoor.consoleBytes
