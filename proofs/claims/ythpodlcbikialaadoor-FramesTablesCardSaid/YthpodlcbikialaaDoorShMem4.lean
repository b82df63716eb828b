import Derived.Test.YthpodlcbikialaaDoorShEq
set_option linter.unusedVariables false
namespace Go.Sh
variable {P : Program}
theorem foldl_set' (l : List Value) : ∀ (k off : Nat) (pre cs : List Value), pre.length = off + k → l.length ≤ cs.length →
    ((l.zipIdx k).foldl (fun cs (c, j) => cs.setIfInBounds (off + j) c) (pre ++ cs).toArray : Array Value) = (pre ++ l ++ cs.drop l.length).toArray := by
  induction l with
  | nil => intro k off pre cs _ _; simp
  | cons x r ih =>
    intro k off pre cs hp hl
    cases cs with
    | nil => simp at hl
    | cons y t =>
      simp only [List.zipIdx_cons, List.foldl_cons]
      have : ((pre ++ y :: t).toArray.setIfInBounds (off + k) x : Array Value) = ((pre ++ [x]) ++ t).toArray := by
        apply Array.ext'
        simp [← hp]
      rw [this, ih (k + 1) off (pre ++ [x]) t (by simp [hp]; omega) (by simpa using hl)]
      simp
theorem fill_all (size : Nat) : ∀ (vs : List Value) (n : Nat) (pre cs : List Value), pre.length = n * size → cs.length = vs.length * size → (∀ v ∈ vs, v.cells.size = size) →
    Instr.fill (fun i => some (i * size, size)) (pre ++ cs).toArray ((vs.zipIdx n).map fun x => (x.2, x.1)) = some (pre ++ vs.flatMap fun v => v.cells.toList).toArray
  | [], n, pre, cs, _, hc, _ => by
    have : cs = [] := by simpa using hc
    subst this
    simp [Instr.fill]
  | v :: vs, n, pre, cs, hp, hc, hv => by
    have h0 := hv v (by simp)
    have hcl : size ≤ cs.length := by rw [hc, List.length_cons, Nat.add_mul]; omega
    simp only [List.zipIdx_cons, List.map_cons, Instr.fill]
    rw [if_neg (by simp [h0]; omega)]
    have e := foldl_set' v.cells.toList 0 (n * size) pre cs (by simpa using hp) (by simpa [h0] using hcl)
    rw [← Array.foldl_toList, Array.toList_zipIdx, e]
    have := fill_all size vs (n + 1) (pre ++ v.cells.toList) (cs.drop v.cells.toList.length) (by simp [hp, h0, Nat.add_mul]) (by simp [hc, h0, Nat.add_mul]) fun u hu => hv u (by simp [hu])
    rw [this]
    simp
/-- a slice of elements, written out -/
theorem RunV.buildN {t e : TypeId} {z : Value} {size bytes : Nat} (E : ElemT P t e z size bytes) {w : World} {K : Value → World → Prop} (vs : List Value) (parts : Array (Nat × Value)) (hparts : parts.toList = (vs.zipIdx 0).map fun x => (x.2, x.1)) (n : Nat) (hn : vs.length = n) (hpos : 0 < n)
    (hsz : n * size ≤ 16777216) (hv : ∀ v ∈ vs, v.cells.size = size)
    (k : ∀ w', Has w' w.heap.size (vs.flatMap fun v => v.cells.toList) → Fr0 w w' → w'.heap.size = w.heap.size + 1 → K (.slice (some ⟨w.heap.size, 0, none⟩) n n) w') :
    RunV P (Instr.buildSlice t n parts) w K := by
  have hi := E.info
  cases hinf : P.info? e with
  | none => rw [hinf] at hi; cases hi
  | some i =>
    rw [hinf] at hi
    simp only [Option.map_some, Option.some.injEq, Prod.mk.injEq] at hi
    obtain ⟨hz, hs, hb⟩ := hi
    refine ⟨_, w.alloc (.cells (vs.flatMap fun v => v.cells.toList).toArray e), ?_, k _ (Has.made w _ e) (Fr.made w _) (by simp)⟩
    have h1 : 0 < n * size := Nat.mul_pos hpos E.pos
    have h0 : n * size ≠ 0 := by omega
    have hle : ¬ (n * size > 2 ^ 24) := by omega
    have hfill := fill_all size vs 0 [] ((List.range (n * size)).map (fun x => z.cells[x % z.cells.size]!)) (by simp) (by simp [hn]) hv
    have e2 : (Array.range (n * size)).map (fun x => z.cells[x % z.cells.size]!) = ([] ++ (List.range (n * size)).map (fun x => z.cells[x % z.cells.size]!)).toArray := by
      apply Array.ext'; simp
    simp only [Instr.buildSlice, Sem.run_bind, under_run E.und, Result.andThen_ok, size_run (show sizeP P e = some size by simp [sizeP, hinf, hs]), if_neg hle, if_neg h0,
      zero_run (show zeroP P e = some z by simp [zeroP, hinf, hz]), Sem.run_pure, hparts, e2, hfill]
    simp [newRow]
/-- an empty slice, written out -/
theorem RunV.build0 {t e : TypeId} {z : Value} {size bytes : Nat} (E : ElemT P t e z size bytes) {w : World} {K : Value → World → Prop} (B : Nat) (hB : B ≤ w.heap.size)
    (k : ∀ p w', Sl w' B e size p 0 0 [] → Fr0 w w' → (∀ b, On p b → w.heap.size ≤ b) → K (.slice p 0 0) w') : RunV P (Instr.buildSlice t 0 #[]) w K := by
  have hi := E.info
  cases hinf : P.info? e with
  | none => rw [hinf] at hi; cases hi
  | some i =>
    rw [hinf] at hi
    simp only [Option.map_some, Option.some.injEq, Prod.mk.injEq] at hi
    obtain ⟨hz, hs, hb⟩ := hi
    refine ⟨.slice (some ⟨w.heap.size, 0, none⟩) 0 0, w.alloc (.cells #[] e), ?_, k (some ⟨w.heap.size, 0, none⟩) _ ⟨by simp, .inr ⟨w.heap.size, 0, #[], rfl, hB, ?_, by omega, by simp only [maxLen]; omega, by simp, by simp⟩⟩ (Fr.made w _) ?_⟩
    · simp [Instr.buildSlice, under_run E.und, size_run (show sizeP P e = some size by simp [sizeP, hinf, hs]), Instr.fill, newRow]
      congr 2
      apply Array.ext'; simp
    · show (w.heap.push _)[w.heap.size]? = _; simp
    · rintro b ⟨a, ha, rfl⟩; injection ha with ha; subst ha; exact Nat.le_refl _
theorem andI_one {y : Int} (h : -9223372036854775808 ≤ y ∧ y ≤ 9223372036854775807) : andI .i64 y 1 = y % 2 := by
  unfold andI
  rw [BitVec.toNat_and]
  show IntKind.i64.wrap (((BitVec.ofInt 64 y).toNat &&& (BitVec.ofInt 64 1).toNat : Nat) : Int) = _
  rw [show (BitVec.ofInt 64 1).toNat = 1 from rfl, Nat.and_one_is_mod, BitVec.toNat_ofInt]
  rw [w64 (by omega) (by omega)]
  omega
end Go.Sh
