import Derived.Test.YthpodlcbikialaaDoorShMem3
import Derived.Laws.StructEq
import Derived.ChangeKeysEq
namespace Go.Sh
variable {P : Program}
/-! ## '==' on small structs and arrays of numbers and bools -/
/-- a type of one cell, a number or a bool -/
structure LeafT (P : Program) (e : TypeId) : Prop where
  plain : P.plainKey e = true
  und : (∃ k, P.underlying e = some (.int k)) ∨ P.underlying e = some .bool
/-- two cells of such a type -/
def Leaf2 (a b : Value) : Prop := (∃ k x y, a = .int k x ∧ b = .int k y) ∨ (∃ x y, a = .bool x ∧ b = .bool y)
def LeafT.Fits (P : Program) (e : TypeId) (a b : Value) : Prop := (∃ k k' x y, P.underlying e = some (.int k') ∧ a = .int k x ∧ b = .int k y) ∨ (∃ x y, P.underlying e = some .bool ∧ a = .bool x ∧ b = .bool y)
theorem run_leaf {e : TypeId} {a b : Value} (h : LeafT.Fits P e a b) (d : Nat) (w : World) : ∃ r : Bool, (Op.equalIn (d + 1) e a b).run P w = .ok r w ∧ (r = true ↔ a = b) := by
  rcases h with ⟨k, k', x, y, h, rfl, rfl⟩ | ⟨x, y, h, rfl, rfl⟩
  · exact ⟨_, run_equalIn_int w d e k k' x y h, by simp⟩
  · exact ⟨_, run_equalIn_bool' w d e x y h, by simp⟩
theorem run_eqFields_leaf (d : Nat) (xs ys : Array Value) (w : World) : ∀ (fs : List Field), (∀ f ∈ fs, f.name ≠ "_" ∧ P.plainKey f.type = true ∧ ∃ a b, xs[f.offset]? = some a ∧ ys[f.offset]? = some b ∧ LeafT.Fits P f.type a b) →
    ∃ r : Bool, (Op.eqFields (d + 1) xs ys fs).run P w = .ok r w ∧ (r = true ↔ ∀ f ∈ fs, xs[f.offset]? = ys[f.offset]?)
  | [], _ => ⟨true, by simp [Op.eqFields], by simp⟩
  | f :: fs, h => by
    obtain ⟨hn, hp, a, b, ha, hb, hfit⟩ := h f (by simp)
    obtain ⟨r, hr, hri⟩ := run_leaf hfit d w
    obtain ⟨r', hr', hri'⟩ := run_eqFields_leaf d xs ys w fs fun g hg => h g (by simp [hg])
    have p1 := run_part_plain w hp ha
    have p2 := run_part_plain w hp hb
    cases r with
    | false => 
      refine ⟨false, by simp [Op.eqFields, hn, p1, p2, hr], ?_⟩
      simp only [Bool.false_eq_true, false_iff]
      intro hall
      have := hall f (by simp)
      rw [ha, hb] at this
      injection this with this
      exact absurd (hri.2 this) (by simp)
    | true =>
      refine ⟨r', by simp [Op.eqFields, hn, p1, p2, hr, hr'], ?_⟩
      rw [hri']
      constructor
      · intro hall g hg
        rcases List.mem_cons.1 hg with rfl | hg
        · rw [ha, hb, hri.1 rfl]
        · exact hall g hg
      · exact fun hall g hg => hall g (by simp [hg])
theorem run_eqItems_leaf (d : Nat) {e : TypeId} (hp : P.plainKey e = true) {c : Nat} (xs ys : Array Value) (w : World) : ∀ (is : List Nat), (∀ i ∈ is, ∃ a b, xs[i * c]? = some a ∧ ys[i * c]? = some b ∧ LeafT.Fits P e a b) →
    ∃ r : Bool, (Op.eqItems (d + 1) e c xs ys is).run P w = .ok r w ∧ (r = true ↔ ∀ i ∈ is, xs[i * c]? = ys[i * c]?)
  | [], _ => ⟨true, by simp [Op.eqItems], by simp⟩
  | f :: fs, h => by
    obtain ⟨a, b, ha, hb, hfit⟩ := h f (by simp)
    obtain ⟨r, hr, hri⟩ := run_leaf hfit d w
    obtain ⟨r', hr', hri'⟩ := run_eqItems_leaf d hp xs ys w fs fun g hg => h g (by simp [hg])
    have p1 := run_part_plain w hp ha
    have p2 := run_part_plain w hp hb
    cases r with
    | false => 
      refine ⟨false, by simp [Op.eqItems, p1, p2, hr], ?_⟩
      simp only [Bool.false_eq_true, false_iff]
      intro hall
      have := hall f (by simp)
      rw [ha, hb] at this
      injection this with this
      exact absurd (hri.2 this) (by simp)
    | true =>
      refine ⟨r', by simp [Op.eqItems, p1, p2, hr, hr'], ?_⟩
      rw [hri']
      constructor
      · intro hall g hg
        rcases List.mem_cons.1 hg with rfl | hg
        · rw [ha, hb, hri.1 rfl]
        · exact hall g hg
      · exact fun hall g hg => hall g (by simp [hg])
/-- a struct of such cells -/
structure StructT (P : Program) (t : TypeId) (fs : Array Field) : Prop where
  und : P.underlying t = some (.struct fs)
  stood : P.stoodInHeld t = false
  guard : P.eqGuardType P.depth t = false
theorem struct_run {t : TypeId} {fs : Array Field} (E : StructT P t fs) {xs ys : Array Value} (h : ∀ f ∈ fs.toList, f.name ≠ "_" ∧ P.plainKey f.type = true ∧ ∃ a b, xs[f.offset]? = some a ∧ ys[f.offset]? = some b ∧ LeafT.Fits P f.type a b) (w : World) :
    ∃ r : Bool, (Op.equalIn 10000 t (.agg xs) (.agg ys)).run P w = .ok r w ∧ (r = true ↔ ∀ f ∈ fs.toList, xs[f.offset]? = ys[f.offset]?) := by
  have e : P.fieldsOf t = fs := by simp [Program.fieldsOf, E.und]
  have h1 := run_equalIn_agg (P := P) w 9999 t xs ys (by rw [e]; exact E.und) E.stood
  rw [e] at h1
  obtain ⟨r, hr, hri⟩ := run_eqFields_leaf 9998 xs ys w fs.toList h
  exact ⟨r, h1.trans hr, hri⟩
theorem RunP.eqlStruct {t : TypeId} {fs : Array Field} (E : StructT P t fs) {x y : Operand} {xs ys : Array Value} (h : ∀ f ∈ fs.toList, f.name ≠ "_" ∧ P.plainKey f.type = true ∧ ∃ a b, xs[f.offset]? = some a ∧ ys[f.offset]? = some b ∧ LeafT.Fits P f.type a b)
    {K : Value → Prop} (k : ∀ r : Bool, (r = true ↔ ∀ f ∈ fs.toList, xs[f.offset]? = ys[f.offset]?) → K (.bool r)) : RunP P (binSem .eql t x y (.agg xs) (.agg ys)) K := by
  obtain ⟨r, hr, hri⟩ := struct_run E h default
  refine ⟨.bool r, fun w => ?_, k r hri⟩
  obtain ⟨r1, hr1, hri1⟩ := struct_run E h w
  have : r1 = r := by rw [Bool.eq_iff_iff]; exact hri1.trans hri.symm
  subst this
  unfold binSem
  simp only [Sem.run_bind, run_eqGuard_agg w _ t x y xs ys E.guard, Result.andThen_ok, run_eql_struct, hr1]
theorem RunP.neqStruct {t : TypeId} {fs : Array Field} (E : StructT P t fs) {x y : Operand} {xs ys : Array Value} (h : ∀ f ∈ fs.toList, f.name ≠ "_" ∧ P.plainKey f.type = true ∧ ∃ a b, xs[f.offset]? = some a ∧ ys[f.offset]? = some b ∧ LeafT.Fits P f.type a b)
    {K : Value → Prop} (k : ∀ r : Bool, (r = true ↔ ∀ f ∈ fs.toList, xs[f.offset]? = ys[f.offset]?) → K (.bool (!r))) : RunP P (binSem .neq t x y (.agg xs) (.agg ys)) K := by
  obtain ⟨r, hr, hri⟩ := struct_run E h default
  refine ⟨.bool (!r), fun w => ?_, k r hri⟩
  obtain ⟨r1, hr1, hri1⟩ := struct_run E h w
  have : r1 = r := by rw [Bool.eq_iff_iff]; exact hri1.trans hri.symm
  subst this
  unfold binSem
  simp only [Sem.run_bind, run_eqGuard_agg w _ t x y xs ys E.guard, Result.andThen_ok, run_neq_struct, hr1]
/-- an array of such cells -/
structure ArrT (P : Program) (t e : TypeId) (n : Nat) : Prop where
  und : P.underlying t = some (.array n e)
  info : (P.info? e).isSome = true
  cells : P.cellsOf e = 1
  plain : P.plainKey e = true
  guard : P.eqGuardType P.depth t = false
theorem arr_run {t e : TypeId} {n : Nat} (E : ArrT P t e n) {xs ys : Array Value} (h : ∀ i, i < n → ∃ a b, xs[i]? = some a ∧ ys[i]? = some b ∧ LeafT.Fits P e a b) (w : World) :
    ∃ r : Bool, (Op.equalIn 10000 t (.agg xs) (.agg ys)).run P w = .ok r w ∧ (r = true ↔ ∀ i, i < n → xs[i]? = ys[i]?) := by
  obtain ⟨i, hi⟩ := Option.isSome_iff_exists.1 E.info
  have h1 := run_equalIn_array (P := P) w 9999 xs ys E.und hi
  rw [E.cells] at h1
  obtain ⟨r, hr, hri⟩ := run_eqItems_leaf 9998 E.plain (c := 1) xs ys w (List.range n) fun i hi => by rw [Nat.mul_one]; exact h i (List.mem_range.1 hi)
  refine ⟨r, h1.trans hr, hri.trans ?_⟩
  simp
theorem RunP.eqlArr {t e : TypeId} {n : Nat} (E : ArrT P t e n) {x y : Operand} {xs ys : Array Value} (h : ∀ i, i < n → ∃ a b, xs[i]? = some a ∧ ys[i]? = some b ∧ LeafT.Fits P e a b)
    {K : Value → Prop} (k : ∀ r : Bool, (r = true ↔ ∀ i, i < n → xs[i]? = ys[i]?) → K (.bool r)) : RunP P (binSem .eql t x y (.agg xs) (.agg ys)) K := by
  obtain ⟨r, hr, hri⟩ := arr_run E h default
  refine ⟨.bool r, fun w => ?_, k r hri⟩
  obtain ⟨r1, hr1, hri1⟩ := arr_run E h w
  have : r1 = r := by rw [Bool.eq_iff_iff]; exact hri1.trans hri.symm
  subst this
  unfold binSem
  simp only [Sem.run_bind, run_eqGuard_agg w _ t x y xs ys E.guard, Result.andThen_ok, run_eql_struct, hr1]
end Go.Sh
