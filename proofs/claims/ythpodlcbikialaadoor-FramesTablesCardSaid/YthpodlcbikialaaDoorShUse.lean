import Derived.Test.YthpodlcbikialaaDoorShF
namespace Go.Sh
/-! ## the words of a proof over shallow functions -/
section as
variable {K : Value → Prop}
theorem AsI_int {k : IntKind} {x : Int} {K : Int → Prop} : AsI k (.int k x) K ↔ K x := ⟨fun ⟨y, h, hk⟩ => by injection h with _ h; subst h; exact hk, fun h => ⟨x, rfl, h⟩⟩
theorem AsB_bool {x : Bool} {K : Bool → Prop} : AsB (.bool x) K ↔ K x := ⟨fun ⟨y, h, hk⟩ => by injection h with h; subst h; exact hk, fun h => ⟨x, rfl, h⟩⟩
theorem AsS_string {x : ByteArray} {K : ByteArray → Prop} : AsS (.string x) K ↔ K x := ⟨fun ⟨y, h, hk⟩ => by injection h with h; subst h; exact hk, fun h => ⟨x, rfl, h⟩⟩
theorem AsP_pointer {x : Option Addr} {K : Option Addr → Prop} : AsP (.pointer x) K ↔ K x := ⟨fun ⟨y, h, hk⟩ => by injection h with h; subst h; exact hk, fun h => ⟨x, rfl, h⟩⟩
theorem AsSl_slice {a : Option Addr} {n c : Nat} {K : Option Addr → Nat → Nat → Prop} : AsSl (.slice a n c) K ↔ K a n c :=
  ⟨fun ⟨_, _, _, h, hk⟩ => by injection h with h1 h2 h3; subst h1 h2 h3; exact hk, fun h => ⟨a, n, c, rfl, h⟩⟩
theorem AsM_map {x : Option Nat} {K : Option Nat → Prop} : AsM (.map x) K ↔ K x := ⟨fun ⟨y, h, hk⟩ => by injection h with h; subst h; exact hk, fun h => ⟨x, rfl, h⟩⟩
theorem UnC_cons {v : Value} {s : List Value} {K : Value → List Value → Prop} : UnC (v :: s) K ↔ K v s :=
  ⟨fun ⟨_, _, h, hk⟩ => by injection h with h1 h2; subst h1 h2; exact hk, fun h => ⟨v, s, rfl, h⟩⟩
theorem UnN_nil {K : Prop} : UnN [] K ↔ K := ⟨fun h => h.2, fun h => ⟨rfl, h⟩⟩
theorem AsAgg_agg {l : List Value} {K : List Value → Prop} : AsAgg (.agg l.toArray) K ↔ K l :=
  ⟨fun ⟨_, h, hk⟩ => by injection h with h; have := congrArg Array.toList h; simp at this; subst this; exact hk, fun h => ⟨l, rfl, h⟩⟩
theorem AsTup_tuple {l : List Value} {K : List Value → Prop} : AsTup (.tuple l.toArray) K ↔ K l :=
  ⟨fun ⟨_, h, hk⟩ => by injection h with h; have := congrArg Array.toList h; simp at this; subst this; exact hk, fun h => ⟨l, rfl, h⟩⟩
theorem BIf_true {x y : Prop} : BIf true x y ↔ x := Iff.rfl
theorem BIf_false {x y : Prop} : BIf false x y ↔ y := Iff.rfl
theorem BIf_dec {p : Prop} [Decidable p] {x y : Prop} : BIf (decide p) x y ↔ if p then x else y := by
  by_cases h : p <;> simp [h, BIf]
theorem NilP_some {a : Addr} {K : Addr → Prop} : NilP (some a) K ↔ K a := Iff.rfl
theorem at0_mk {b o n : Nat} : at0 ⟨b, o, none⟩ n = ⟨b, o + n, none⟩ := by cases n <;> rfl
theorem NZ_iff {b : Int} {K : Prop} : NZ b K ↔ b ≠ 0 ∧ K := ⟨NZ.out, fun h => NZ.mk h.1 h.2⟩
theorem NN_iff {b : Int} {K : Prop} : NN b K ↔ 0 ≤ b ∧ K := ⟨NN.out, fun h => NN.mk h.1 h.2⟩
end as

/-! ### memory: a block that is known whole -/
/-- block b holds just these cells, none of them frozen -/
def Has (w : World) (b : Nat) (l : List Value) : Prop := ∃ t, w.heap[b]? = some (.cells l.toArray t (0, 0))
/-- nothing but draws has happened -/
structure Qt (w w' : World) : Prop where
  heap : w'.heap = w.heap
  os : w'.os = w.os
  output : w'.output = w.output
  tape : w'.tape = w.tape
theorem Qt.refl (w : World) : Qt w w := ⟨rfl, rfl, rfl, rfl⟩
theorem Qt.trans {a b c : World} (h : Qt a b) (k : Qt b c) : Qt a c := ⟨k.heap.trans h.heap, k.os.trans h.os, k.output.trans h.output, k.tape.trans h.tape⟩
theorem Qt.drew {a b : World} (h : Qt a b) : Qt a b.drew := ⟨h.heap, h.os, h.output, h.tape⟩
theorem Qt.drewn {a b : World} {n : Nat} (h : Qt a b) : Qt a { b with drawn := n } := ⟨h.heap, h.os, h.output, h.tape⟩
/-- blocks outside S are as they were; none has gone -/
structure Fr (S : Nat → Prop) (w w' : World) : Prop where
  os : w'.os = w.os
  output : w'.output = w.output
  tape : w'.tape = w.tape
  size : w.heap.size ≤ w'.heap.size
  block : ∀ b, b < w.heap.size → ¬ S b → w'.heap[b]? = w.heap[b]?
theorem Fr.refl (S : Nat → Prop) (w : World) : Fr S w w := ⟨rfl, rfl, rfl, Nat.le_refl _, fun _ _ _ => rfl⟩
theorem Qt.fr {S : Nat → Prop} {w w' : World} (h : Qt w w') : Fr S w w' := ⟨h.os, h.output, h.tape, by rw [h.heap]; exact Nat.le_refl _, fun _ _ _ => by rw [h.heap]⟩
theorem Fr.mono {S S' : Nat → Prop} {w w' : World} (h : Fr S w w') (hs : ∀ b, b < w.heap.size → S b → S' b) : Fr S' w w' :=
  ⟨h.os, h.output, h.tape, h.size, fun b hb hn => h.block b hb fun hS => hn (hs b hb hS)⟩
theorem Fr.trans {S : Nat → Prop} {a b c : World} (h : Fr S a b) (k : Fr S b c) : Fr S a c :=
  ⟨k.os.trans h.os, k.output.trans h.output, k.tape.trans h.tape, Nat.le_trans h.size k.size, fun i hi hn => (k.block i (Nat.lt_of_lt_of_le hi h.size) hn).trans (h.block i hi hn)⟩
theorem Has.lt {w : World} {b : Nat} {l : List Value} (h : Has w b l) : b < w.heap.size := by
  obtain ⟨t, h⟩ := h
  exact (Array.getElem?_eq_some_iff.1 h).1
theorem Has.qt {w w' : World} {b : Nat} {l : List Value} (h : Has w b l) (q : Qt w w') : Has w' b l := by
  obtain ⟨t, h⟩ := h; exact ⟨t, by rw [q.heap]; exact h⟩
theorem Has.fr {S : Nat → Prop} {w w' : World} {b : Nat} {l : List Value} (h : Has w b l) (f : Fr S w w') (hS : ¬ S b) : Has w' b l := by
  have hl := h.lt
  obtain ⟨t, h⟩ := h; exact ⟨t, by rw [f.block b hl hS]; exact h⟩
theorem Has.drew {w : World} {b : Nat} {l : List Value} (h : Has w b l) : Has w.drew b l := h
theorem Has.uniq {w : World} {b : Nat} {l l' : List Value} (h : Has w b l) (h' : Has w b l') : l = l' := by
  obtain ⟨t, h⟩ := h; obtain ⟨t', h'⟩ := h'
  rw [h] at h'; injection h' with h'; injection h' with h1 h2 h3
  have := congrArg Array.toList h1; simpa using this
theorem Has.cell {w : World} {b o : Nat} {l : List Value} (h : Has w b l) : w.cell? ⟨b, o, none⟩ = l[o]? := by
  obtain ⟨t, h⟩ := h; simp [World.cell?, h]
theorem Has.frozen {w : World} {b o : Nat} {l : List Value} (h : Has w b l) : w.frozen? ⟨b, o, none⟩ = false := by
  obtain ⟨t, h⟩ := h; simp [World.frozen?, h]
/-- a load, by what the block holds -/
theorem Has.ld {w : World} {b o : Nat} {l : List Value} {v : Value} {K : Value → Prop} (h : Has w b l) (hv : l[o]? = some v) (k : K v) : Ld w ⟨b, o, none⟩ K := ⟨v, by rw [h.cell]; exact hv, k⟩
theorem Has.ld_iff {w : World} {b : Nat} {l : List Value} (h : Has w b l) {o : Nat} {K : Value → Prop} : Ld w ⟨b, o, none⟩ K ↔ ∃ v, l[o]? = some v ∧ K v := by
  unfold Ld; rw [h.cell]
theorem heap_setCell (w : World) (a : Addr) (u : Value) (k : Nat) (h : k ≠ a.block) : (w.setCell a u).heap[k]? = w.heap[k]? := by
  simp only [World.setCell, Array.getElem?_modify]
  rw [if_neg (by omega)]
theorem size_setCell (w : World) (a : Addr) (u : Value) : (w.setCell a u).heap.size = w.heap.size := by simp [World.setCell]
theorem Has.set {w : World} {b o : Nat} {l : List Value} {v : Value} (h : Has w b l) : Has (w.setCell ⟨b, o, none⟩ v) b (l.set o v) := by
  obtain ⟨t, h⟩ := h
  refine ⟨t, ?_⟩
  simp only [World.setCell, Array.getElem?_modify, h]
  simp
/-- a store, by what the block holds: behind it a new world of which this is known -/
theorem Has.st {w : World} {b o : Nat} {l : List Value} {v : Value} {K : World → Prop} (h : Has w b l) (ho : o < l.length) (h1 : v.oneCell' = true)
    (k : ∀ w', Has w' b (l.set o v) → Fr (· = b) w w' → w'.heap.size = w.heap.size → K w') : St w ⟨b, o, none⟩ v K :=
  ⟨⟨l[o], by rw [h.cell]; simp [ho]⟩, h.frozen, h1, k _ h.set ⟨rfl, rfl, rfl, by rw [size_setCell]; exact Nat.le_refl _, fun k _ hk => heap_setCell _ _ _ _ hk⟩ (size_setCell _ _ _)⟩
/-- a new block -/
theorem New.mk {w : World} {cells : Array Value} {t : TypeId} {K : Addr → World → Prop}
    (k : ∀ w', Has w' w.heap.size cells.toList → Fr (fun _ => False) w w' → w'.heap.size = w.heap.size + 1 → K ⟨w.heap.size, 0, none⟩ w') : New w cells t K := by
  refine k _ ⟨t, ?_⟩ ⟨rfl, rfl, rfl, by simp, fun b hb _ => ?_⟩ (by simp)
  · show (w.heap.push _)[w.heap.size]? = _
    simp
  · show (w.heap.push _)[b]? = _
    rw [Array.getElem?_push, if_neg (by omega)]
theorem Fr.drew {S : Nat → Prop} {a b : World} (h : Fr S a b) : Fr S a b.drew := ⟨h.os, h.output, h.tape, h.size, h.block⟩
theorem Fr.of_drew {S : Nat → Prop} {a b : World} (h : Fr S a.drew b) : Fr S a b := ⟨h.os, h.output, h.tape, h.size, h.block⟩
theorem Qt.of_drew {a b : World} (h : Qt a.drew b) : Qt a b := ⟨h.heap, h.os, h.output, h.tape⟩

/-- a contract: the call returns, and this is what is known -/
def Ret (P : Program) (f : FuncId) (args : Array Value) (w : World) (R : Value → World → Prop) : Prop := Calls P f args w fun e w' => ∃ v, e = .returned v ∧ R v w'
theorem Ret.use {P : Program} {f : FuncId} {args : Array Value} {w : World} {R K : Value → World → Prop} (h : Ret P f args w R) (k : ∀ v w', R v w' → K v w') : CallS P f args w K :=
  Calls.mono h fun e w' ⟨v, he, hv⟩ => ⟨v, he, k v w' hv⟩
theorem Ret.mono {P : Program} {f : FuncId} {args : Array Value} {w : World} {R K : Value → World → Prop} (h : Ret P f args w R) (k : ∀ v w', R v w' → K v w') : Ret P f args w K :=
  Calls.mono h fun e w' ⟨v, he, hv⟩ => ⟨v, he, k v w' hv⟩
end Go.Sh
