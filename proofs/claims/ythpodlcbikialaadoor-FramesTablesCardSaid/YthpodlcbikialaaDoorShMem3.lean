import Derived.Test.YthpodlcbikialaaDoorShMem2
import Derived.Laws.MakeOwn
import Derived.Laws.OwnMore
namespace Go.Sh
variable {P : Program}
theorem slAddr_zero {p : Option Addr} {c size : Nat} : slAddr p 0 c size = p := by
  unfold slAddr
  split
  · rfl
  · rw [Nat.zero_mul]; cases p <;> rfl
/-- what may be appended: m elements, the cells news -/
def SrcOk (w : World) (size : Nat) (q : Option Addr) (m c : Nat) (news : List Value) : Prop :=
  news.length = m * size ∧ ((q = none ∧ m = 0 ∧ c = 0) ∨ ∃ b o, q = some ⟨b, o, none⟩ ∧ ∀ j u, news[j]? = some u → w.cell? ⟨b, o + j, none⟩ = some u)
section
variable {w w' : World} {B : Nat} {e : TypeId} {size n c : Nat} {p : Option Addr} {xs : List Value}
theorem Sl.src (h : Sl w B e size p n c xs) : SrcOk w size p n c xs := by
  refine ⟨h.len, ?_⟩
  rcases h.cases with ⟨h1, h2, h3, _⟩ | ⟨g, sp, hp, _, hh, _⟩
  · exact .inl ⟨h1, h2, h3⟩
  · refine .inr ⟨g, 0, hp, fun j u hj => ?_⟩
    rw [Nat.zero_add, hh.cell, List.getElem?_append_left (List.getElem?_eq_some_iff.1 hj).1, hj]
theorem Sl.src_sub (h : Sl w B e size p n c xs) {lo hi : Nat} (hlo : lo ≤ hi) (hhi : hi ≤ n) : SrcOk w size (slAddr p lo c size) (hi - lo) (c - lo) ((xs.drop (lo * size)).take ((hi - lo) * size)) := by
  have hlen := h.len
  have h1 : hi * size ≤ n * size := Nat.mul_le_mul_right _ hhi
  have h2 : (hi - lo) * size = hi * size - lo * size := Nat.sub_mul _ _ _
  refine ⟨by simp [hlen, h2]; omega, ?_⟩
  rcases h.cases with ⟨rfl, rfl, rfl, _⟩ | ⟨g, sp, rfl, _, hh, hnc, _⟩
  · exact .inl ⟨by unfold slAddr; split <;> rfl, by omega, by omega⟩
  · by_cases hc : c = lo
    · refine .inr ⟨g, 0, by unfold slAddr; rw [if_pos hc], fun j u hj => ?_⟩
      have : hi - lo = 0 := by omega
      rw [this] at hj; simp at hj
    · refine .inr ⟨g, lo * size, by unfold slAddr; rw [if_neg hc]; simp [at0_mk], fun j u hj => ?_⟩
      rw [List.getElem?_take] at hj
      split at hj
      · rw [List.getElem?_drop] at hj
        rw [hh.cell, List.getElem?_append_left (List.getElem?_eq_some_iff.1 hj).1, hj]
      · cases hj
theorem Sl.pre (h : Sl w B e size p n c xs) {i : Nat} (hi : i ≤ n) : Sl w B e size p i c (xs.take (i * size)) := by
  have h1 : i * size ≤ n * size := Nat.mul_le_mul_right _ hi
  refine ⟨by rw [List.length_take, h.len]; omega, ?_⟩
  rcases h.2 with ⟨h0, h2⟩ | ⟨g, cap, cur, hv, hb, hg, hnc, hcm, hcs, ht⟩
  · injection h0 with h0 _ h3; subst h0 h3; exact .inl ⟨by rw [show i = 0 by omega], by omega⟩
  · injection hv with h1 h2 h3; subst h1 h3
    refine .inr ⟨g, c, cur, rfl, hb, hg, by omega, hcm, hcs, ?_⟩
    rw [← ht, List.take_take, Nat.min_eq_left (by assumption)]
theorem Sl.set (h : Sl w B e size p n c xs) {g i : Nat} (hp : p = some ⟨g, 0, none⟩) {v : Value} (hi : i < xs.length) : Sl (w.setCell ⟨g, i, none⟩ v) B e size p n c (xs.set i v) := by
  refine ⟨by simp [h.len], ?_⟩
  rcases h.2 with ⟨h0, h2⟩ | ⟨g', cap, cur, hv, hb, hg, hnc, hcm, hcs, ht⟩
  · injection h0 with h0; rw [h0] at hp; cases hp
  · injection hv with h1 h2 h3
    rw [h1] at hp; injection hp with hp; injection hp with hp; subst hp
    refine .inr ⟨g', cap, cur.setIfInBounds i v, by rw [h1, h3], hb, ?_, hnc, hcm, by simpa using hcs, ?_⟩
    · simp only [World.setCell, Array.getElem?_modify, hg]; simp
    · rw [← ht, Array.toList_setIfInBounds]; rw [List.take_set]
theorem Sl.st (h : Sl w B e size p n c xs) {g i : Nat} (hp : p = some ⟨g, 0, none⟩) {v : Value} (hi : i < xs.length) (h1 : v.oneCell' = true) {K : World → Prop}
    (k : ∀ w', Sl w' B e size p n c (xs.set i v) → Fr (On p) w w' → w'.heap.size = w.heap.size → K w') : St w ⟨g, i, none⟩ v K := by
  obtain ⟨b, o, hb, hc⟩ := h.rd i _ (List.getElem?_eq_getElem hi)
  rw [hp] at hb; injection hb with hb; injection hb with hb1 hb2; subst hb1 hb2
  rw [Nat.zero_add] at hc
  have hfz : w.frozen? ⟨g, i, none⟩ = false := by
    rcases h.cases with ⟨h0, _⟩ | ⟨g', sp, h0, _, hh, _⟩
    · rw [h0] at hp; cases hp
    · rw [h0] at hp; injection hp with hp; injection hp with hp; subst hp; exact hh.frozen
  refine ⟨⟨_, hc⟩, hfz, h1, k _ (h.set hp hi) ⟨rfl, rfl, rfl, by rw [size_setCell]; exact Nat.le_refl _, fun b _ hn => heap_setCell _ _ _ _ fun e => hn ?_⟩ (size_setCell _ _ _)⟩
  exact ⟨_, hp, e.symm⟩
end
theorem Sl.le {w : World} {B : Nat} {e : TypeId} {size n c : Nat} {p : Option Addr} {xs : List Value} (h : Sl w B e size p n c xs) : n ≤ c := by
  rcases h.cases with ⟨_, h1, h2, _⟩ | ⟨g, sp, _, _, _, h, _⟩ <;> omega
/-- append(v, x...) from whatever source -/
theorem append_src {t e ty : TypeId} {z : Value} {size bytes : Nat} (E : ElemT P t e z size bytes) {w : World} {K : Value → World → Prop} {B : Nat}
    {p : Option Addr} {n c : Nat} {xs : List Value} (h : Sl w B e size p n c xs) (hB : B ≤ w.heap.size)
    {q : Option Addr} {m c' : Nat} {news : List Value} (hs : SrcOk w size q m c' news) (h1 : ∀ u ∈ news, u.oneCell' = true)
    (h63 : n + m ≤ maxLen) (hbytes : (n + m) * bytes ≤ 140737488355328)
    (k : ∀ p' c' w', Sl w' B e size p' (n + m) c' (xs ++ news) → Fr (On p) w w' → (∀ b, On p' b → On p b ∨ w.heap.size ≤ b) → K (.slice p' (n + m) c') w') :
    RunV P (Builtin.append_ #[t, t] ty #[.slice p n c, .slice q m c']) w K := by
  rcases hs.2 with ⟨rfl, rfl, rfl⟩ | ⟨b, o, rfl, hx⟩
  · have hn : news = [] := by have := hs.1; simpa using this
    subst hn
    have hi := E.info
    cases hinf : P.info? e with
    | none => rw [hinf] at hi; cases hi
    | some i =>
      rw [hinf] at hi
      simp only [Option.map_some, Option.some.injEq, Prod.mk.injEq] at hi
      refine ⟨_, _, run_append_owned_none (ty := ty) w B t e i size E.und hinf (.slice p n c) n xs h, ?_⟩
      have := k p c w (by simpa using h) (Fr.refl _ _) (fun b hb => .inl hb)
      simpa using this
  · exact append_sl E h hB hx hs.1 h1 h63 hbytes k
/-- make([]T, 0, c) -/
theorem make_sl {t e : TypeId} {z : Value} {size bytes : Nat} (E : ElemT P t e z size bytes) {w : World} {K : Value → World → Prop} (B : Nat) (hB : B ≤ w.heap.size) (c : Nat) (hc : c ≤ maxLen) (hbytes : bytes * c ≤ 281474976710656)
    (k : ∀ p w', Sl w' B e size p 0 c [] → Fr0 w w' → (∀ b, On p b → w.heap.size ≤ b) → K (.slice p 0 c) w') :
    RunV P (Instr.makeSlice t (.int .i64 0) (.int .i64 (c : Int))) w K := by
  have hi := E.info
  cases hinf : P.info? e with
  | none => rw [hinf] at hi; cases hi
  | some i =>
    rw [hinf] at hi
    simp only [Option.map_some, Option.some.injEq, Prod.mk.injEq] at hi
    obtain ⟨hz, hs, hb⟩ := hi
    obtain ⟨w', hrun, how, hgr⟩ := run_make_own (P := P) w B t e i z size E.und hinf hz hs .i64 .i64 c (by rw [hb]; exact hbytes) hc hB
    refine ⟨_, w', hrun, k _ w' how ⟨hgr.os, hgr.output, hgr.tape, hgr.size, fun b hb _ => hgr.block b hb (by simp)⟩ ?_⟩
    rintro b ⟨a, ha, rfl⟩
    injection ha with ha; subst ha; exact Nat.le_refl _

/-! ## rows of elements -/
theorem flat_len {α : Type} {g : α → List Value} {size : Nat} (hg : ∀ x, (g x).length = size) (l : List α) : (l.flatMap g).length = l.length * size := by
  induction l with
  | nil => simp
  | cons x r ih => simp [List.flatMap_cons, ih, hg, Nat.add_mul, Nat.add_comm]
theorem flat_get {α : Type} {g : α → List Value} {size : Nat} (hg : ∀ x, (g x).length = size) : ∀ (l : List α) (i j : Nat), j < size → ∀ x, l[i]? = some x → (l.flatMap g)[i * size + j]? = (g x)[j]?
  | [], i, j, _, x, hx => by simp at hx
  | y :: r, 0, j, hj, x, hx => by
    simp at hx; subst hx
    rw [List.flatMap_cons, Nat.zero_mul, Nat.zero_add, List.getElem?_append_left (by rw [hg]; exact hj)]
  | y :: r, i + 1, j, hj, x, hx => by
    simp only [List.getElem?_cons_succ] at hx
    rw [List.flatMap_cons, List.getElem?_append_right (by rw [hg, Nat.add_mul]; omega), hg]
    rw [show (i + 1) * size + j - size = i * size + j by rw [Nat.add_mul]; omega]
    exact flat_get hg r i j hj x hx
theorem flat_set {α : Type} {g : α → List Value} {size : Nat} (hg : ∀ x, (g x).length = size) {v : Value} : ∀ (l : List α) (i j : Nat), j < size → ∀ x y, l[i]? = some x → g y = (g x).set j v → (l.flatMap g).set (i * size + j) v = (l.set i y).flatMap g
  | [], i, j, _, x, y, hx, _ => by simp at hx
  | a :: r, 0, j, hj, x, y, hx, hy => by
    simp at hx; subst hx
    rw [List.flatMap_cons, Nat.zero_mul, Nat.zero_add, List.set_append_left _ _ (by rw [hg]; exact hj), List.set_cons_zero, List.flatMap_cons, hy]
  | a :: r, i + 1, j, hj, x, y, hx, hy => by
    simp only [List.getElem?_cons_succ] at hx
    rw [List.flatMap_cons, List.set_append_right _ _ (by rw [hg, Nat.add_mul]; omega), hg]
    rw [show (i + 1) * size + j - size = i * size + j by rw [Nat.add_mul]; omega]
    rw [flat_set hg r i j hj x y hx hy, List.set_cons_succ, List.flatMap_cons]
theorem flat_take {α : Type} {g : α → List Value} {size : Nat} (hg : ∀ x, (g x).length = size) : ∀ (l : List α) (i : Nat), (l.flatMap g).take (i * size) = (l.take i).flatMap g
  | [], i => by simp
  | a :: r, 0 => by simp
  | a :: r, i + 1 => by
    rw [List.flatMap_cons, List.take_append, hg, List.take_succ_cons, List.flatMap_cons, List.take_of_length_le (by rw [hg, Nat.add_mul]; omega)]
    rw [show (i + 1) * size - size = i * size by rw [Nat.add_mul]; omega, flat_take hg r i]
theorem flat_drop {α : Type} {g : α → List Value} {size : Nat} (hg : ∀ x, (g x).length = size) : ∀ (l : List α) (i : Nat), (l.flatMap g).drop (i * size) = (l.drop i).flatMap g
  | [], i => by simp
  | a :: r, 0 => by simp
  | a :: r, i + 1 => by
    rw [List.flatMap_cons, List.drop_append, hg, List.drop_succ_cons, List.drop_of_length_le (by rw [hg, Nat.add_mul]; omega)]
    rw [show (i + 1) * size - size = i * size by rw [Nat.add_mul]; omega, flat_drop hg r i, List.nil_append]
end Go.Sh
