import Derived.Test.YthpodlcbikialaaDoorShMem
namespace Go.Sh
variable {P : Program}
theorem Ld_drew {w : World} {a : Addr} {K : Value → Prop} : Ld w.drew a K ↔ Ld w a K := Iff.rfl
theorem BIf_pos {p : Prop} [Decidable p] {x y : Prop} (h : p) (k : x) : BIf (decide p) x y := by rw [decide_eq_true h]; exact k
theorem BIf_neg {p : Prop} [Decidable p] {x y : Prop} (h : ¬ p) (k : y) : BIf (decide p) x y := by rw [decide_eq_false h]; exact k
theorem BIf_cases {p : Prop} [Decidable p] {x y : Prop} (h : p → x) (k : ¬ p → y) : BIf (decide p) x y := by
  by_cases hp : p
  · exact BIf_pos hp (h hp)
  · exact BIf_neg hp (k hp)
theorem BIf_eq {a b : Int} {x y : Prop} (h : a = b → x) (k : a ≠ b → y) : BIf (a == b) x y := by
  by_cases hp : a = b
  · rw [beq_iff_eq.2 hp]; exact h hp
  · rw [beq_eq_false_iff_ne.2 hp]; exact k hp
theorem BIf_ne {a b : Int} {x y : Prop} (h : a ≠ b → x) (k : a = b → y) : BIf (a != b) x y := by
  by_cases hp : a = b
  · rw [bne_eq_false_iff_eq.2 hp]; exact k hp
  · rw [bne_iff_ne.2 hp]; exact h hp
theorem BIf_not {b : Bool} {x y : Prop} : BIf (!b) x y ↔ BIf b y x := by cases b <;> exact Iff.rfl
theorem BIf_b {b : Bool} {x y : Prop} (h : b = true → x) (k : b = false → y) : BIf b x y := by
  cases b
  · exact k rfl
  · exact h rfl

/-! ## a slice that may be read: its cells are xs -/
def Rd (w : World) (p : Option Addr) (xs : List Value) : Prop := ∀ i v, xs[i]? = some v → ∃ b o, p = some ⟨b, o, none⟩ ∧ w.cell? ⟨b, o + i, none⟩ = some v
theorem Rd.nil (w : World) (p : Option Addr) : Rd w p [] := fun i v h => by simp at h
theorem Rd.qt {w w' : World} {p : Option Addr} {xs : List Value} (h : Rd w p xs) (q : Qt w w') : Rd w' p xs := fun i v hv => by
  obtain ⟨b, o, hp, hc⟩ := h i v hv
  exact ⟨b, o, hp, by rw [← hc]; simp [World.cell?, q.heap]⟩
/-- the block of an address -/
def On (p : Option Addr) (b : Nat) : Prop := ∃ a, p = some a ∧ a.block = b
theorem cell_lt {w : World} {a : Addr} {v : Value} (h : w.cell? a = some v) : a.block < w.heap.size := by
  rcases Nat.lt_or_ge a.block w.heap.size with h1 | h1
  · exact h1
  · simp [World.cell?, Array.getElem?_eq_none h1] at h
theorem cell_fr {S : Nat → Prop} {w w' : World} {a : Addr} {v : Value} (h : w.cell? a = some v) (f : Fr S w w') (hS : ¬ S a.block) : w'.cell? a = some v := by
  rw [← h]; simp only [World.cell?, f.block _ (cell_lt h) hS]
theorem Rd.fr {S : Nat → Prop} {w w' : World} {p : Option Addr} {xs : List Value} (h : Rd w p xs) (f : Fr S w w') (hS : ∀ b, On p b → ¬ S b) : Rd w' p xs := fun i v hv => by
  obtain ⟨b, o, hp, hc⟩ := h i v hv
  exact ⟨b, o, hp, cell_fr hc f (hS _ ⟨_, hp, rfl⟩)⟩
/-- a load from a slice -/
theorem Rd.ld {w : World} {p : Option Addr} {xs : List Value} (h : Rd w p xs) {i : Nat} {v : Value} (hv : xs[i]? = some v) {K : Addr → Prop} (k : ∀ b o, p = some ⟨b, o, none⟩ → w.cell? ⟨b, o + i, none⟩ = some v → K ⟨b, o, none⟩) : NilP p K := by
  obtain ⟨b, o, rfl, hc⟩ := h i v hv
  exact k b o rfl hc
/-- the i-th int of a slice of ints, with its bounds asked first -/
theorem Rd.int {w : World} {p : Option Addr} {n : Nat} {l : List Int} {k : IntKind} (h : Rd w p (l.map (Value.int k))) (hn : l.length = n) {i : Int} (h0 : 0 ≤ i) {x : Int} (hi : l[i.toNat]? = some x) {K : Int → Prop} (hK : K x) :
    NilP p fun a => (0 : Int) ≤ i ∧ i < (n : Int) ∧ Ld w (at0 a (i.toNat * 1)) fun v => AsI k v K := by
  refine h.ld (i := i.toNat) (v := .int k x) (by simp [hi]) fun b o _ hc => ⟨h0, ?_, ?_⟩
  · have := (List.getElem?_eq_some_iff.1 hi).1; omega
  · rw [at0_mk, Nat.mul_one]; exact ⟨_, hc, AsI_int.2 hK⟩

/-! ## a slice that is owned -/
def Sl (w : World) (B : Nat) (e : TypeId) (size : Nat) (p : Option Addr) (n c : Nat) (xs : List Value) : Prop := w.ownsRow B e size (.slice p n c) n xs
theorem Sl.nil (w : World) (B : Nat) (e : TypeId) (size : Nat) : Sl w B e size none 0 0 [] := World.ownsRow_nil w B e size
section sl
variable {w w' : World} {B : Nat} {e : TypeId} {size n c : Nat} {p : Option Addr} {xs : List Value}
theorem Sl.len (h : Sl w B e size p n c xs) : xs.length = n * size := h.1
theorem Sl.some_ (h : Sl w B e size p n c xs) (hn : 0 < n) : ∃ g sp, p = some ⟨g, 0, none⟩ ∧ B ≤ g ∧ Has w g (xs ++ sp) := by
  rcases h.2 with ⟨_, h0⟩ | ⟨g, cap, cur, hv, hb, hg, hnc, hcm, hcs, ht⟩
  · omega
  · injection hv with h1 h2 h3
    refine ⟨g, cur.toList.drop (n * size), h1, hb, e, ?_⟩
    rw [← ht, List.take_append_drop]; simpa using hg
theorem Sl.cases (h : Sl w B e size p n c xs) : (p = none ∧ n = 0 ∧ c = 0 ∧ xs = []) ∨ ∃ g sp, p = some ⟨g, 0, none⟩ ∧ B ≤ g ∧ Has w g (xs ++ sp) ∧ n ≤ c ∧ (xs ++ sp).length = c * size := by
  rcases h.2 with ⟨h0, h1⟩ | ⟨g, cap, cur, hv, hb, hg, hnc, hcm, hcs, ht⟩
  · injection h0 with h0 h2 h3; subst h1; refine .inl ⟨h0, rfl, h3, ?_⟩; have := h.1; simp at this; exact this
  · injection hv with h1 h2 h3
    refine .inr ⟨g, cur.toList.drop (n * size), h1, hb, ⟨e, ?_⟩, by omega, ?_⟩
    · rw [← ht, List.take_append_drop]; simpa using hg
    · rw [← ht, List.take_append_drop]; simp [hcs, h3]
theorem Sl.rd (h : Sl w B e size p n c xs) : Rd w p xs := fun i v hv => by
  rcases h.cases with ⟨_, _, _, rfl⟩ | ⟨g, sp, hp, _, hh, _, _⟩
  · simp at hv
  · refine ⟨g, 0, hp, ?_⟩
    rw [Nat.zero_add, hh.cell, List.getElem?_append_left (List.getElem?_eq_some_iff.1 hv).1, hv]
theorem Sl.lt (h : Sl w B e size p n c xs) : ∀ b, On p b → B ≤ b ∧ b < w.heap.size := by
  rintro b ⟨a, rfl, rfl⟩
  rcases h.cases with ⟨h, _⟩ | ⟨g, sp, hp, hb, hh, _, _⟩
  · cases h
  · injection hp with hp; subst hp; exact ⟨hb, hh.lt⟩
theorem Sl.qt (h : Sl w B e size p n c xs) (q : Qt w w') : Sl w' B e size p n c xs := by
  refine ⟨h.1, ?_⟩
  rw [q.heap]; exact h.2
theorem Sl.fr {S : Nat → Prop} (h : Sl w B e size p n c xs) (f : Fr S w w') (hS : ∀ b, On p b → ¬ S b) : Sl w' B e size p n c xs := by
  have hl := h.lt
  refine ⟨h.1, ?_⟩
  rcases h.2 with h0 | ⟨g, cap, cur, hv, hb, hg, hr⟩
  · exact .inl h0
  · injection hv with h1 h2 h3
    refine .inr ⟨g, cap, cur, by rw [h1, h3], hb, ?_, hr⟩
    rw [f.block _ (hl g ⟨_, h1, rfl⟩).2 (hS g ⟨_, h1, rfl⟩)]; exact hg
theorem Sl.mono {B' : Nat} (h : Sl w B e size p n c xs) (hB : B' ≤ B) : Sl w B' e size p n c xs := by
  refine ⟨h.1, ?_⟩
  rcases h.2 with h0 | ⟨g, cap, cur, hv, hb, hr⟩
  · exact .inl h0
  · exact .inr ⟨g, cap, cur, hv, Nat.le_trans hB hb, hr⟩
theorem On.own {b : Nat} : some b = (Value.slice p n c).ownBlock ↔ On p b := by
  cases p with
  | none => simp [Value.ownBlock, On]
  | some a => simp [Value.ownBlock, On]; exact eq_comm
/-- behind a growth of an owned slice no elder block has turned -/
theorem Fr.own {S : Nat → Prop} {w0 : World} (f : Fr S w0 w) (g : Fr (On p) w w') (h : ∀ b, On p b → b < w0.heap.size → S b) : Fr S w0 w' :=
  ⟨g.os.trans f.os, g.output.trans f.output, g.tape.trans f.tape, Nat.le_trans f.size g.size, fun b hb hn =>
    (g.block b (Nat.lt_of_lt_of_le hb f.size) fun ho => hn (h b ho hb)).trans (f.block b hb hn)⟩
end sl
/-- nothing but new blocks -/
abbrev Fr0 (w w' : World) : Prop := Fr (fun _ => False) w w'
theorem Has.fr0 {w w' : World} {b : Nat} {l : List Value} (h : Has w b l) (f : Fr0 w w') : Has w' b l := h.fr f fun h => h
theorem Rd.fr0 {w w' : World} {p : Option Addr} {xs : List Value} (h : Rd w p xs) (f : Fr0 w w') : Rd w' p xs := h.fr f fun _ _ h => h
theorem Sl.fr0 {w w' : World} {B : Nat} {e : TypeId} {size n c : Nat} {p : Option Addr} {xs : List Value} (h : Sl w B e size p n c xs) (f : Fr0 w w') : Sl w' B e size p n c xs := h.fr f fun _ _ h => h
/-- append(v, x...): v is owned, x may be read; what comes is owned, in v's own block or in a new one -/
theorem append_sl {t e ty : TypeId} {z : Value} {size bytes : Nat} (E : ElemT P t e z size bytes) {w : World} {K : Value → World → Prop} {B : Nat}
    {p : Option Addr} {n c : Nat} {xs : List Value} (h : Sl w B e size p n c xs) (hB : B ≤ w.heap.size)
    {b o m c' : Nat} {news : List Value} (hx : ∀ j u, news[j]? = some u → w.cell? ⟨b, o + j, none⟩ = some u) (hl : news.length = m * size) (h1 : ∀ u ∈ news, u.oneCell' = true)
    (h63 : n + m ≤ maxLen) (hbytes : (n + m) * bytes ≤ 140737488355328)
    (k : ∀ p' c' w', Sl w' B e size p' (n + m) c' (xs ++ news) → Fr (On p) w w' → (∀ b, On p' b → On p b ∨ w.heap.size ≤ b) → K (.slice p' (n + m) c') w') :
    RunV P (Builtin.append_ #[t, t] ty #[.slice p n c, .slice (some ⟨b, o, none⟩) m c']) w K := by
  have hi := E.info
  cases hinf : P.info? e with
  | none => rw [hinf] at hi; cases hi
  | some i =>
    rw [hinf] at hi
    simp only [Option.map_some, Option.some.injEq, Prod.mk.injEq] at hi
    obtain ⟨hz, hs, hb⟩ := hi
    have hcell : ∀ j u, news[j]? = some u → w.cell? ((⟨b, o, none⟩ : Addr).add j) = some u := by
      intro j u hj
      rw [← at0_add, at0_mk]; exact hx j u hj
    obtain ⟨v', w', hrun, how, hgr, hiff⟩ := run_append_own w B t ty e i z size bytes E.und hinf hz hs hb E.zs E.pos (.slice p n c) n xs h ⟨b, o, none⟩ m c' news hl hcell h1 h63 hbytes hB
    obtain ⟨p', c1, rfl⟩ : ∃ p' c1, v' = .slice p' (n + m) c1 := by
      rcases how.2 with ⟨h0, h1⟩ | ⟨g, cap, cur, h0, _⟩
      · exact ⟨none, 0, by rw [h0, h1]⟩
      · exact ⟨_, _, h0⟩
    refine ⟨_, w', hrun, k p' c1 w' how ⟨hgr.os, hgr.output, hgr.tape, hgr.size, fun k hk hn => hgr.block k hk fun h' => hn (On.own.1 h')⟩ fun b' hb' => ?_⟩
    rcases Nat.lt_or_ge b' w.heap.size with hlt | hge
    · left
      obtain ⟨a', rfl, rfl⟩ := hb'
      -- an elder block that it lies in is v's own
      rcases h.2 with ⟨h0, hn0⟩ | ⟨g, cap, cur, hv, hbg, hg, hnc, hcm, hcs, htake⟩
      · injection h0 with h0 h2 h3; subst h0 h2 h3
        by_cases hm : m = 0
        · subst hm; have := hiff.2 ⟨rfl, rfl⟩; injection this with this; cases this
        · subst hs hb
          have hr := run_append_nil (P := P) w t ty e i z E.und hinf hz ⟨b, o, none⟩ m c' news hl hcell (by omega) (by simp only [maxLen] at h63; omega) (by have hb := hbytes; simp only [Nat.zero_add] at hb; omega)
          rw [hrun] at hr
          injection hr with h1 h2
          injection h1 with h1
          injection h1 with h1
          rw [h1] at hlt
          exact absurd hlt (by show ¬ w.heap.size < w.heap.size; omega)
      · injection hv with h1 h2 h3; subst h1 h3
        subst hs hb
        by_cases hroom : n + m ≤ c
        · have hfit : n * i.size + news.length ≤ cur.size := by rw [hl, hcs, ← Nat.add_mul]; exact Nat.mul_le_mul_right _ hroom
          have hr := run_append_room (P := P) (ty := ty) w t e i E.und hinf g n c cur hg ⟨b, o, none⟩ m c' news hl hcell (by assumption) hroom hfit
          rw [hrun] at hr
          injection hr with h1 h2
          injection h1 with h1
          injection h1 with h1
          exact ⟨_, rfl, by rw [h1]⟩
        · have holds : ∀ j u, xs[j]? = some u → w.cell? ((⟨g, 0, none⟩ : Addr).add j) = some u := World.ownsRow.cells h (g := g) rfl
          have hr := run_append_grow (P := P) w t ty e i z E.und hinf hz ⟨g, 0, none⟩ n c xs h.1 holds ⟨b, o, none⟩ m c' news hl hcell (by omega) (by simp only [maxLen] at h63; omega) (growslice_fits (by omega) hbytes)
          rw [hrun] at hr
          injection hr with h1 h2
          injection h1 with h1
          injection h1 with h1
          rw [h1] at hlt
          exact absurd hlt (by show ¬ w.heap.size < w.heap.size; omega)
    · exact .inr hge
/-- append(v, x): one element -/
theorem push_sl {t e : TypeId} {z : Value} {size bytes : Nat} (E : ElemT P t e z size bytes) (hsz : size ≤ 16777216) {w : World} {K : Value → World → Prop} {B : Nat}
    {p : Option Addr} {n c : Nat} {xs : List Value} (h : Sl w B e size p n c xs) (hB : B ≤ w.heap.size) {v : Value} (hv : v.cells.size = size) (h1 : ∀ u ∈ v.cells.toList, u.oneCell' = true)
    (h63 : n + 1 ≤ maxLen) (hbytes : (n + 1) * bytes ≤ 140737488355328)
    (k : ∀ p' c' w', Sl w' B e size p' (n + 1) c' (xs ++ v.cells.toList) → Fr (On p) w w' → (∀ b, On p' b → On p b ∨ w.heap.size ≤ b) → K (.slice p' (n + 1) c') w') :
    RunV P (Instr.buildSlice t 1 #[(0, v)]) w fun v1 w1 => AsSl v1 fun q m d => RunV P (Builtin.append_ #[t, t] t #[.slice p n c, .slice q m d]) w1 K := by
  refine RunV.build1 E hsz hv fun w1 hw1 hf1 hs1 => ?_
  rw [AsSl_slice]
  have hp : ∀ b, On p b → ¬ (fun _ : Nat => False) b := fun _ _ h => h
  refine append_sl E (h.fr hf1 hp) (Nat.le_trans hB hf1.size) (news := v.cells.toList) (fun j u hj => by rw [Nat.zero_add, hw1.cell]; exact hj) (by simp [hv]) h1 h63 hbytes fun p' c' w' h2 hf2 hon => ?_
  refine k p' c' w' h2 ⟨hf2.os.trans hf1.os, hf2.output.trans hf1.output, hf2.tape.trans hf1.tape, Nat.le_trans hf1.size hf2.size, fun b hb hn => (hf2.block b (Nat.lt_of_lt_of_le hb hf1.size) hn).trans (hf1.block b hb fun h => h)⟩ fun b hb => ?_
  rcases hon b hb with h | h
  · exact .inl h
  · exact .inr (by omega)
end Go.Sh
