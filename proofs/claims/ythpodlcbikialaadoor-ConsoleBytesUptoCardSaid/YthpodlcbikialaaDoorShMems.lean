import Derived.Test.YthpodlcbikialaaDoorShAll
import Derived.Deep.OwnRows
import Derived.Laws.MakeOwn
import Derived.Laws.OwnMore
import Derived.Laws.StructEq
import Derived.ChangeKeysEq
set_option linter.unusedVariables false
set_option linter.unusedSimpArgs false
namespace Go.Sh
/-! ## make, buildSlice, append -/
theorem Has.made (w : World) (cells : Array Value) (t : TypeId) : Has (w.alloc (.cells cells t)) w.heap.size cells.toList := ⟨t, by show (w.heap.push _)[w.heap.size]? = _; simp⟩
theorem Fr.made (w : World) (o : Obj) : Fr (fun _ => False) w (w.alloc o) := ⟨rfl, rfl, rfl, by simp, fun b hb _ => by show (w.heap.push _)[b]? = _; rw [Array.getElem?_push, if_neg (by omega)]⟩
theorem madeCells_one (z : Value) (n : Nat) : (madeCells #[z] n).toList = List.replicate n z := by
  unfold madeCells
  apply List.ext_getElem (by simp)
  intro j h1 h2
  simp [Nat.mod_one]
/-- make([]T, n), T of one cell -/
theorem RunV.make {P : Program} (t e : TypeId) (z : Value) (bytes n : Nat) {w : World} {K : Value → World → Prop} (ht : P.underlying t = some (.slice e)) (hi : (P.info? e).map (fun i => (i.zero, i.size, i.bytes)) = some (some z, 1, bytes)) (hz : z.cells = #[z])
    (hb : bytes * n ≤ 281474976710656) (hn : n ≤ 9223372036854775807)
    (k : ∀ w', Has w' w.heap.size (List.replicate n z) → Fr (fun _ => False) w w' → w'.heap.size = w.heap.size + 1 → K (.slice (some ⟨w.heap.size, 0, none⟩) n n) w') :
    RunV P (Instr.makeSlice t (.int .i64 n) (.int .i64 n)) w K := by
  refine ⟨_, _, run_make_row' t e z bytes ht hi hz .i64 .i64 n hb hn w, k _ ?_ (Fr.made w _) (by simp)⟩
  have := Has.made w (madeCells #[z] n) e
  rwa [madeCells_one] at this

theorem Fr.of_grown {w w' : World} {row : Option Nat} (h : w.grownBy w' row) : Fr (fun x => some x = row) w w' := ⟨h.os, h.output, h.tape, h.size, fun b hb hn => h.block b hb hn⟩
/-- what is closed about an element type -/
structure ElemT (P : Program) (t e : TypeId) (z : Value) (size bytes : Nat) : Prop where
  und : P.underlying t = some (.slice e)
  info : (P.info? e).map (fun i => (i.zero, i.size, i.bytes)) = some (some z, size, bytes)
  zs : z.cells.size = size
  pos : 0 < size
/-- append(v, x...): v is owned, x lies at an address; what comes is owned, in v's own block or in a new one -/
theorem RunV.append {P : Program} {t e ty : TypeId} {z : Value} {size bytes : Nat} (E : ElemT P t e z size bytes) {w : World} {K : Value → World → Prop}
    {v : Value} {n : Nat} {xs : List Value} (hown : w.ownsRow 0 e size v n xs)
    {b o m c : Nat} {l news : List Value} (hx : Has w b l) (hnews : ∀ j u, news[j]? = some u → l[o + j]? = some u) (hl : news.length = m * size) (h1 : ∀ u ∈ news, u.oneCell' = true)
    (h63 : n + m ≤ maxLen) (hbytes : (n + m) * bytes ≤ 140737488355328)
    (k : ∀ v' w', w'.ownsRow 0 e size v' (n + m) (xs ++ news) → Fr (fun x => some x = v.ownBlock) w w' → (v'.ownBlock = v.ownBlock ∨ v'.ownBlock = some w.heap.size) → (0 < n + m → ∃ g cap, v' = .slice (some ⟨g, 0, none⟩) (n + m) cap) → K v' w') :
    RunV P (Builtin.append_ #[t, t] ty #[v, .slice (some ⟨b, o, none⟩) m c]) w K := by
  have hi := E.info
  cases hinf : P.info? e with
  | none => rw [hinf] at hi; cases hi
  | some i =>
    rw [hinf] at hi
    simp only [Option.map_some, Option.some.injEq, Prod.mk.injEq] at hi
    obtain ⟨hz, hs, hb⟩ := hi
    have hcell : ∀ j u, news[j]? = some u → w.cell? ((⟨b, o, none⟩ : Addr).add j) = some u := by
      intro j u hj
      rw [← at0_add, at0_mk, hx.cell]; exact hnews j u hj
    obtain ⟨v', w', hrun, how, hgr, hiff⟩ := run_append_own w 0 t ty e i z size bytes E.und hinf hz hs hb E.zs E.pos v n xs hown ⟨b, o, none⟩ m c news hl hcell h1 h63 hbytes (Nat.zero_le _)
    refine ⟨v', w', hrun, k v' w' how (Fr.of_grown hgr) ?_ ?_⟩
    · subst hs hb
      simp only [maxLen] at h63
      rcases hown.2 with ⟨rfl, rfl⟩ | ⟨g, cap, cur, rfl, hbg, hg, hnc, hcm, hcs, htake⟩
      · by_cases hm : m = 0
        · have := hiff.2 ⟨rfl, hm⟩; subst this; exact .inl rfl
        · have hr := run_append_nil (P := P) w t ty e i z E.und hinf hz ⟨b, o, none⟩ m c news hl hcell (by omega) (by omega) (by have hb := hbytes; simp only [Nat.zero_add] at hb; omega)
          rw [hrun] at hr
          injection hr with h1 h2
          subst h1; exact .inr rfl
      · by_cases hroom : n + m ≤ cap
        · have hfit : n * i.size + news.length ≤ cur.size := by rw [hl, hcs, ← Nat.add_mul]; exact Nat.mul_le_mul_right _ hroom
          have hr := run_append_room (P := P) (ty := ty) w t e i E.und hinf g n cap cur hg ⟨b, o, none⟩ m c news hl hcell h1 hroom hfit
          rw [hrun] at hr
          injection hr with h1 h2
          subst h1; exact .inl rfl
        · have holds : ∀ j u, xs[j]? = some u → w.cell? ((⟨g, 0, none⟩ : Addr).add j) = some u := hown.cells (g := g) rfl
          have hr := run_append_grow (P := P) w t ty e i z E.und hinf hz ⟨g, 0, none⟩ n cap xs hown.1 holds ⟨b, o, none⟩ m c news hl hcell (by omega) (by omega) (growslice_fits (by omega) hbytes)
          rw [hrun] at hr
          injection hr with h1 h2
          subst h1; exact .inr rfl
    · intro hpos
      rcases how.2 with ⟨rfl, h0⟩ | ⟨g, cap, cur, rfl, _⟩
      · omega
      · exact ⟨g, cap, rfl⟩

theorem foldl_set (l : List Value) : ∀ (n : Nat) (pre : List Value) (cs : List Value), pre.length = n → l.length ≤ cs.length →
    ((l.zipIdx n).foldl (fun cs (c, j) => cs.setIfInBounds j c) (pre ++ cs).toArray : Array Value) = (pre ++ l ++ cs.drop l.length).toArray := by
  induction l with
  | nil => intro n pre cs _ _; simp
  | cons x r ih =>
    intro n pre cs hp hl
    cases cs with
    | nil => simp at hl
    | cons y t =>
      simp only [List.zipIdx_cons, List.foldl_cons]
      have : ((pre ++ y :: t).toArray.setIfInBounds n x : Array Value) = ((pre ++ [x]) ++ t).toArray := by
        apply Array.ext'
        simp [← hp]
      rw [this, ih (n + 1) (pre ++ [x]) t (by simp [hp]) (by simpa using hl)]
      simp
/-- a slice of one element, written out -/
theorem RunV.build1 {P : Program} {t e : TypeId} {z : Value} {size bytes : Nat} (E : ElemT P t e z size bytes) (hsz : size ≤ 16777216) {w : World} {K : Value → World → Prop} {v : Value} (hv : v.cells.size = size)
    (k : ∀ w', Has w' w.heap.size v.cells.toList → Fr (fun _ => False) w w' → w'.heap.size = w.heap.size + 1 → K (.slice (some ⟨w.heap.size, 0, none⟩) 1 1) w') :
    RunV P (Instr.buildSlice t 1 #[(0, v)]) w K := by
  have hi := E.info
  cases hinf : P.info? e with
  | none => rw [hinf] at hi; cases hi
  | some i =>
    rw [hinf] at hi
    simp only [Option.map_some, Option.some.injEq, Prod.mk.injEq] at hi
    obtain ⟨hz, hs, hb⟩ := hi
    refine ⟨_, w.alloc (.cells v.cells e), ?_, k _ (Has.made w v.cells e) (Fr.made w _) (by simp)⟩
    have h0 : size ≠ 0 := by have := E.pos; omega
    have hle : ¬ (size > 2 ^ 24) := by omega
    have hfill : (v.cells.zipIdx.foldl (fun cs (c, j) => cs.setIfInBounds (0 * size + j) c) ((Array.range size).map (fun x => z.cells[x % z.cells.size]!)) : Array Value) = v.cells := by
      have := foldl_set v.cells.toList 0 [] ((List.range size).map (fun x => z.cells[x % z.cells.size]!)) rfl (by simp [hv])
      simp only [List.nil_append] at this
      rw [← Array.foldl_toList, Array.toList_zipIdx]
      have e2 : (Array.range size).map (fun x => z.cells[x % z.cells.size]!) = ((List.range size).map (fun x => z.cells[x % z.cells.size]!)).toArray := by
        apply Array.ext'; simp
      rw [e2]
      simp only [Nat.zero_mul, Nat.zero_add]
      rw [this]
      apply Array.ext'
      simp [hv]
    simp only [Instr.buildSlice, Sem.run_bind, under_run E.und, Result.andThen_ok, size_run (show sizeP P e = some size by simp [sizeP, hinf, hs]), Nat.one_mul, if_neg hle, if_neg h0,
      zero_run (show zeroP P e = some z by simp [zeroP, hinf, hz]), Sem.run_pure, Instr.fill]
    rw [if_neg (by simp [hv])]
    simp only [hfill]
    simp [newRow]
end Go.Sh

namespace Go.Sh
variable {P : Program}
theorem Ld_drew {w : World} {a : Addr} {K : Value → Prop} : Ld w.drew a K ↔ Ld w a K := Iff.rfl
theorem BIf_pos {p : Prop} [Decidable p] {x y : Prop} (h : p) (k : x) : BIf (decide p) x y := by rw [decide_eq_true h]; exact k
theorem BIf_neg {p : Prop} [Decidable p] {x y : Prop} (h : ¬ p) (k : y) : BIf (decide p) x y := by rw [decide_eq_false h]; exact k
theorem BIf_cases {p : Prop} [Decidable p] {x y : Prop} (h : p → x) (k : ¬ p → y) : BIf (decide p) x y := by
  by_cases hp : p
  · exact BIf_pos hp (h hp)
  · exact BIf_neg hp (k hp)
theorem BIf_eq {a b : Int} {x y : Prop} (h : a = b → x) (k : a ≠ b → y) : BIf (a == b) x y := by
  by_cases hp : a = b
  · rw [beq_iff_eq.2 hp]; exact h hp
  · rw [beq_eq_false_iff_ne.2 hp]; exact k hp
theorem BIf_ne {a b : Int} {x y : Prop} (h : a ≠ b → x) (k : a = b → y) : BIf (a != b) x y := by
  by_cases hp : a = b
  · rw [bne_eq_false_iff_eq.2 hp]; exact k hp
  · rw [bne_iff_ne.2 hp]; exact h hp
theorem BIf_not {b : Bool} {x y : Prop} : BIf (!b) x y ↔ BIf b y x := by cases b <;> exact Iff.rfl
theorem BIf_b {b : Bool} {x y : Prop} (h : b = true → x) (k : b = false → y) : BIf b x y := by
  cases b
  · exact k rfl
  · exact h rfl

/-! ## a slice that may be read: its cells are xs -/
def Rd (w : World) (p : Option Addr) (xs : List Value) : Prop := ∀ i v, xs[i]? = some v → ∃ b o, p = some ⟨b, o, none⟩ ∧ w.cell? ⟨b, o + i, none⟩ = some v
theorem Rd.nil (w : World) (p : Option Addr) : Rd w p [] := fun i v h => by simp at h
theorem Rd.qt {w w' : World} {p : Option Addr} {xs : List Value} (h : Rd w p xs) (q : Qt w w') : Rd w' p xs := fun i v hv => by
  obtain ⟨b, o, hp, hc⟩ := h i v hv
  exact ⟨b, o, hp, by rw [← hc]; simp [World.cell?, q.heap]⟩
/-- the block of an address -/
def On (p : Option Addr) (b : Nat) : Prop := ∃ a, p = some a ∧ a.block = b
theorem cell_lt {w : World} {a : Addr} {v : Value} (h : w.cell? a = some v) : a.block < w.heap.size := by
  rcases Nat.lt_or_ge a.block w.heap.size with h1 | h1
  · exact h1
  · simp [World.cell?, Array.getElem?_eq_none h1] at h
theorem cell_fr {S : Nat → Prop} {w w' : World} {a : Addr} {v : Value} (h : w.cell? a = some v) (f : Fr S w w') (hS : ¬ S a.block) : w'.cell? a = some v := by
  rw [← h]; simp only [World.cell?, f.block _ (cell_lt h) hS]
theorem Rd.fr {S : Nat → Prop} {w w' : World} {p : Option Addr} {xs : List Value} (h : Rd w p xs) (f : Fr S w w') (hS : ∀ b, On p b → ¬ S b) : Rd w' p xs := fun i v hv => by
  obtain ⟨b, o, hp, hc⟩ := h i v hv
  exact ⟨b, o, hp, cell_fr hc f (hS _ ⟨_, hp, rfl⟩)⟩
/-- a load from a slice -/
theorem Rd.ld {w : World} {p : Option Addr} {xs : List Value} (h : Rd w p xs) {i : Nat} {v : Value} (hv : xs[i]? = some v) {K : Addr → Prop} (k : ∀ b o, p = some ⟨b, o, none⟩ → w.cell? ⟨b, o + i, none⟩ = some v → K ⟨b, o, none⟩) : NilP p K := by
  obtain ⟨b, o, rfl, hc⟩ := h i v hv
  exact k b o rfl hc
/-- the i-th int of a slice of ints, with its bounds asked first -/
theorem Rd.int {w : World} {p : Option Addr} {n : Nat} {l : List Int} {k : IntKind} (h : Rd w p (l.map (Value.int k))) (hn : l.length = n) {i : Int} (h0 : 0 ≤ i) {x : Int} (hi : l[i.toNat]? = some x) {K : Int → Prop} (hK : K x) :
    NilP p fun a => (0 : Int) ≤ i ∧ i < (n : Int) ∧ Ld w (at0 a (i.toNat * 1)) fun v => AsI k v K := by
  refine h.ld (i := i.toNat) (v := .int k x) (by simp [hi]) fun b o _ hc => ⟨h0, ?_, ?_⟩
  · have := (List.getElem?_eq_some_iff.1 hi).1; omega
  · rw [at0_mk, Nat.mul_one]; exact ⟨_, hc, AsI_int.2 hK⟩

/-! ## a slice that is owned -/
def Sl (w : World) (B : Nat) (e : TypeId) (size : Nat) (p : Option Addr) (n c : Nat) (xs : List Value) : Prop := w.ownsRow B e size (.slice p n c) n xs
theorem Sl.nil (w : World) (B : Nat) (e : TypeId) (size : Nat) : Sl w B e size none 0 0 [] := World.ownsRow_nil w B e size
section sl
variable {w w' : World} {B : Nat} {e : TypeId} {size n c : Nat} {p : Option Addr} {xs : List Value}
theorem Sl.len (h : Sl w B e size p n c xs) : xs.length = n * size := h.1
theorem Sl.some_ (h : Sl w B e size p n c xs) (hn : 0 < n) : ∃ g sp, p = some ⟨g, 0, none⟩ ∧ B ≤ g ∧ Has w g (xs ++ sp) := by
  rcases h.2 with ⟨_, h0⟩ | ⟨g, cap, cur, hv, hb, hg, hnc, hcm, hcs, ht⟩
  · omega
  · injection hv with h1 h2 h3
    refine ⟨g, cur.toList.drop (n * size), h1, hb, e, ?_⟩
    rw [← ht, List.take_append_drop]; simpa using hg
theorem Sl.cases (h : Sl w B e size p n c xs) : (p = none ∧ n = 0 ∧ c = 0 ∧ xs = []) ∨ ∃ g sp, p = some ⟨g, 0, none⟩ ∧ B ≤ g ∧ Has w g (xs ++ sp) ∧ n ≤ c ∧ (xs ++ sp).length = c * size := by
  rcases h.2 with ⟨h0, h1⟩ | ⟨g, cap, cur, hv, hb, hg, hnc, hcm, hcs, ht⟩
  · injection h0 with h0 h2 h3; subst h1; refine .inl ⟨h0, rfl, h3, ?_⟩; have := h.1; simp at this; exact this
  · injection hv with h1 h2 h3
    refine .inr ⟨g, cur.toList.drop (n * size), h1, hb, ⟨e, ?_⟩, by omega, ?_⟩
    · rw [← ht, List.take_append_drop]; simpa using hg
    · rw [← ht, List.take_append_drop]; simp [hcs, h3]
theorem Sl.rd (h : Sl w B e size p n c xs) : Rd w p xs := fun i v hv => by
  rcases h.cases with ⟨_, _, _, rfl⟩ | ⟨g, sp, hp, _, hh, _, _⟩
  · simp at hv
  · refine ⟨g, 0, hp, ?_⟩
    rw [Nat.zero_add, hh.cell, List.getElem?_append_left (List.getElem?_eq_some_iff.1 hv).1, hv]
theorem Sl.lt (h : Sl w B e size p n c xs) : ∀ b, On p b → B ≤ b ∧ b < w.heap.size := by
  rintro b ⟨a, rfl, rfl⟩
  rcases h.cases with ⟨h, _⟩ | ⟨g, sp, hp, hb, hh, _, _⟩
  · cases h
  · injection hp with hp; subst hp; exact ⟨hb, hh.lt⟩
theorem Sl.qt (h : Sl w B e size p n c xs) (q : Qt w w') : Sl w' B e size p n c xs := by
  refine ⟨h.1, ?_⟩
  rw [q.heap]; exact h.2
theorem Sl.fr {S : Nat → Prop} (h : Sl w B e size p n c xs) (f : Fr S w w') (hS : ∀ b, On p b → ¬ S b) : Sl w' B e size p n c xs := by
  have hl := h.lt
  refine ⟨h.1, ?_⟩
  rcases h.2 with h0 | ⟨g, cap, cur, hv, hb, hg, hr⟩
  · exact .inl h0
  · injection hv with h1 h2 h3
    refine .inr ⟨g, cap, cur, by rw [h1, h3], hb, ?_, hr⟩
    rw [f.block _ (hl g ⟨_, h1, rfl⟩).2 (hS g ⟨_, h1, rfl⟩)]; exact hg
theorem Sl.mono {B' : Nat} (h : Sl w B e size p n c xs) (hB : B' ≤ B) : Sl w B' e size p n c xs := by
  refine ⟨h.1, ?_⟩
  rcases h.2 with h0 | ⟨g, cap, cur, hv, hb, hr⟩
  · exact .inl h0
  · exact .inr ⟨g, cap, cur, hv, Nat.le_trans hB hb, hr⟩
theorem On.own {b : Nat} : some b = (Value.slice p n c).ownBlock ↔ On p b := by
  cases p with
  | none => simp [Value.ownBlock, On]
  | some a => simp [Value.ownBlock, On]; exact eq_comm
/-- behind a growth of an owned slice no elder block has turned -/
theorem Fr.own {S : Nat → Prop} {w0 : World} (f : Fr S w0 w) (g : Fr (On p) w w') (h : ∀ b, On p b → b < w0.heap.size → S b) : Fr S w0 w' :=
  ⟨g.os.trans f.os, g.output.trans f.output, g.tape.trans f.tape, Nat.le_trans f.size g.size, fun b hb hn =>
    (g.block b (Nat.lt_of_lt_of_le hb f.size) fun ho => hn (h b ho hb)).trans (f.block b hb hn)⟩
end sl
/-- nothing but new blocks -/
abbrev Fr0 (w w' : World) : Prop := Fr (fun _ => False) w w'
theorem Has.fr0 {w w' : World} {b : Nat} {l : List Value} (h : Has w b l) (f : Fr0 w w') : Has w' b l := h.fr f fun h => h
theorem Rd.fr0 {w w' : World} {p : Option Addr} {xs : List Value} (h : Rd w p xs) (f : Fr0 w w') : Rd w' p xs := h.fr f fun _ _ h => h
theorem Sl.fr0 {w w' : World} {B : Nat} {e : TypeId} {size n c : Nat} {p : Option Addr} {xs : List Value} (h : Sl w B e size p n c xs) (f : Fr0 w w') : Sl w' B e size p n c xs := h.fr f fun _ _ h => h
/-- append(v, x...): v is owned, x may be read; what comes is owned, in v's own block or in a new one -/
theorem append_sl {t e ty : TypeId} {z : Value} {size bytes : Nat} (E : ElemT P t e z size bytes) {w : World} {K : Value → World → Prop} {B : Nat}
    {p : Option Addr} {n c : Nat} {xs : List Value} (h : Sl w B e size p n c xs) (hB : B ≤ w.heap.size)
    {b o m c' : Nat} {news : List Value} (hx : ∀ j u, news[j]? = some u → w.cell? ⟨b, o + j, none⟩ = some u) (hl : news.length = m * size) (h1 : ∀ u ∈ news, u.oneCell' = true)
    (h63 : n + m ≤ maxLen) (hbytes : (n + m) * bytes ≤ 140737488355328)
    (k : ∀ p' c' w', Sl w' B e size p' (n + m) c' (xs ++ news) → Fr (On p) w w' → (∀ b, On p' b → On p b ∨ w.heap.size ≤ b) → K (.slice p' (n + m) c') w') :
    RunV P (Builtin.append_ #[t, t] ty #[.slice p n c, .slice (some ⟨b, o, none⟩) m c']) w K := by
  have hi := E.info
  cases hinf : P.info? e with
  | none => rw [hinf] at hi; cases hi
  | some i =>
    rw [hinf] at hi
    simp only [Option.map_some, Option.some.injEq, Prod.mk.injEq] at hi
    obtain ⟨hz, hs, hb⟩ := hi
    have hcell : ∀ j u, news[j]? = some u → w.cell? ((⟨b, o, none⟩ : Addr).add j) = some u := by
      intro j u hj
      rw [← at0_add, at0_mk]; exact hx j u hj
    obtain ⟨v', w', hrun, how, hgr, hiff⟩ := run_append_own w B t ty e i z size bytes E.und hinf hz hs hb E.zs E.pos (.slice p n c) n xs h ⟨b, o, none⟩ m c' news hl hcell h1 h63 hbytes hB
    obtain ⟨p', c1, rfl⟩ : ∃ p' c1, v' = .slice p' (n + m) c1 := by
      rcases how.2 with ⟨h0, h1⟩ | ⟨g, cap, cur, h0, _⟩
      · exact ⟨none, 0, by rw [h0, h1]⟩
      · exact ⟨_, _, h0⟩
    refine ⟨_, w', hrun, k p' c1 w' how ⟨hgr.os, hgr.output, hgr.tape, hgr.size, fun k hk hn => hgr.block k hk fun h' => hn (On.own.1 h')⟩ fun b' hb' => ?_⟩
    rcases Nat.lt_or_ge b' w.heap.size with hlt | hge
    · left
      obtain ⟨a', rfl, rfl⟩ := hb'
      -- an elder block that it lies in is v's own
      rcases h.2 with ⟨h0, hn0⟩ | ⟨g, cap, cur, hv, hbg, hg, hnc, hcm, hcs, htake⟩
      · injection h0 with h0 h2 h3; subst h0 h2 h3
        by_cases hm : m = 0
        · subst hm; have := hiff.2 ⟨rfl, rfl⟩; injection this with this; cases this
        · subst hs hb
          have hr := run_append_nil (P := P) w t ty e i z E.und hinf hz ⟨b, o, none⟩ m c' news hl hcell (by omega) (by simp only [maxLen] at h63; omega) (by have hb := hbytes; simp only [Nat.zero_add] at hb; omega)
          rw [hrun] at hr
          injection hr with h1 h2
          injection h1 with h1
          injection h1 with h1
          rw [h1] at hlt
          exact absurd hlt (by show ¬ w.heap.size < w.heap.size; omega)
      · injection hv with h1 h2 h3; subst h1 h3
        subst hs hb
        by_cases hroom : n + m ≤ c
        · have hfit : n * i.size + news.length ≤ cur.size := by rw [hl, hcs, ← Nat.add_mul]; exact Nat.mul_le_mul_right _ hroom
          have hr := run_append_room (P := P) (ty := ty) w t e i E.und hinf g n c cur hg ⟨b, o, none⟩ m c' news hl hcell (by assumption) hroom hfit
          rw [hrun] at hr
          injection hr with h1 h2
          injection h1 with h1
          injection h1 with h1
          exact ⟨_, rfl, by rw [h1]⟩
        · have holds : ∀ j u, xs[j]? = some u → w.cell? ((⟨g, 0, none⟩ : Addr).add j) = some u := World.ownsRow.cells h (g := g) rfl
          have hr := run_append_grow (P := P) w t ty e i z E.und hinf hz ⟨g, 0, none⟩ n c xs h.1 holds ⟨b, o, none⟩ m c' news hl hcell (by omega) (by simp only [maxLen] at h63; omega) (growslice_fits (by omega) hbytes)
          rw [hrun] at hr
          injection hr with h1 h2
          injection h1 with h1
          injection h1 with h1
          rw [h1] at hlt
          exact absurd hlt (by show ¬ w.heap.size < w.heap.size; omega)
    · exact .inr hge
/-- append(v, x): one element -/
theorem push_sl {t e : TypeId} {z : Value} {size bytes : Nat} (E : ElemT P t e z size bytes) (hsz : size ≤ 16777216) {w : World} {K : Value → World → Prop} {B : Nat}
    {p : Option Addr} {n c : Nat} {xs : List Value} (h : Sl w B e size p n c xs) (hB : B ≤ w.heap.size) {v : Value} (hv : v.cells.size = size) (h1 : ∀ u ∈ v.cells.toList, u.oneCell' = true)
    (h63 : n + 1 ≤ maxLen) (hbytes : (n + 1) * bytes ≤ 140737488355328)
    (k : ∀ p' c' w', Sl w' B e size p' (n + 1) c' (xs ++ v.cells.toList) → Fr (On p) w w' → (∀ b, On p' b → On p b ∨ w.heap.size ≤ b) → K (.slice p' (n + 1) c') w') :
    RunV P (Instr.buildSlice t 1 #[(0, v)]) w fun v1 w1 => AsSl v1 fun q m d => RunV P (Builtin.append_ #[t, t] t #[.slice p n c, .slice q m d]) w1 K := by
  refine RunV.build1 E hsz hv fun w1 hw1 hf1 hs1 => ?_
  rw [AsSl_slice]
  have hp : ∀ b, On p b → ¬ (fun _ : Nat => False) b := fun _ _ h => h
  refine append_sl E (h.fr hf1 hp) (Nat.le_trans hB hf1.size) (news := v.cells.toList) (fun j u hj => by rw [Nat.zero_add, hw1.cell]; exact hj) (by simp [hv]) h1 h63 hbytes fun p' c' w' h2 hf2 hon => ?_
  refine k p' c' w' h2 ⟨hf2.os.trans hf1.os, hf2.output.trans hf1.output, hf2.tape.trans hf1.tape, Nat.le_trans hf1.size hf2.size, fun b hb hn => (hf2.block b (Nat.lt_of_lt_of_le hb hf1.size) hn).trans (hf1.block b hb fun h => h)⟩ fun b hb => ?_
  rcases hon b hb with h | h
  · exact .inl h
  · exact .inr (by omega)
end Go.Sh

namespace Go.Sh
variable {P : Program}
theorem slAddr_zero {p : Option Addr} {c size : Nat} : slAddr p 0 c size = p := by
  unfold slAddr
  split
  · rfl
  · rw [Nat.zero_mul]; cases p <;> rfl
/-- what may be appended: m elements, the cells news -/
def SrcOk (w : World) (size : Nat) (q : Option Addr) (m c : Nat) (news : List Value) : Prop :=
  news.length = m * size ∧ ((q = none ∧ m = 0 ∧ c = 0) ∨ ∃ b o, q = some ⟨b, o, none⟩ ∧ ∀ j u, news[j]? = some u → w.cell? ⟨b, o + j, none⟩ = some u)
section
variable {w w' : World} {B : Nat} {e : TypeId} {size n c : Nat} {p : Option Addr} {xs : List Value}
theorem Sl.src (h : Sl w B e size p n c xs) : SrcOk w size p n c xs := by
  refine ⟨h.len, ?_⟩
  rcases h.cases with ⟨h1, h2, h3, _⟩ | ⟨g, sp, hp, _, hh, _⟩
  · exact .inl ⟨h1, h2, h3⟩
  · refine .inr ⟨g, 0, hp, fun j u hj => ?_⟩
    rw [Nat.zero_add, hh.cell, List.getElem?_append_left (List.getElem?_eq_some_iff.1 hj).1, hj]
theorem Sl.src_sub (h : Sl w B e size p n c xs) {lo hi : Nat} (hlo : lo ≤ hi) (hhi : hi ≤ n) : SrcOk w size (slAddr p lo c size) (hi - lo) (c - lo) ((xs.drop (lo * size)).take ((hi - lo) * size)) := by
  have hlen := h.len
  have h1 : hi * size ≤ n * size := Nat.mul_le_mul_right _ hhi
  have h2 : (hi - lo) * size = hi * size - lo * size := Nat.sub_mul _ _ _
  refine ⟨by simp [hlen, h2]; omega, ?_⟩
  rcases h.cases with ⟨rfl, rfl, rfl, _⟩ | ⟨g, sp, rfl, _, hh, hnc, _⟩
  · exact .inl ⟨by unfold slAddr; split <;> rfl, by omega, by omega⟩
  · by_cases hc : c = lo
    · refine .inr ⟨g, 0, by unfold slAddr; rw [if_pos hc], fun j u hj => ?_⟩
      have : hi - lo = 0 := by omega
      rw [this] at hj; simp at hj
    · refine .inr ⟨g, lo * size, by unfold slAddr; rw [if_neg hc]; simp [at0_mk], fun j u hj => ?_⟩
      rw [List.getElem?_take] at hj
      split at hj
      · rw [List.getElem?_drop] at hj
        rw [hh.cell, List.getElem?_append_left (List.getElem?_eq_some_iff.1 hj).1, hj]
      · cases hj
theorem Sl.pre (h : Sl w B e size p n c xs) {i : Nat} (hi : i ≤ n) : Sl w B e size p i c (xs.take (i * size)) := by
  have h1 : i * size ≤ n * size := Nat.mul_le_mul_right _ hi
  refine ⟨by rw [List.length_take, h.len]; omega, ?_⟩
  rcases h.2 with ⟨h0, h2⟩ | ⟨g, cap, cur, hv, hb, hg, hnc, hcm, hcs, ht⟩
  · injection h0 with h0 _ h3; subst h0 h3; exact .inl ⟨by rw [show i = 0 by omega], by omega⟩
  · injection hv with h1 h2 h3; subst h1 h3
    refine .inr ⟨g, c, cur, rfl, hb, hg, by omega, hcm, hcs, ?_⟩
    rw [← ht, List.take_take, Nat.min_eq_left (by assumption)]
theorem Sl.set (h : Sl w B e size p n c xs) {g i : Nat} (hp : p = some ⟨g, 0, none⟩) {v : Value} (hi : i < xs.length) : Sl (w.setCell ⟨g, i, none⟩ v) B e size p n c (xs.set i v) := by
  refine ⟨by simp [h.len], ?_⟩
  rcases h.2 with ⟨h0, h2⟩ | ⟨g', cap, cur, hv, hb, hg, hnc, hcm, hcs, ht⟩
  · injection h0 with h0; rw [h0] at hp; cases hp
  · injection hv with h1 h2 h3
    rw [h1] at hp; injection hp with hp; injection hp with hp; subst hp
    refine .inr ⟨g', cap, cur.setIfInBounds i v, by rw [h1, h3], hb, ?_, hnc, hcm, by simpa using hcs, ?_⟩
    · simp only [World.setCell, Array.getElem?_modify, hg]; simp
    · rw [← ht, Array.toList_setIfInBounds]; rw [List.take_set]
theorem Sl.st (h : Sl w B e size p n c xs) {g i : Nat} (hp : p = some ⟨g, 0, none⟩) {v : Value} (hi : i < xs.length) (h1 : v.oneCell' = true) {K : World → Prop}
    (k : ∀ w', Sl w' B e size p n c (xs.set i v) → Fr (On p) w w' → w'.heap.size = w.heap.size → K w') : St w ⟨g, i, none⟩ v K := by
  obtain ⟨b, o, hb, hc⟩ := h.rd i _ (List.getElem?_eq_getElem hi)
  rw [hp] at hb; injection hb with hb; injection hb with hb1 hb2; subst hb1 hb2
  rw [Nat.zero_add] at hc
  have hfz : w.frozen? ⟨g, i, none⟩ = false := by
    rcases h.cases with ⟨h0, _⟩ | ⟨g', sp, h0, _, hh, _⟩
    · rw [h0] at hp; cases hp
    · rw [h0] at hp; injection hp with hp; injection hp with hp; subst hp; exact hh.frozen
  refine ⟨⟨_, hc⟩, hfz, h1, k _ (h.set hp hi) ⟨rfl, rfl, rfl, by rw [size_setCell]; exact Nat.le_refl _, fun b _ hn => heap_setCell _ _ _ _ fun e => hn ?_⟩ (size_setCell _ _ _)⟩
  exact ⟨_, hp, e.symm⟩
end
theorem Sl.le {w : World} {B : Nat} {e : TypeId} {size n c : Nat} {p : Option Addr} {xs : List Value} (h : Sl w B e size p n c xs) : n ≤ c := by
  rcases h.cases with ⟨_, h1, h2, _⟩ | ⟨g, sp, _, _, _, h, _⟩ <;> omega
/-- append(v, x...) from whatever source -/
theorem append_src {t e ty : TypeId} {z : Value} {size bytes : Nat} (E : ElemT P t e z size bytes) {w : World} {K : Value → World → Prop} {B : Nat}
    {p : Option Addr} {n c : Nat} {xs : List Value} (h : Sl w B e size p n c xs) (hB : B ≤ w.heap.size)
    {q : Option Addr} {m c' : Nat} {news : List Value} (hs : SrcOk w size q m c' news) (h1 : ∀ u ∈ news, u.oneCell' = true)
    (h63 : n + m ≤ maxLen) (hbytes : (n + m) * bytes ≤ 140737488355328)
    (k : ∀ p' c' w', Sl w' B e size p' (n + m) c' (xs ++ news) → Fr (On p) w w' → (∀ b, On p' b → On p b ∨ w.heap.size ≤ b) → K (.slice p' (n + m) c') w') :
    RunV P (Builtin.append_ #[t, t] ty #[.slice p n c, .slice q m c']) w K := by
  rcases hs.2 with ⟨rfl, rfl, rfl⟩ | ⟨b, o, rfl, hx⟩
  · have hn : news = [] := by have := hs.1; simpa using this
    subst hn
    have hi := E.info
    cases hinf : P.info? e with
    | none => rw [hinf] at hi; cases hi
    | some i =>
      rw [hinf] at hi
      simp only [Option.map_some, Option.some.injEq, Prod.mk.injEq] at hi
      refine ⟨_, _, run_append_owned_none (ty := ty) w B t e i size E.und hinf (.slice p n c) n xs h, ?_⟩
      have := k p c w (by simpa using h) (Fr.refl _ _) (fun b hb => .inl hb)
      simpa using this
  · exact append_sl E h hB hx hs.1 h1 h63 hbytes k
/-- make([]T, 0, c) -/
theorem make_sl {t e : TypeId} {z : Value} {size bytes : Nat} (E : ElemT P t e z size bytes) {w : World} {K : Value → World → Prop} (B : Nat) (hB : B ≤ w.heap.size) (c : Nat) (hc : c ≤ maxLen) (hbytes : bytes * c ≤ 281474976710656)
    (k : ∀ p w', Sl w' B e size p 0 c [] → Fr0 w w' → (∀ b, On p b → w.heap.size ≤ b) → K (.slice p 0 c) w') :
    RunV P (Instr.makeSlice t (.int .i64 0) (.int .i64 (c : Int))) w K := by
  have hi := E.info
  cases hinf : P.info? e with
  | none => rw [hinf] at hi; cases hi
  | some i =>
    rw [hinf] at hi
    simp only [Option.map_some, Option.some.injEq, Prod.mk.injEq] at hi
    obtain ⟨hz, hs, hb⟩ := hi
    obtain ⟨w', hrun, how, hgr⟩ := run_make_own (P := P) w B t e i z size E.und hinf hz hs .i64 .i64 c (by rw [hb]; exact hbytes) hc hB
    refine ⟨_, w', hrun, k _ w' how ⟨hgr.os, hgr.output, hgr.tape, hgr.size, fun b hb _ => hgr.block b hb (by simp)⟩ ?_⟩
    rintro b ⟨a, ha, rfl⟩
    injection ha with ha; subst ha; exact Nat.le_refl _

/-! ## rows of elements -/
theorem flat_len {α : Type} {g : α → List Value} {size : Nat} (hg : ∀ x, (g x).length = size) (l : List α) : (l.flatMap g).length = l.length * size := by
  induction l with
  | nil => simp
  | cons x r ih => simp [List.flatMap_cons, ih, hg, Nat.add_mul, Nat.add_comm]
theorem flat_get {α : Type} {g : α → List Value} {size : Nat} (hg : ∀ x, (g x).length = size) : ∀ (l : List α) (i j : Nat), j < size → ∀ x, l[i]? = some x → (l.flatMap g)[i * size + j]? = (g x)[j]?
  | [], i, j, _, x, hx => by simp at hx
  | y :: r, 0, j, hj, x, hx => by
    simp at hx; subst hx
    rw [List.flatMap_cons, Nat.zero_mul, Nat.zero_add, List.getElem?_append_left (by rw [hg]; exact hj)]
  | y :: r, i + 1, j, hj, x, hx => by
    simp only [List.getElem?_cons_succ] at hx
    rw [List.flatMap_cons, List.getElem?_append_right (by rw [hg, Nat.add_mul]; omega), hg]
    rw [show (i + 1) * size + j - size = i * size + j by rw [Nat.add_mul]; omega]
    exact flat_get hg r i j hj x hx
theorem flat_set {α : Type} {g : α → List Value} {size : Nat} (hg : ∀ x, (g x).length = size) {v : Value} : ∀ (l : List α) (i j : Nat), j < size → ∀ x y, l[i]? = some x → g y = (g x).set j v → (l.flatMap g).set (i * size + j) v = (l.set i y).flatMap g
  | [], i, j, _, x, y, hx, _ => by simp at hx
  | a :: r, 0, j, hj, x, y, hx, hy => by
    simp at hx; subst hx
    rw [List.flatMap_cons, Nat.zero_mul, Nat.zero_add, List.set_append_left _ _ (by rw [hg]; exact hj), List.set_cons_zero, List.flatMap_cons, hy]
  | a :: r, i + 1, j, hj, x, y, hx, hy => by
    simp only [List.getElem?_cons_succ] at hx
    rw [List.flatMap_cons, List.set_append_right _ _ (by rw [hg, Nat.add_mul]; omega), hg]
    rw [show (i + 1) * size + j - size = i * size + j by rw [Nat.add_mul]; omega]
    rw [flat_set hg r i j hj x y hx hy, List.set_cons_succ, List.flatMap_cons]
theorem flat_take {α : Type} {g : α → List Value} {size : Nat} (hg : ∀ x, (g x).length = size) : ∀ (l : List α) (i : Nat), (l.flatMap g).take (i * size) = (l.take i).flatMap g
  | [], i => by simp
  | a :: r, 0 => by simp
  | a :: r, i + 1 => by
    rw [List.flatMap_cons, List.take_append, hg, List.take_succ_cons, List.flatMap_cons, List.take_of_length_le (by rw [hg, Nat.add_mul]; omega)]
    rw [show (i + 1) * size - size = i * size by rw [Nat.add_mul]; omega, flat_take hg r i]
theorem flat_drop {α : Type} {g : α → List Value} {size : Nat} (hg : ∀ x, (g x).length = size) : ∀ (l : List α) (i : Nat), (l.flatMap g).drop (i * size) = (l.drop i).flatMap g
  | [], i => by simp
  | a :: r, 0 => by simp
  | a :: r, i + 1 => by
    rw [List.flatMap_cons, List.drop_append, hg, List.drop_succ_cons, List.drop_of_length_le (by rw [hg, Nat.add_mul]; omega)]
    rw [show (i + 1) * size - size = i * size by rw [Nat.add_mul]; omega, flat_drop hg r i, List.nil_append]
end Go.Sh

namespace Go.Sh
variable {P : Program}
/-! ## '==' on small structs and arrays of numbers and bools -/
/-- a type of one cell, a number or a bool -/
structure LeafT (P : Program) (e : TypeId) : Prop where
  plain : P.plainKey e = true
  und : (∃ k, P.underlying e = some (.int k)) ∨ P.underlying e = some .bool
/-- two cells of such a type -/
def Leaf2 (a b : Value) : Prop := (∃ k x y, a = .int k x ∧ b = .int k y) ∨ (∃ x y, a = .bool x ∧ b = .bool y)
def LeafT.Fits (P : Program) (e : TypeId) (a b : Value) : Prop := (∃ k k' x y, P.underlying e = some (.int k') ∧ a = .int k x ∧ b = .int k y) ∨ (∃ x y, P.underlying e = some .bool ∧ a = .bool x ∧ b = .bool y)
theorem run_leaf {e : TypeId} {a b : Value} (h : LeafT.Fits P e a b) (d : Nat) (w : World) : ∃ r : Bool, (Op.equalIn (d + 1) e a b).run P w = .ok r w ∧ (r = true ↔ a = b) := by
  rcases h with ⟨k, k', x, y, h, rfl, rfl⟩ | ⟨x, y, h, rfl, rfl⟩
  · exact ⟨_, run_equalIn_int w d e k k' x y h, by simp⟩
  · exact ⟨_, run_equalIn_bool' w d e x y h, by simp⟩
theorem run_eqFields_leaf (d : Nat) (xs ys : Array Value) (w : World) : ∀ (fs : List Field), (∀ f ∈ fs, f.name ≠ "_" ∧ P.plainKey f.type = true ∧ ∃ a b, xs[f.offset]? = some a ∧ ys[f.offset]? = some b ∧ LeafT.Fits P f.type a b) →
    ∃ r : Bool, (Op.eqFields (d + 1) xs ys fs).run P w = .ok r w ∧ (r = true ↔ ∀ f ∈ fs, xs[f.offset]? = ys[f.offset]?)
  | [], _ => ⟨true, by simp [Op.eqFields], by simp⟩
  | f :: fs, h => by
    obtain ⟨hn, hp, a, b, ha, hb, hfit⟩ := h f (by simp)
    obtain ⟨r, hr, hri⟩ := run_leaf hfit d w
    obtain ⟨r', hr', hri'⟩ := run_eqFields_leaf d xs ys w fs fun g hg => h g (by simp [hg])
    have p1 := run_part_plain w hp ha
    have p2 := run_part_plain w hp hb
    cases r with
    | false => 
      refine ⟨false, by simp [Op.eqFields, hn, p1, p2, hr], ?_⟩
      simp only [Bool.false_eq_true, false_iff]
      intro hall
      have := hall f (by simp)
      rw [ha, hb] at this
      injection this with this
      exact absurd (hri.2 this) (by simp)
    | true =>
      refine ⟨r', by simp [Op.eqFields, hn, p1, p2, hr, hr'], ?_⟩
      rw [hri']
      constructor
      · intro hall g hg
        rcases List.mem_cons.1 hg with rfl | hg
        · rw [ha, hb, hri.1 rfl]
        · exact hall g hg
      · exact fun hall g hg => hall g (by simp [hg])
theorem run_eqItems_leaf (d : Nat) {e : TypeId} (hp : P.plainKey e = true) {c : Nat} (xs ys : Array Value) (w : World) : ∀ (is : List Nat), (∀ i ∈ is, ∃ a b, xs[i * c]? = some a ∧ ys[i * c]? = some b ∧ LeafT.Fits P e a b) →
    ∃ r : Bool, (Op.eqItems (d + 1) e c xs ys is).run P w = .ok r w ∧ (r = true ↔ ∀ i ∈ is, xs[i * c]? = ys[i * c]?)
  | [], _ => ⟨true, by simp [Op.eqItems], by simp⟩
  | f :: fs, h => by
    obtain ⟨a, b, ha, hb, hfit⟩ := h f (by simp)
    obtain ⟨r, hr, hri⟩ := run_leaf hfit d w
    obtain ⟨r', hr', hri'⟩ := run_eqItems_leaf d hp xs ys w fs fun g hg => h g (by simp [hg])
    have p1 := run_part_plain w hp ha
    have p2 := run_part_plain w hp hb
    cases r with
    | false => 
      refine ⟨false, by simp [Op.eqItems, p1, p2, hr], ?_⟩
      simp only [Bool.false_eq_true, false_iff]
      intro hall
      have := hall f (by simp)
      rw [ha, hb] at this
      injection this with this
      exact absurd (hri.2 this) (by simp)
    | true =>
      refine ⟨r', by simp [Op.eqItems, p1, p2, hr, hr'], ?_⟩
      rw [hri']
      constructor
      · intro hall g hg
        rcases List.mem_cons.1 hg with rfl | hg
        · rw [ha, hb, hri.1 rfl]
        · exact hall g hg
      · exact fun hall g hg => hall g (by simp [hg])
/-- a struct of such cells -/
structure StructT (P : Program) (t : TypeId) (fs : Array Field) : Prop where
  und : P.underlying t = some (.struct fs)
  stood : P.stoodInHeld t = false
  guard : P.eqGuardType P.depth t = false
theorem struct_run {t : TypeId} {fs : Array Field} (E : StructT P t fs) {xs ys : Array Value} (h : ∀ f ∈ fs.toList, f.name ≠ "_" ∧ P.plainKey f.type = true ∧ ∃ a b, xs[f.offset]? = some a ∧ ys[f.offset]? = some b ∧ LeafT.Fits P f.type a b) (w : World) :
    ∃ r : Bool, (Op.equalIn 10000 t (.agg xs) (.agg ys)).run P w = .ok r w ∧ (r = true ↔ ∀ f ∈ fs.toList, xs[f.offset]? = ys[f.offset]?) := by
  have e : P.fieldsOf t = fs := by simp [Program.fieldsOf, E.und]
  have h1 := run_equalIn_agg (P := P) w 9999 t xs ys (by rw [e]; exact E.und) E.stood
  rw [e] at h1
  obtain ⟨r, hr, hri⟩ := run_eqFields_leaf 9998 xs ys w fs.toList h
  exact ⟨r, h1.trans hr, hri⟩
theorem RunP.eqlStruct {t : TypeId} {fs : Array Field} (E : StructT P t fs) {x y : Operand} {xs ys : Array Value} (h : ∀ f ∈ fs.toList, f.name ≠ "_" ∧ P.plainKey f.type = true ∧ ∃ a b, xs[f.offset]? = some a ∧ ys[f.offset]? = some b ∧ LeafT.Fits P f.type a b)
    {K : Value → Prop} (k : ∀ r : Bool, (r = true ↔ ∀ f ∈ fs.toList, xs[f.offset]? = ys[f.offset]?) → K (.bool r)) : RunP P (binSem .eql t x y (.agg xs) (.agg ys)) K := by
  obtain ⟨r, hr, hri⟩ := struct_run E h default
  refine ⟨.bool r, fun w => ?_, k r hri⟩
  obtain ⟨r1, hr1, hri1⟩ := struct_run E h w
  have : r1 = r := by rw [Bool.eq_iff_iff]; exact hri1.trans hri.symm
  subst this
  unfold binSem
  simp only [Sem.run_bind, run_eqGuard_agg w _ t x y xs ys E.guard, Result.andThen_ok, run_eql_struct, hr1]
theorem RunP.neqStruct {t : TypeId} {fs : Array Field} (E : StructT P t fs) {x y : Operand} {xs ys : Array Value} (h : ∀ f ∈ fs.toList, f.name ≠ "_" ∧ P.plainKey f.type = true ∧ ∃ a b, xs[f.offset]? = some a ∧ ys[f.offset]? = some b ∧ LeafT.Fits P f.type a b)
    {K : Value → Prop} (k : ∀ r : Bool, (r = true ↔ ∀ f ∈ fs.toList, xs[f.offset]? = ys[f.offset]?) → K (.bool (!r))) : RunP P (binSem .neq t x y (.agg xs) (.agg ys)) K := by
  obtain ⟨r, hr, hri⟩ := struct_run E h default
  refine ⟨.bool (!r), fun w => ?_, k r hri⟩
  obtain ⟨r1, hr1, hri1⟩ := struct_run E h w
  have : r1 = r := by rw [Bool.eq_iff_iff]; exact hri1.trans hri.symm
  subst this
  unfold binSem
  simp only [Sem.run_bind, run_eqGuard_agg w _ t x y xs ys E.guard, Result.andThen_ok, run_neq_struct, hr1]
/-- an array of such cells -/
structure ArrT (P : Program) (t e : TypeId) (n : Nat) : Prop where
  und : P.underlying t = some (.array n e)
  info : (P.info? e).isSome = true
  cells : P.cellsOf e = 1
  plain : P.plainKey e = true
  guard : P.eqGuardType P.depth t = false
theorem arr_run {t e : TypeId} {n : Nat} (E : ArrT P t e n) {xs ys : Array Value} (h : ∀ i, i < n → ∃ a b, xs[i]? = some a ∧ ys[i]? = some b ∧ LeafT.Fits P e a b) (w : World) :
    ∃ r : Bool, (Op.equalIn 10000 t (.agg xs) (.agg ys)).run P w = .ok r w ∧ (r = true ↔ ∀ i, i < n → xs[i]? = ys[i]?) := by
  obtain ⟨i, hi⟩ := Option.isSome_iff_exists.1 E.info
  have h1 := run_equalIn_array (P := P) w 9999 xs ys E.und hi
  rw [E.cells] at h1
  obtain ⟨r, hr, hri⟩ := run_eqItems_leaf 9998 E.plain (c := 1) xs ys w (List.range n) fun i hi => by rw [Nat.mul_one]; exact h i (List.mem_range.1 hi)
  refine ⟨r, h1.trans hr, hri.trans ?_⟩
  simp
theorem RunP.eqlArr {t e : TypeId} {n : Nat} (E : ArrT P t e n) {x y : Operand} {xs ys : Array Value} (h : ∀ i, i < n → ∃ a b, xs[i]? = some a ∧ ys[i]? = some b ∧ LeafT.Fits P e a b)
    {K : Value → Prop} (k : ∀ r : Bool, (r = true ↔ ∀ i, i < n → xs[i]? = ys[i]?) → K (.bool r)) : RunP P (binSem .eql t x y (.agg xs) (.agg ys)) K := by
  obtain ⟨r, hr, hri⟩ := arr_run E h default
  refine ⟨.bool r, fun w => ?_, k r hri⟩
  obtain ⟨r1, hr1, hri1⟩ := arr_run E h w
  have : r1 = r := by rw [Bool.eq_iff_iff]; exact hri1.trans hri.symm
  subst this
  unfold binSem
  simp only [Sem.run_bind, run_eqGuard_agg w _ t x y xs ys E.guard, Result.andThen_ok, run_eql_struct, hr1]
end Go.Sh

set_option linter.unusedVariables false
namespace Go.Sh
variable {P : Program}
theorem foldl_set' (l : List Value) : ∀ (k off : Nat) (pre cs : List Value), pre.length = off + k → l.length ≤ cs.length →
    ((l.zipIdx k).foldl (fun cs (c, j) => cs.setIfInBounds (off + j) c) (pre ++ cs).toArray : Array Value) = (pre ++ l ++ cs.drop l.length).toArray := by
  induction l with
  | nil => intro k off pre cs _ _; simp
  | cons x r ih =>
    intro k off pre cs hp hl
    cases cs with
    | nil => simp at hl
    | cons y t =>
      simp only [List.zipIdx_cons, List.foldl_cons]
      have : ((pre ++ y :: t).toArray.setIfInBounds (off + k) x : Array Value) = ((pre ++ [x]) ++ t).toArray := by
        apply Array.ext'
        simp [← hp]
      rw [this, ih (k + 1) off (pre ++ [x]) t (by simp [hp]; omega) (by simpa using hl)]
      simp
theorem fill_all (size : Nat) : ∀ (vs : List Value) (n : Nat) (pre cs : List Value), pre.length = n * size → cs.length = vs.length * size → (∀ v ∈ vs, v.cells.size = size) →
    Instr.fill (fun i => some (i * size, size)) (pre ++ cs).toArray ((vs.zipIdx n).map fun x => (x.2, x.1)) = some (pre ++ vs.flatMap fun v => v.cells.toList).toArray
  | [], n, pre, cs, _, hc, _ => by
    have : cs = [] := by simpa using hc
    subst this
    simp [Instr.fill]
  | v :: vs, n, pre, cs, hp, hc, hv => by
    have h0 := hv v (by simp)
    have hcl : size ≤ cs.length := by rw [hc, List.length_cons, Nat.add_mul]; omega
    simp only [List.zipIdx_cons, List.map_cons, Instr.fill]
    rw [if_neg (by simp [h0]; omega)]
    have e := foldl_set' v.cells.toList 0 (n * size) pre cs (by simpa using hp) (by simpa [h0] using hcl)
    rw [← Array.foldl_toList, Array.toList_zipIdx, e]
    have := fill_all size vs (n + 1) (pre ++ v.cells.toList) (cs.drop v.cells.toList.length) (by simp [hp, h0, Nat.add_mul]) (by simp [hc, h0, Nat.add_mul]) fun u hu => hv u (by simp [hu])
    rw [this]
    simp
/-- a slice of elements, written out -/
theorem RunV.buildN {t e : TypeId} {z : Value} {size bytes : Nat} (E : ElemT P t e z size bytes) {w : World} {K : Value → World → Prop} (vs : List Value) (parts : Array (Nat × Value)) (hparts : parts.toList = (vs.zipIdx 0).map fun x => (x.2, x.1)) (n : Nat) (hn : vs.length = n) (hpos : 0 < n)
    (hsz : n * size ≤ 16777216) (hv : ∀ v ∈ vs, v.cells.size = size)
    (k : ∀ w', Has w' w.heap.size (vs.flatMap fun v => v.cells.toList) → Fr0 w w' → w'.heap.size = w.heap.size + 1 → K (.slice (some ⟨w.heap.size, 0, none⟩) n n) w') :
    RunV P (Instr.buildSlice t n parts) w K := by
  have hi := E.info
  cases hinf : P.info? e with
  | none => rw [hinf] at hi; cases hi
  | some i =>
    rw [hinf] at hi
    simp only [Option.map_some, Option.some.injEq, Prod.mk.injEq] at hi
    obtain ⟨hz, hs, hb⟩ := hi
    refine ⟨_, w.alloc (.cells (vs.flatMap fun v => v.cells.toList).toArray e), ?_, k _ (Has.made w _ e) (Fr.made w _) (by simp)⟩
    have h1 : 0 < n * size := Nat.mul_pos hpos E.pos
    have h0 : n * size ≠ 0 := by omega
    have hle : ¬ (n * size > 2 ^ 24) := by omega
    have hfill := fill_all size vs 0 [] ((List.range (n * size)).map (fun x => z.cells[x % z.cells.size]!)) (by simp) (by simp [hn]) hv
    have e2 : (Array.range (n * size)).map (fun x => z.cells[x % z.cells.size]!) = ([] ++ (List.range (n * size)).map (fun x => z.cells[x % z.cells.size]!)).toArray := by
      apply Array.ext'; simp
    simp only [Instr.buildSlice, Sem.run_bind, under_run E.und, Result.andThen_ok, size_run (show sizeP P e = some size by simp [sizeP, hinf, hs]), if_neg hle, if_neg h0,
      zero_run (show zeroP P e = some z by simp [zeroP, hinf, hz]), Sem.run_pure, hparts, e2, hfill]
    simp [newRow]
/-- an empty slice, written out -/
theorem RunV.build0 {t e : TypeId} {z : Value} {size bytes : Nat} (E : ElemT P t e z size bytes) {w : World} {K : Value → World → Prop} (B : Nat) (hB : B ≤ w.heap.size)
    (k : ∀ p w', Sl w' B e size p 0 0 [] → Fr0 w w' → (∀ b, On p b → w.heap.size ≤ b) → K (.slice p 0 0) w') : RunV P (Instr.buildSlice t 0 #[]) w K := by
  have hi := E.info
  cases hinf : P.info? e with
  | none => rw [hinf] at hi; cases hi
  | some i =>
    rw [hinf] at hi
    simp only [Option.map_some, Option.some.injEq, Prod.mk.injEq] at hi
    obtain ⟨hz, hs, hb⟩ := hi
    refine ⟨.slice (some ⟨w.heap.size, 0, none⟩) 0 0, w.alloc (.cells #[] e), ?_, k (some ⟨w.heap.size, 0, none⟩) _ ⟨by simp, .inr ⟨w.heap.size, 0, #[], rfl, hB, ?_, by omega, by simp only [maxLen]; omega, by simp, by simp⟩⟩ (Fr.made w _) ?_⟩
    · simp [Instr.buildSlice, under_run E.und, size_run (show sizeP P e = some size by simp [sizeP, hinf, hs]), Instr.fill, newRow]
      congr 2
      apply Array.ext'; simp
    · show (w.heap.push _)[w.heap.size]? = _; simp
    · rintro b ⟨a, ha, rfl⟩; injection ha with ha; subst ha; exact Nat.le_refl _
theorem andI_one {y : Int} (h : -9223372036854775808 ≤ y ∧ y ≤ 9223372036854775807) : andI .i64 y 1 = y % 2 := by
  unfold andI
  rw [BitVec.toNat_and]
  show IntKind.i64.wrap (((BitVec.ofInt 64 y).toNat &&& (BitVec.ofInt 64 1).toNat : Nat) : Int) = _
  rw [show (BitVec.ofInt 64 1).toNat = 1 from rfl, Nat.and_one_is_mod, BitVec.toNat_ofInt]
  rw [w64 (by omega) (by omega)]
  omega
end Go.Sh

set_option linter.unusedVariables false
namespace Go.Sh
variable {P : Program}
/-- append(v, x...), and the slice v itself reads as it did -/
theorem append_keep {t e ty : TypeId} {z : Value} {size bytes : Nat} (E : ElemT P t e z size bytes) {w : World} {K : Value → World → Prop} {B : Nat}
    {p : Option Addr} {n c : Nat} {xs : List Value} (h : Sl w B e size p n c xs) (hB : B ≤ w.heap.size)
    {b o m c' : Nat} {news : List Value} (hx : ∀ j u, news[j]? = some u → w.cell? ⟨b, o + j, none⟩ = some u) (hl : news.length = m * size) (h1 : ∀ u ∈ news, u.oneCell' = true)
    (h63 : n + m ≤ maxLen) (hbytes : (n + m) * bytes ≤ 140737488355328)
    (k : ∀ p' c' w', Sl w' B e size p' (n + m) c' (xs ++ news) → Sl w' B e size p n c xs → Fr (On p) w w' → (∀ b, On p' b → On p b ∨ w.heap.size ≤ b) → K (.slice p' (n + m) c') w') :
    RunV P (Builtin.append_ #[t, t] ty #[.slice p n c, .slice (some ⟨b, o, none⟩) m c']) w K := by
  have hi := E.info
  cases hinf : P.info? e with
  | none => rw [hinf] at hi; cases hi
  | some i =>
    rw [hinf] at hi
    simp only [Option.map_some, Option.some.injEq, Prod.mk.injEq] at hi
    obtain ⟨hz, hs, hb⟩ := hi
    have hcell : ∀ j u, news[j]? = some u → w.cell? ((⟨b, o, none⟩ : Addr).add j) = some u := by
      intro j u hj
      rw [← at0_add, at0_mk]; exact hx j u hj
    obtain ⟨v', w', hrun, how, hgr, hiff⟩ := run_append_own w B t ty e i z size bytes E.und hinf hz hs hb E.zs E.pos (.slice p n c) n xs h ⟨b, o, none⟩ m c' news hl hcell h1 h63 hbytes hB
    obtain ⟨p', c1, rfl⟩ : ∃ p' c1, v' = .slice p' (n + m) c1 := by
      rcases how.2 with ⟨h0, h1⟩ | ⟨g, cap, cur, h0, _⟩
      · exact ⟨none, 0, by rw [h0, h1]⟩
      · exact ⟨_, _, h0⟩
    have hxl := h.len
    have key : Sl w' B e size p n c xs ∧ ∀ b', On p' b' → b' < w.heap.size → On p b' := by
      rcases h.2 with ⟨h0, hn0⟩ | ⟨g, cap, cur, hv, hbg, hg, hnc, hcm, hcs, htake⟩
      · injection h0 with h0 h2 h3; subst h0 h2 h3
        have hxs : xs = [] := by simpa using hxl
        subst hxs
        refine ⟨Sl.nil _ _ _ _, fun b' hb' hlt => ?_⟩
        by_cases hm : m = 0
        · subst hm; have := hiff.2 ⟨rfl, rfl⟩; injection this with this
          subst this; exact hb'
        · subst hs hb
          have hr := run_append_nil (P := P) w t ty e i z E.und hinf hz ⟨b, o, none⟩ m c' news hl hcell (by omega) (by simp only [maxLen] at h63; omega) (by have hb := hbytes; simp only [Nat.zero_add] at hb; omega)
          rw [hrun] at hr
          injection hr with h1 h2
          injection h1 with h1
          subst h1
          obtain ⟨a, ha, rfl⟩ := hb'
          injection ha with ha; subst ha
          exact absurd hlt (by show ¬ w.heap.size < w.heap.size; omega)
      · injection hv with h1 h2 h3; subst h1 h3
        subst hs hb
        by_cases hroom : n + m ≤ c
        · have hfit : n * i.size + news.length ≤ cur.size := by rw [hl, hcs, ← Nat.add_mul]; exact Nat.mul_le_mul_right _ hroom
          have hr := run_append_room (P := P) (ty := ty) w t e i E.und hinf g n c cur hg ⟨b, o, none⟩ m c' news hl hcell (by assumption) hroom hfit
          rw [hrun] at hr
          injection hr with h1 h2
          injection h1 with h1 h3 h4
          subst h1 h4
          refine ⟨?_, fun b' hb' _ => hb'⟩
          have := Sl.pre (show Sl w' B e i.size (some ⟨g, 0, none⟩) (n + m) c1 (xs ++ news) from how) (i := n) (by omega)
          rwa [List.take_append_of_le_length (by omega), List.take_of_length_le (by omega)] at this
        · have holds : ∀ j u, xs[j]? = some u → w.cell? ((⟨g, 0, none⟩ : Addr).add j) = some u := World.ownsRow.cells h (g := g) rfl
          have hr := run_append_grow (P := P) w t ty e i z E.und hinf hz ⟨g, 0, none⟩ n c xs h.1 holds ⟨b, o, none⟩ m c' news hl hcell (by omega) (by simp only [maxLen] at h63; omega) (growslice_fits (by omega) hbytes)
          rw [hrun] at hr
          injection hr with h1 h2
          injection h1 with h1
          subst h1 h2
          refine ⟨(h.qt (Qt.refl w).drew).fr0 (Fr.made _ _), fun b' hb' hlt => ?_⟩
          obtain ⟨a, ha, rfl⟩ := hb'
          injection ha with ha; subst ha
          exact absurd hlt (by show ¬ w.heap.size < w.heap.size; omega)
    refine ⟨_, w', hrun, k p' c1 w' how key.1 ⟨hgr.os, hgr.output, hgr.tape, hgr.size, fun k hk hn => hgr.block k hk fun h' => hn (On.own.1 h')⟩ fun b' hb' => ?_⟩
    rcases Nat.lt_or_ge b' w.heap.size with hlt | hge
    · exact .inl (key.2 b' hb' hlt)
    · exact .inr hge
/-- append(v, x): one element, and v itself reads as it did -/
theorem push_keep {t e : TypeId} {z : Value} {size bytes : Nat} (E : ElemT P t e z size bytes) (hsz : size ≤ 16777216) {w : World} {K : Value → World → Prop} {B : Nat}
    {p : Option Addr} {n c : Nat} {xs : List Value} (h : Sl w B e size p n c xs) (hB : B ≤ w.heap.size) {v : Value} (hv : v.cells.size = size) (h1 : ∀ u ∈ v.cells.toList, u.oneCell' = true)
    (h63 : n + 1 ≤ maxLen) (hbytes : (n + 1) * bytes ≤ 140737488355328)
    (k : ∀ p' c' w', Sl w' B e size p' (n + 1) c' (xs ++ v.cells.toList) → Sl w' B e size p n c xs → Fr (On p) w w' → (∀ b, On p' b → On p b ∨ w.heap.size ≤ b) → K (.slice p' (n + 1) c') w') :
    RunV P (Instr.buildSlice t 1 #[(0, v)]) w fun v1 w1 => AsSl v1 fun q m d => RunV P (Builtin.append_ #[t, t] t #[.slice p n c, .slice q m d]) w1 K := by
  refine RunV.build1 E hsz hv fun w1 hw1 hf1 hs1 => ?_
  rw [AsSl_slice]
  have hp : ∀ b, On p b → ¬ (fun _ : Nat => False) b := fun _ _ h => h
  refine append_keep E (h.fr hf1 hp) (Nat.le_trans hB hf1.size) (news := v.cells.toList) (fun j u hj => by rw [Nat.zero_add, hw1.cell]; exact hj) (by simp [hv]) h1 h63 hbytes fun p' c' w' h2 h3 hf2 hon => ?_
  refine k p' c' w' h2 h3 ⟨hf2.os.trans hf1.os, hf2.output.trans hf1.output, hf2.tape.trans hf1.tape, Nat.le_trans hf1.size hf2.size, fun b hb hn => (hf2.block b (Nat.lt_of_lt_of_le hb hf1.size) hn).trans (hf1.block b hb fun h => h)⟩ fun b hb => ?_
  rcases hon b hb with h | h
  · exact .inl h
  · exact .inr (by omega)
theorem cell_setCell_ne {w : World} {g i : Nat} {v : Value} {g' o' : Nat} (h : g' ≠ g ∨ o' ≠ i) : (w.setCell ⟨g, i, none⟩ v).cell? ⟨g', o', none⟩ = w.cell? ⟨g', o', none⟩ := by
  by_cases hg : g' = g
  · subst hg
    have ho : o' ≠ i := by rcases h with h | h; exact absurd rfl h; exact h
    simp only [World.cell?, World.setCell, Array.getElem?_modify, if_true]
    cases hc : w.heap[g']? with
    | none => rfl
    | some ob =>
      cases ob with
      | cells c t f => simp [hc, Array.getElem?_setIfInBounds, Ne.symm ho]
      | _ => rfl
  · have e := heap_setCell w ⟨g, i, none⟩ v g' hg
    simp only [World.cell?, e]
/-- a store into an owned slice, with what is known of every other cell -/
theorem Sl.st2 {w : World} {B : Nat} {e : TypeId} {size n c : Nat} {p : Option Addr} {xs : List Value} (h : Sl w B e size p n c xs) {g i : Nat} (hp : p = some ⟨g, 0, none⟩) {v : Value} (hi : i < xs.length) (h1 : v.oneCell' = true) {K : World → Prop}
    (k : ∀ w', Sl w' B e size p n c (xs.set i v) → Fr (On p) w w' → (∀ g' o', g' ≠ g ∨ o' ≠ i → w'.cell? ⟨g', o', none⟩ = w.cell? ⟨g', o', none⟩) → K w') : St w ⟨g, i, none⟩ v K := by
  obtain ⟨b, o, hb, hc⟩ := h.rd i _ (List.getElem?_eq_getElem hi)
  rw [hp] at hb; injection hb with hb; injection hb with hb1 hb2; subst hb1 hb2
  rw [Nat.zero_add] at hc
  have hfz : w.frozen? ⟨g, i, none⟩ = false := by
    rcases h.cases with ⟨h0, _⟩ | ⟨g', sp, h0, _, hh, _⟩
    · rw [h0] at hp; cases hp
    · rw [h0] at hp; injection hp with hp; injection hp with hp; subst hp; exact hh.frozen
  refine ⟨⟨_, hc⟩, hfz, h1, k _ (h.set hp hi) ⟨rfl, rfl, rfl, by rw [size_setCell]; exact Nat.le_refl _, fun b _ hn => heap_setCell _ _ _ _ fun e => hn ?_⟩ fun g' o' hne => cell_setCell_ne hne⟩
  exact ⟨_, hp, e.symm⟩
theorem Rd.at_ {w : World} {b : Nat} {xs : List Value} (h : Rd w (some ⟨b, 0, none⟩) xs) {i : Nat} {v : Value} (hi : xs[i]? = some v) : w.cell? ⟨b, i, none⟩ = some v := by
  obtain ⟨b', o', e, hc⟩ := h i v hi
  injection e with e; injection e with e1 e2; subst e1 e2
  rw [Nat.zero_add] at hc; exact hc
end Go.Sh
