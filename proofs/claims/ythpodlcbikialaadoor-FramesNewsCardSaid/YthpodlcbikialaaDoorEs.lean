import Derived.Test.YthpodlcbikialaaDoorDs
import Derived.Test.YthpodlcbikialaaDoorShMems
set_option linter.unusedVariables false
set_option linter.unusedSimpArgs false
set_option linter.unusedVariables false
set_option linter.unusedSimpArgs false
namespace Go.Proofs.YthpodlcbikialaaDoor
open Go Go.Sh Go.Fr

/-! ## two slabs over one pool -/
def Sb (s : Nat) (g : Option Addr) (x : Nat) : Prop := x = s ∨ On g x
theorem PoolAt.lt {w : World} {b bu bd : Nat} {p : Pool} (h : PoolAt w b bu bd p) : ∀ x, Own b bu bd x → x < w.heap.size := by
  intro x hx
  have h1 := h.st.lt; have h2 := h.us.lt
  obtain ⟨ws, _, hws⟩ := h.ws
  have h3 := hws.lt
  unfold Own at hx; omega
theorem SlabAt.lt {w : World} {s b c : Nat} {g : Option Addr} {l : List Qr} (h : SlabAt w s b g c l) : ∀ x, Sb s g x → x < w.heap.size := by
  rintro x (rfl | hx)
  · exact h.st.lt
  · exact (h.sl.lt x hx).2
structure Two (w0 w : World) (b bu bd sa sb : Nat) (ga gb : Option Addr) (ca cb : Nat) (la lb : List Qr) (p : Pool) : Prop where
  pool : PoolAt w b bu bd p
  A : SlabAt w sa b ga ca la
  B : SlabAt w sb b gb cb lb
  hA : Held p la
  hB : Held p lb
  dj : ∀ q ∈ la, ∀ q' ∈ lb, q.f ≠ q'.f
  sab : ∀ x, Sb sa ga x → ¬ Own b bu bd x ∧ ¬ Sb sb gb x
  sbp : ∀ x, Sb sb gb x → ¬ Own b bu bd x
  lo : ∀ x, Own b bu bd x ∨ Sb sa ga x ∨ Sb sb gb x → w0.heap.size ≤ x
  fr : Fr0 w0 w
  tz : Tz w0
section
variable {w0 w w' : World} {b bu bd sa sb : Nat} {ga gb : Option Addr} {ca cb : Nat} {la lb : List Qr} {p : Pool}
theorem Two.swap (h : Two w0 w b bu bd sa sb ga gb ca cb la lb p) : Two w0 w b bu bd sb sa gb ga cb ca lb la p :=
  ⟨h.pool, h.B, h.A, h.hB, h.hA, fun q hq q' hq' e => h.dj q' hq' q hq e.symm, fun x hx => ⟨h.sbp x hx, fun h2 => (h.sab x h2).2 hx⟩, fun x hx => (h.sab x hx).1, fun x hx => h.lo x (by rcases hx with h | h | h <;> simp [h]), h.fr, h.tz⟩
theorem Two.fr0 (h : Two w0 w b bu bd sa sb ga gb ca cb la lb p) (f : Fr0 w w') : Two w0 w' b bu bd sa sb ga gb ca cb la lb p :=
  ⟨h.pool.fr0 f, h.A.fr0 f, h.B.fr0 f, h.hA, h.hB, h.dj, h.sab, h.sbp, h.lo, h.fr.trans f, h.tz⟩
theorem Two.qt (h : Two w0 w b bu bd sa sb ga gb ca cb la lb p) (f : Qt w w') : Two w0 w' b bu bd sa sb ga gb ca cb la lb p := h.fr0 f.fr
theorem Two.tz' (h : Two w0 w b bu bd sa sb ga gb ca cb la lb p) : Tz w := h.tz.fr0 h.fr
theorem Two.z (h : Two w0 w b bu bd sa sb ga gb ca cb la lb p) : ¬ Own b bu bd 0 ∧ ¬ Sb sa ga 0 ∧ ¬ Sb sb gb 0 := by
  have h0 := h.tz.size
  refine ⟨fun hx => ?_, fun hx => ?_, fun hx => ?_⟩
  · have := h.lo 0 (.inl hx); omega
  · have := h.lo 0 (.inr (.inl hx)); omega
  · have := h.lo 0 (.inr (.inr hx)); omega
/-- the pool alone has turned -/
theorem Two.pooled (h : Two w0 w b bu bd sa sb ga gb ca cb la lb p) {p' : Pool} (hP : PoolAt w' b bu bd p') (f : Fr (Own b bu bd) w w') (h1 : Held p' la) (h2 : Held p' lb) : Two w0 w' b bu bd sa sb ga gb ca cb la lb p' :=
  ⟨hP, h.A.fr f (fun hx => (h.sab sa (.inl rfl)).1 hx) fun x hx => (h.sab x (.inr hx)).1, h.B.fr f (fun hx => h.sbp sb (.inl rfl) hx) fun x hx => h.sbp x (.inr hx), h1, h2, h.dj, h.sab, h.sbp, h.lo,
    Fr.news h.fr f fun x hx => h.lo x (.inl hx), h.tz⟩
/-- the pool and slab A have turned -/
theorem Two.turned (h : Two w0 w b bu bd sa sb ga gb ca cb la lb p) {p' : Pool} {la' : List Qr} {ga' : Option Addr} {ca' : Nat} (hP : PoolAt w' b bu bd p') (hA : SlabAt w' sa b ga' ca' la') (f : Fr (OwnS b bu bd sa ga) w w') (hon : ∀ x, On ga' x → On ga x ∨ w.heap.size ≤ x)
    (h1 : Held p' la') (h2 : Held p' lb) (dj : ∀ q ∈ la', ∀ q' ∈ lb, q.f ≠ q'.f) : Two w0 w' b bu bd sa sb ga' gb ca' cb la' lb p' := by
  have hpl := h.pool.lt
  have hbl := h.B.lt
  have hal := h.A.lt
  have hsz := h.fr.size
  have hO : ∀ x, Sb sb gb x → ¬ OwnS b bu bd sa ga x := by
    rintro x hx (h3 | h3 | h3)
    · exact h.sbp x hx h3
    · exact (h.sab x (.inl h3)).2 hx
    · exact (h.sab x (.inr h3)).2 hx
  refine ⟨hP, hA, h.B.fr f (hO sb (.inl rfl)) fun x hx => hO x (.inr hx), h1, h2, dj, ?_, h.sbp, ?_, Fr.news h.fr f ?_, h.tz⟩
  · rintro x (rfl | hx)
    · exact h.sab x (.inl rfl)
    · rcases hon x hx with h3 | h3
      · exact h.sab x (.inr h3)
      · exact ⟨fun h4 => by have := hpl x h4; omega, fun h4 => by have := hbl x h4; omega⟩
  · rintro x (h3 | (h3 | h3) | h3)
    · exact h.lo x (.inl h3)
    · exact h.lo x (.inr (.inl (.inl h3)))
    · rcases hon x h3 with h4 | h4
      · exact h.lo x (.inr (.inl (.inr h4)))
      · omega
    · exact h.lo x (.inr (.inr h3))
  · rintro x (h3 | h3 | h3)
    · exact h.lo x (.inl h3)
    · exact h.lo x (.inr (.inl (.inl h3)))
    · exact h.lo x (.inr (.inl (.inr h3)))
end
/-! ### the plain side -/
theorem ins_mem {f : Nat} : ∀ {l : List Qr} {q : Qr}, q ∈ insq f l → q = Qr.new f ∨ q ∈ l
  | [], q, h => by simp [insq] at h; exact .inl h
  | x :: r, q, h => by
    unfold insq at h
    split at h
    · rcases List.mem_cons.1 h with rfl | h
      · exact .inr (by simp)
      · rcases ins_mem h with h | h
        · exact .inl h
        · exact .inr (by simp [h])
    · rcases List.mem_cons.1 h with rfl | h
      · exact .inl rfl
      · exact .inr h
theorem set_mem_f {l : List Qr} {i : Nat} {q y x : Qr} (hq : l[i]? = some q) (hy : y.f = q.f) (h : x ∈ l.set i y) : ∃ z ∈ l, z.f = x.f := by
  rcases List.mem_or_eq_of_mem_set h with h | rfl
  · exact ⟨x, h, rfl⟩
  · exact ⟨q, List.mem_of_getElem? hq, hy.symm⟩
theorem turned_get (p : Pool) (k : Nat) (fn : Nat → Nat) (x : Nat) (h : k < p.u.length) : (p.turned k fn 1).u.getD x 0 = if x = k then fn (p.u.getD k 0) else p.u.getD x 0 := by
  show (turn p.u k fn 1).getD x 0 = _
  rw [turn_get _ _ _ _ _ (by omega)]
  by_cases e : x = k
  · subst e; rw [if_pos (by omega), if_pos rfl]
  · rw [if_neg (by omega), if_neg e]
theorem STake.held {p p' : Pool} {l l' : List Qr} {r e : Nat} (h : STake p l r e p' l') (hH : Held p l) : Held p' l' ∧ (∀ lb, Held p lb → Held p' lb) ∧ ∀ lb, Held p lb → (∀ q ∈ l, ∀ q' ∈ lb, q.f ≠ q'.f) → ∀ q ∈ l', ∀ q' ∈ lb, q.f ≠ q'.f := by
  cases h with
  | old i k q hq hk h0 h1 h2 =>
    refine ⟨fun x hx => ?_, fun lb h => h, fun lb _ hd x hx y hy => ?_⟩
    · obtain ⟨z, hz, e⟩ := set_mem_f (y := q.set k true) hq rfl hx
      rw [← e]; exact hH z hz
    · obtain ⟨z, hz, e⟩ := set_mem_f (y := q.set k true) hq rfl hx
      rw [← e]; exact hd z hz y hy
  | none => exact ⟨hH, fun lb h => h, fun lb _ hd => hd⟩
  | fresh h a hf hl =>
    have ha : a < p.u.length := by have := hf.2.1; omega
    have hz : p.u.getD a 0 = 0 := hf.2.2 a (Nat.le_refl _) (by omega)
    have keep : ∀ lb, Held p lb → Held (p.turned a (fun _ => 1) 1) lb := by
      intro lb hb q hq
      obtain ⟨h1, h2, h3⟩ := hb q hq
      refine ⟨h1, by simp only [Pool.turned, turn_len]; exact h2, ?_⟩
      show 0 < (p.turned a (fun _ => 1) 1).u.getD (q.f - p.first) 0
      rw [turned_get _ _ _ _ ha]; split <;> omega
    refine ⟨fun q hq => ?_, keep, fun lb hb hd q hq q' hq' e => ?_⟩
    · rcases ins_mem hq with rfl | hq
      · refine ⟨Nat.le_add_right _ _, by simp only [Pool.turned, turn_len, Qr.new]; omega, ?_⟩
        show 0 < (p.turned a (fun _ => 1) 1).u.getD (p.first + a - p.first) 0
        rw [turned_get _ _ _ _ ha, if_pos (by omega)]; omega
      · exact keep l hH q hq
    · rcases ins_mem hq with rfl | hq
      · obtain ⟨h1, h2, h3⟩ := hb q' hq'
        have e2 : p.first + a = q'.f := e
        rw [← e2, Nat.add_sub_cancel_left] at h3
        omega
      · exact hd q hq q' hq' e
theorem cut_mem {l : List Qr} {i : Nat} {x : Qr} (h : x ∈ l.take i ++ l.drop (i + 1)) : x ∈ l := by
  rw [← List.eraseIdx_eq_take_drop_succ] at h; exact List.mem_of_mem_eraseIdx h
theorem cut_ne {l : List Qr} {i : Nat} {q x : Qr} (hr : l.Pairwise fun a b => a.f < b.f) (hq : l[i]? = some q) (h : x ∈ l.take i ++ l.drop (i + 1)) : x.f ≠ q.f := by
  obtain ⟨hi, rfl⟩ := List.getElem?_eq_some_iff.1 hq
  rcases List.mem_append.1 h with h | h
  · obtain ⟨j, hj, rfl⟩ := List.getElem_of_mem h
    rw [List.length_take] at hj
    have := List.pairwise_iff_getElem.1 hr j i (by omega) hi (by omega)
    rw [List.getElem_take]; omega
  · obtain ⟨j, hj, rfl⟩ := List.getElem_of_mem h
    rw [List.length_drop] at hj
    have := List.pairwise_iff_getElem.1 hr i (i + 1 + j) hi (by omega) (by omega)
    rw [List.getElem_drop]; omega
theorem SDrop.held {p p' : Pool} {l l' : List Qr} {t : Int} {e : Nat} (h : SDrop p l t e p' l') (hO : SlabOk l) (hH : Held p l) : Held p' l' ∧ (∀ lb, Held p lb → (∀ q ∈ l, ∀ q' ∈ lb, q.f ≠ q'.f) → Held p' lb) ∧ ∀ lb : List Qr, (∀ q ∈ l, ∀ q' ∈ lb, q.f ≠ q'.f) → ∀ q ∈ l', ∀ q' ∈ lb, q.f ≠ q'.f := by
  cases h with
  | none => exact ⟨hH, fun lb h _ => h, fun lb hd => hd⟩
  | more i k q hq hk hu ht hm =>
    refine ⟨fun x hx => ?_, fun lb h _ => h, fun lb hd x hx y hy => ?_⟩
    · obtain ⟨z, hz, e⟩ := set_mem_f (y := q.set k false) hq rfl hx
      rw [← e]; exact hH z hz
    · obtain ⟨z, hz, e⟩ := set_mem_f (y := q.set k false) hq rfl hx
      rw [← e]; exact hd z hz y hy
  | last i k q hq hk hu ht hm =>
    have hqm := List.mem_of_getElem? hq
    obtain ⟨a1, a2, a3⟩ := hH q hqm
    have keep : ∀ lb, Held p lb → (∀ x ∈ lb, x.f ≠ q.f) → Held (p.turned (q.f - p.first) (· - 1) 1) lb := by
      intro lb hb hn x hx
      obtain ⟨h1, h2, h3⟩ := hb x hx
      refine ⟨h1, by simp only [Pool.turned, turn_len]; exact h2, ?_⟩
      show 0 < (p.turned (q.f - p.first) (· - 1) 1).u.getD (x.f - p.first) 0
      rw [turned_get _ _ _ _ (by omega), if_neg (by have := hn x hx; omega)]; exact h3
    refine ⟨keep _ (fun x hx => hH x (cut_mem hx)) fun x hx => cut_ne hO.rise hq hx, fun lb hb hd => keep lb hb fun x hx e => hd q hqm x hx e.symm, fun lb hd x hx y hy => hd x (cut_mem hx) y hy⟩
/-! ### the calls -/
theorem Two.take {w0 w : World} {b bu bd sa sb : Nat} {ga gb : Option Addr} {ca cb : Nat} {la lb : List Qr} {p : Pool} (h : Two w0 w b bu bd sa sb ga gb ca cb la lb p) :
    Ret prog 30 #[.pointer (some ⟨sa, 0, none⟩)] w fun v w' => ∃ (r e : Nat) (p' : Pool) (la' : List Qr) (ga' : Option Addr) (ca' : Nat), v = .tuple #[.int .i64 (r : Int), .int .i64 (e : Int)] ∧ STake p la r e p' la' ∧ Two w0 w' b bu bd sa sb ga' gb ca' cb la' lb p' ∧ Fr (OwnS b bu bd sa ga) w w' := by
  refine Ret.use (f30 h.pool h.tz' h.z.1 h.A h.hA (h.sab sa (.inl rfl)).1 fun x hx => (h.sab x (.inr hx)).1) ?_
  rintro v w' ⟨r, e, p', l', g', c', rfl, hst, hP, hS, hf, hon⟩
  obtain ⟨h1, h2, h3⟩ := hst.held h.hA
  exact ⟨r, e, p', l', g', c', rfl, hst, h.turned hP hS hf hon h1 (h2 lb h.hB) (h3 lb h.hB h.dj), hf⟩
theorem Two.drop {w0 w : World} {b bu bd sa sb : Nat} {ga gb : Option Addr} {ca cb : Nat} {la lb : List Qr} {p : Pool} (h : Two w0 w b bu bd sa sb ga gb ca cb la lb p) (t : Int) (ht : I64 t) :
    Ret prog 33 #[.pointer (some ⟨sa, 0, none⟩), .int .i64 t] w fun v w' => ∃ (e : Nat) (p' : Pool) (la' : List Qr) (ga' : Option Addr) (ca' : Nat), v = .int .i64 (e : Int) ∧ SDrop p la t e p' la' ∧ Two w0 w' b bu bd sa sb ga' gb ca' cb la' lb p' ∧ Fr (OwnS b bu bd sa ga) w w' := by
  refine Ret.use (f33 h.pool h.tz' (fun hx => ?_) h.A h.hA (h.sab sa (.inl rfl)).1 (fun x hx => (h.sab x (.inr hx)).1) t ht) ?_
  · obtain ⟨z1, z2, _⟩ := h.z
    rcases hx with hx | hx | hx
    · exact z1 hx
    · exact z2 (.inl hx)
    · exact z2 (.inr hx)
  rintro v w' ⟨e, p', l', g', c', rfl, hst, hP, hS, hf, hon⟩
  obtain ⟨h1, h2, h3⟩ := hst.held h.A.ok h.hA
  exact ⟨e, p', l', g', c', rfl, hst, h.turned hP hS hf hon h1 (h2 lb h.hB h.dj) (h3 lb h.dj), hf⟩
end Go.Proofs.YthpodlcbikialaaDoor

set_option linter.unusedVariables false
set_option linter.unusedSimpArgs false
namespace Go.Proofs.YthpodlcbikialaaDoor
open Go Go.Sh Go.Fr

/-! ## the tables of a slab, plainly -/
theorem mem_qtabs {q : Qr} {x : Nat} : x ∈ q.tabs 4 ↔ ∃ k, k < 4 ∧ q.u k = true ∧ x = 4 * q.f + k := by
  unfold Qr.tabs
  simp only [List.mem_map, List.mem_filter, List.mem_range]
  constructor
  · rintro ⟨k, ⟨h1, h2⟩, h3⟩; exact ⟨k, h1, h2, h3.symm⟩
  · rintro ⟨k, h1, h2, h3⟩; exact ⟨k, ⟨h1, h2⟩, h3.symm⟩
theorem mem_tabs {l : List Qr} {x : Nat} : x ∈ tabs l ↔ ∃ q ∈ l, ∃ k, k < 4 ∧ q.u k = true ∧ x = 4 * q.f + k := by
  unfold tabs
  simp only [List.mem_flatMap, mem_qtabs]
theorem tabs_rise {l : List Qr} (h : l.Pairwise fun a b => a.f < b.f) : (tabs l).Pairwise (· < ·) := by
  unfold tabs
  rw [List.pairwise_flatMap]
  refine ⟨fun q _ => ?_, h.imp fun {a b} hab x hx y hy => ?_⟩
  · unfold Qr.tabs
    rw [List.pairwise_map]
    exact (List.pairwise_lt_range.filter _).imp fun hab => by omega
  · obtain ⟨k, h1, _, rfl⟩ := mem_qtabs.1 hx
    obtain ⟨k', h1', _, rfl⟩ := mem_qtabs.1 hy
    omega
def base (l : List Qr) (i : Nat) : Nat := (tabs (l.take i)).length
theorem base_succ {l : List Qr} {i : Nat} {q : Qr} (h : l[i]? = some q) : base l (i + 1) = base l i + (q.tabs 4).length := by
  unfold base; rw [tabs_take h, List.length_append]
theorem tabs_cut {l : List Qr} {i : Nat} {q : Qr} (h : l[i]? = some q) : tabs l = tabs (l.take i) ++ (q.tabs 4 ++ tabs (l.drop (i + 1))) := by
  obtain ⟨hi, rfl⟩ := List.getElem?_eq_some_iff.1 h
  have e : l = l.take i ++ l[i] :: l.drop (i + 1) := by rw [← List.drop_eq_getElem_cons hi, List.take_append_drop]
  unfold tabs
  conv => lhs; rw [e]
  rw [List.flatMap_append, List.flatMap_cons]
theorem tabs_at {l : List Qr} {i n : Nat} {q : Qr} (h : l[i]? = some q) (hn : n < (q.tabs 4).length) : (tabs l)[base l i + n]? = some (q.tabs 4)[n] := by
  rw [tabs_cut h, List.getElem?_append_right (by unfold base; omega)]
  unfold base
  rw [Nat.add_sub_cancel_left, List.getElem?_append_left hn, List.getElem?_eq_getElem hn]
theorem qtabs_div {q : Qr} {n : Nat} (hn : n < (q.tabs 4).length) : (q.tabs 4)[n] / 4 = q.f := by
  obtain ⟨k, hk, _, e⟩ := mem_qtabs.1 (List.getElem_mem hn)
  rw [e]; omega
theorem qtabs_pos {l : List Qr} (h : SlabOk l) {q : Qr} (hq : q ∈ l) : 0 < (q.tabs 4).length := by
  obtain ⟨k, hk, hu⟩ := h.any q hq
  exact List.length_pos_of_mem (mem_qtabs.2 ⟨k, hk, hu, rfl⟩)
theorem base_end (l : List Qr) : base l l.length = (tabs l).length := by unfold base; rw [List.take_length]
theorem tabs_lt {l : List Qr} (h : SlabOk l) {x : Nat} (hx : x ∈ tabs l) : x < 1073741824 := by
  obtain ⟨q, hq, k, hk, _, rfl⟩ := mem_tabs.1 hx
  have := h.lt q hq; omega
theorem base_le {l : List Qr} : ∀ {i : Nat}, i ≤ l.length → base l i ≤ (tabs l).length := by
  intro i hi
  rcases Nat.lt_or_ge i l.length with h | h
  · obtain ⟨q, hq⟩ : ∃ q, l[i]? = some q := ⟨_, List.getElem?_eq_getElem h⟩
    rw [tabs_cut hq, List.length_append]; unfold base; omega
  · have : i = l.length := by omega
    rw [this, base_end]; exact Nat.le_refl _

def F31tail (ts1 : Option Addr) (ts1n : Nat) (fs0 : Option Addr) (fs0n : Nat) (i21 i24 : Int) (b27 : Bool) (w18 : World) (J16 : List Value → World → Prop) (Q : Value → World → Prop) : Prop :=
  Sh.Loop [.int .i64 (0 : Int), .int .i64 i24] w18.drew fun J49 s50 w51 => UnC s50 fun v52 s53 => AsI IntKind.i64 v52 fun i54 => UnC s53 fun v55 s56 => AsI IntKind.i64 v55 fun i57 => UnN s56 (BIf (decide (i57 < (↑ts1n : Int))) (NilP ts1 fun a58 => (0 : Int) ≤ i57 ∧ i57 < (↑ts1n : Int) ∧ Ld w51.drew (at0 a58 (i57.toNat * (1 : Nat))) fun v59 => AsI IntKind.i64 v59 fun i60 => NilP fs0 fun a61 => (0 : Int) ≤ i21 ∧ i21 < (↑fs0n : Int) ∧ Ld w51.drew (at0 a61 (i21.toNat * (1 : Nat))) fun v62 => AsI IntKind.i64 v62 fun i63 => BIf (IntKind.i64.wrap (i60.tdiv (4 : Int)) == i63) (J49 [.int .i64 (IntKind.i64.wrap (i54 + (1 : Int))), .int .i64 (IntKind.i64.wrap (i57 + (1 : Int)))] w51.drew) (BIf (i54 == (0 : Int)) (Q (.bool false) w51.drew) (J16 [.int .i64 (IntKind.i64.wrap (i21 + (1 : Int))), .int .i64 i57, .bool b27] w51.drew))) (BIf (i54 == (0 : Int)) (Q (.bool false) w51.drew) (J16 [.int .i64 (IntKind.i64.wrap (i21 + (1 : Int))), .int .i64 i57, .bool b27] w51.drew)))
theorem f31tail {w : World} {fq tq : Option Addr} {l : List Qr} (hok : SlabOk l) (hF : Rd w fq (i64n (l.map Qr.f))) (hTs : Rd w tq (i64n (tabs l))) {i : Nat} {q : Qr} (hq : l[i]? = some q) (b : Bool) {J : List Value → World → Prop} {Q : Value → World → Prop}
    (hJ : ∀ b' w', Qt w w' → J [.int .i64 ((i + 1 : Nat) : Int), .int .i64 ((base l (i + 1) : Nat) : Int), .bool b'] w') : F31tail tq (tabs l).length fq l.length (i : Int) ((base l i : Nat) : Int) b w J Q := by
  have hN := hok.len
  have hqm := List.mem_of_getElem? hq
  have hil := (List.getElem?_eq_some_iff.1 hq).1
  have hqf := hok.lt q hqm
  have hpos := qtabs_pos hok hqm
  have hT4 := tabs_len l
  have hbs := base_succ hq
  have hbl := base_le (l := l) (i := i + 1) (by omega)
  unfold F31tail
  simp only [Ld_drew]
  refine Loop.by (fun s w' => ∃ (n : Nat), s = [.int .i64 (n : Int), .int .i64 ((base l i + n : Nat) : Int)] ∧ n ≤ (q.tabs 4).length ∧ Qt w w')
    (fun s _ => match s with | [.int _ k, _] => (q.tabs 4).length + 1 - k.toNat | _ => 0)
    ⟨0, rfl, by omega, (Qt.refl w).drew⟩ ?_
  rintro _ w1 ⟨n, rfl, hn, hqt⟩
  simp only [UnC_cons, UnN_nil, AsI_int]
  have hF1 := hF.qt hqt
  have hT1 := hTs.qt hqt
  rw [i64n_eq] at hF1 hT1
  rw [w64 (n := (n : Int) + 1) (by omega) (by omega), w64 (n := ((base l i + n : Nat) : Int) + 1) (by omega) (by omega), w64 (n := (i : Int) + 1) (by omega) (by omega)]
  have fin : n = (q.tabs 4).length → ∀ w', Qt w w' → J [.int .i64 ((i : Int) + 1), .int .i64 ((base l i + n : Nat) : Int), .bool b] w' := by
    intro e w' hq'
    have := hJ b w' hq'
    rw [hbs, ← e] at this
    exact this
  refine BIf_cases (fun hlt => ?_) (fun hge => ?_)
  · by_cases hnl : n < (q.tabs 4).length
    · have hat := tabs_at hq hnl
      have hmem : (q.tabs 4)[n] ∈ tabs l := List.mem_of_getElem? hat
      have hxl := tabs_lt hok hmem
      have hdiv := qtabs_div hnl
      refine hT1.int (by rw [List.length_map]) (by omega) (x := (((q.tabs 4)[n] : Nat) : Int)) (by rw [Int.toNat_natCast, List.getElem?_map, hat]; rfl) ?_
      refine hF1.int (by rw [List.length_map, List.length_map]) (by omega) (x := ((q.f : Nat) : Int)) (by rw [Int.toNat_natCast, List.getElem?_map, List.getElem?_map, hq]; rfl) ?_
      rw [IntWalk.i64_quo _ _ ⟨by omega, by omega, by omega⟩]
      refine BIf_eq (fun h => ?_) (fun h => absurd (by omega) h)
      refine ⟨⟨n + 1, rfl, by omega, hqt.drew⟩, ?_⟩
      show (q.tabs 4).length + 1 - ((n : Int) + 1).toNat < (q.tabs 4).length + 1 - (n : Int).toNat
      omega
    · have hn2 : n = (q.tabs 4).length := by omega
      have hil2 : i + 1 < l.length := by
        rcases Nat.lt_or_ge (i + 1) l.length with h | h
        · exact h
        · have e : i + 1 = l.length := by omega
          rw [e, base_end] at hbs; omega
      obtain ⟨q', hq'⟩ : ∃ q', l[i + 1]? = some q' := ⟨_, List.getElem?_eq_getElem hil2⟩
      have hqm' := List.mem_of_getElem? hq'
      have hpos' := qtabs_pos hok hqm'
      have hat := tabs_at hq' hpos'
      rw [Nat.add_zero, hbs, ← hn2] at hat
      have hxl := tabs_lt hok (List.mem_of_getElem? hat)
      have hdiv := qtabs_div hpos'
      have hff : q.f < q'.f := by
        have := List.pairwise_iff_getElem.1 hok.rise i (i + 1) hil hil2 (by omega)
        rw [(List.getElem?_eq_some_iff.1 hq).2, (List.getElem?_eq_some_iff.1 hq').2] at this
        exact this
      refine hT1.int (by rw [List.length_map]) (by omega) (x := (((q'.tabs 4)[0] : Nat) : Int)) (by rw [Int.toNat_natCast, List.getElem?_map, hat]; rfl) ?_
      refine hF1.int (by rw [List.length_map, List.length_map]) (by omega) (x := ((q.f : Nat) : Int)) (by rw [Int.toNat_natCast, List.getElem?_map, List.getElem?_map, hq]; rfl) ?_
      rw [IntWalk.i64_quo _ _ ⟨by omega, by omega, by omega⟩]
      refine BIf_eq (fun h => absurd h (by omega)) (fun h => ?_)
      refine BIf_eq (fun h => absurd h (by omega)) (fun h => ?_)
      exact fin hn2 _ hqt.drew
  · refine BIf_eq (fun h => absurd h (by omega)) (fun h => ?_)
    exact fin (by omega) _ hqt.drew
/-- the frames and the tables of one slab fit -/
theorem f31 {w : World} {fq tq : Option Addr} {fc tc : Nat} {l : List Qr} (hok : SlabOk l) (hF : Rd w fq (i64n (l.map Qr.f))) (hTs : Rd w tq (i64n (tabs l))) :
    Ret prog 31 #[.slice fq l.length fc, .slice tq (tabs l).length tc] w fun v w' => v = .bool true ∧ Qt w w' := by
  have hN := hok.len
  have hT4 := tabs_len l
  have hrise := tabs_rise hok.rise
  refine F31_of _ _ _ _ _ _ _ _ ?_
  unfold F31
  simp only [Ld_drew]
  refine Loop.by (fun s w' => ∃ (i : Nat) (b : Bool), s = [.int .i64 (i : Int), .bool b] ∧ 1 ≤ i ∧ (i ≤ (tabs l).length ∨ i = 1) ∧ Qt w w')
    (fun s _ => match s with | [.int _ k, _] => (tabs l).length - k.toNat | _ => 0)
    ⟨1, false, rfl, by omega, .inr rfl, Qt.refl w⟩ ?_
  rintro _ w1 ⟨i, b, rfl, hi, hi2, hq⟩
  simp only [UnC_cons, UnN_nil, AsI_int, AsB_bool]
  have hT1 := hTs.qt hq
  have hF1 := hF.qt hq
  refine BIf_cases (fun hlt => ?_) (fun hge => ?_)
  · have hT1' := hT1
    rw [i64n_eq] at hT1'
    have hil : i < (tabs l).length := by omega
    rw [w64 (n := (i : Int) - 1) (by omega) (by omega), w64 (n := (i : Int) + 1) (by omega) (by omega)]
    have e1 : ((i : Int) - 1).toNat = i - 1 := by omega
    refine hT1'.int (by rw [List.length_map]) (by omega) (x := (((tabs l)[i] : Nat) : Int)) (by rw [Int.toNat_natCast, List.getElem?_map, List.getElem?_eq_getElem hil]; rfl) ?_
    refine hT1'.int (by rw [List.length_map]) (by omega) (x := (((tabs l)[i - 1] : Nat) : Int)) (by rw [e1, List.getElem?_map, List.getElem?_eq_getElem (by omega)]; rfl) ?_
    have := List.pairwise_iff_getElem.1 hrise (i - 1) i (by omega) hil (by omega)
    refine BIf_neg (by omega) ?_
    refine ⟨⟨i + 1, b, rfl, by omega, .inl (by omega), hq.drew⟩, ?_⟩
    show (tabs l).length - ((i : Int) + 1).toNat < (tabs l).length - (i : Int).toNat
    omega
  refine Loop.by (fun s w' => ∃ (i : Nat) (b : Bool), s = [.int .i64 (i : Int), .int .i64 ((base l i : Nat) : Int), .bool b] ∧ i ≤ l.length ∧ Qt w w')
    (fun s _ => match s with | [.int _ k, _, _] => l.length - k.toNat | _ => 0)
    ⟨0, b, rfl, by omega, hq⟩ ?_
  rintro _ w2 ⟨j, b1, rfl, hj, hq2⟩
  simp only [UnC_cons, UnN_nil, AsI_int, AsB_bool]
  refine BIf_cases (fun hlt => ?_) (fun hge2 => ?_)
  · have hjl : j < l.length := by omega
    obtain ⟨x, hx⟩ : ∃ x, l[j]? = some x := ⟨_, List.getElem?_eq_getElem hjl⟩
    have tl := f31tail (J := fun s' w' => (∃ (i : Nat) (b : Bool), s' = [.int .i64 (i : Int), .int .i64 ((base l i : Nat) : Int), .bool b] ∧ i ≤ l.length ∧ Qt w w') ∧ (match s' with | [.int _ k, _, _] => l.length - k.toNat | _ => 0) < l.length - (j : Int).toNat)
      (Q := fun v w' => v = .bool true ∧ Qt w w') hok (hF.qt hq2) (hTs.qt hq2) hx b1 (fun b' w' hq3 => by
        refine ⟨⟨j + 1, b', rfl, by omega, hq2.trans hq3⟩, ?_⟩
        show l.length - ((j + 1 : Nat) : Int).toNat < l.length - (j : Int).toNat
        omega)
    unfold F31tail at tl
    simp only [Ld_drew] at tl
    refine BIf_cases (fun hpos => ?_) (fun hz => ?_)
    · have hF2 := hF.qt hq2
      rw [i64n_eq] at hF2
      rw [w64 (n := (j : Int) - 1) (by omega) (by omega)]
      have e1 : ((j : Int) - 1).toNat = j - 1 := by omega
      have hm : j - 1 < l.length := by omega
      refine hF2.int (by rw [List.length_map, List.length_map]) (by omega) (x := ((x.f : Nat) : Int)) (by rw [Int.toNat_natCast, List.getElem?_map, List.getElem?_map, hx]; rfl) ?_
      refine hF2.int (by rw [List.length_map, List.length_map]) (by omega) (x := ((l[j - 1].f : Nat) : Int)) (by rw [e1, List.getElem?_map, List.getElem?_map, List.getElem?_eq_getElem hm]; rfl) ?_
      have := List.pairwise_iff_getElem.1 hok.rise (j - 1) j hm hjl (by omega)
      rw [(List.getElem?_eq_some_iff.1 hx).2] at this
      refine BIf_neg (by omega) ?_
      exact tl
    · exact tl
  · have hj2 : j = l.length := by omega
    rw [hj2, base_end]
    exact ⟨by simp, hq2⟩
end Go.Proofs.YthpodlcbikialaaDoor

set_option linter.unusedVariables false
set_option linter.unusedSimpArgs false
namespace Go.Proofs.YthpodlcbikialaaDoor
open Go Go.Sh Go.Fr

theorem i64n_mem {l : List Nat} {x : Nat} : ((x : Int) ∈ l.map fun n : Nat => (n : Int)) ↔ x ∈ l := by
  rw [List.mem_map]
  constructor
  · rintro ⟨y, hy, e⟩; have : y = x := by omega
    subst this; exact hy
  · intro h; exact ⟨x, h, rfl⟩
theorem f52n {w : World} {a : Option Addr} {ac : Nat} {l : List Nat} (h1 : Rd w a (i64n l)) (hl1 : l.length ≤ 9223372036854775806) (x : Nat) :
    Ret prog 52 #[.slice a l.length ac, .int .i64 ((x : Nat) : Int)] w fun v w' => v = .bool (decide (x ∈ l)) ∧ w' = w := by
  rw [i64n_eq] at h1
  have := f52 (ac := ac) h1 (by rw [List.length_map]; exact hl1) (x : Int)
  rw [List.length_map] at this
  refine Ret.use this ?_
  rintro v w' ⟨rfl, rfl⟩
  refine ⟨?_, rfl⟩
  congr 1
  rw [decide_eq_decide]; exact i64n_mem
theorem f24n {w : World} {a b : Option Addr} {ac bc : Nat} {l1 l2 : List Nat} (h1 : Rd w a (i64n l1)) (h2 : Rd w b (i64n l2)) (hl1 : l1.length ≤ 9223372036854775806) (hl2 : l2.length ≤ 9223372036854775806) :
    Ret prog 24 #[.slice a l1.length ac, .slice b l2.length bc] w fun v w' => v = .bool (decide (l1 = l2)) ∧ Qt w w' := by
  rw [i64n_eq] at h1 h2
  have hr := f24 (ac := ac) (bc := bc) h1 h2 (by rw [List.length_map]; omega) (by rw [List.length_map]; omega)
  rw [List.length_map, List.length_map] at hr
  refine Ret.use hr ?_
  rintro v w' ⟨rfl, hq⟩
  refine ⟨?_, hq⟩
  congr 1
  rw [decide_eq_decide]
  constructor
  · intro h
    apply List.ext_getElem?
    intro i
    have := congrArg (fun l => l[i]?) h
    simp only [List.getElem?_map] at this
    cases h1 : l1[i]? <;> cases h2 : l2[i]? <;> simp [h1, h2] at this ⊢
    omega
  · rintro rfl; rfl
/-- the n-th number of a slice of numbers -/
theorem Rd.nat {w : World} {p : Option Addr} {l : List Nat} (h : Rd w p (i64n l)) {i x : Nat} (hi : l[i]? = some x) {K : Int → Prop} (hK : K (x : Int)) :
    NilP p fun a => (0 : Int) ≤ (i : Int) ∧ (i : Int) < (l.length : Int) ∧ Ld w (at0 a ((i : Int).toNat * 1)) fun v => AsI .i64 v K := by
  rw [i64n_eq] at h
  exact h.int (by rw [List.length_map]) (by omega) (x := (x : Int)) (by rw [Int.toNat_natCast, List.getElem?_map, hi]; rfl) hK

theorem f34 {w0 w : World} {b bu bd sa sb : Nat} {ga gb : Option Addr} {ca cb : Nat} {la lb : List Qr} {p : Pool} (h : Two w0 w b bu bd sa sb ga gb ca cb la lb p) :
    Ret prog 34 #[.pointer (some ⟨b, 0, none⟩), .pointer (some ⟨sa, 0, none⟩), .pointer (some ⟨sb, 0, none⟩)] w fun v w' => v = .bool true ∧ Fr0 w w' := by
  have hN := h.A.ok.len
  have hN2 := h.B.ok.len
  refine F34_of _ _ _ _ _ ?_
  unfold F34
  refine Ret.use (f18 h.A) ?_
  rintro v w1 ⟨q1, c1, rfl, sl1, hf1⟩
  rw [AsSl_slice]
  have h1 := h.fr0 hf1
  refine Ret.use (f18 h1.B) ?_
  rintro v w2 ⟨q2, c2, rfl, sl2, hf2⟩
  rw [AsSl_slice]
  have h2 := h1.fr0 hf2
  have r1 := sl1.rd.fr0 hf2
  have r2 := sl2.rd
  refine Loop.by (fun s w' => ∃ (i : Nat) (bb : Bool), s = [.int .i64 (i : Int), .bool bb] ∧ i ≤ la.length ∧ Qt w2 w')
    (fun s _ => match s with | [.int _ k, _] => la.length - k.toNat | _ => 0)
    ⟨0, false, rfl, by omega, Qt.refl _⟩ ?_
  rintro _ w3 ⟨i, bb, rfl, hi, hq3⟩
  simp only [UnC_cons, UnN_nil, AsI_int, AsB_bool]
  have hla : (la.map Qr.f).length = la.length := List.length_map _
  have hlb : (lb.map Qr.f).length = lb.length := List.length_map _
  have r1' := r1.qt hq3
  have r2' := r2.qt hq3
  have h3 := h2.qt hq3
  refine BIf_cases (fun hlt => ?_) (fun hge => ?_)
  · have hil : i < la.length := by omega
    obtain ⟨x, hx⟩ : ∃ x, la[i]? = some x := ⟨_, List.getElem?_eq_getElem hil⟩
    have hxm := List.mem_of_getElem? hx
    have hxi : (la.map Qr.f)[i]? = some x.f := by rw [List.getElem?_map, hx]; rfl
    have hxf := h.A.ok.lt x hxm
    rw [← hla]
    refine Rd.nat r1' hxi ?_
    have hw := f52n (ac := c2) r2' (by rw [hlb]; omega) x.f
    rw [hlb] at hw
    refine Ret.use hw ?_
    rintro v w4 ⟨rfl, hww⟩
    obtain rfl := hww.symm
    rw [AsB_bool, decide_eq_false (fun hm => by
      obtain ⟨y, hy, e⟩ := List.mem_map.1 hm
      exact h.dj x hxm y hy e.symm), BIf_false]
    refine Rd.nat r1' hxi ?_
    refine Ret.use (f16 h3.pool (x.f : Int) (by omega)) ?_
    rintro v w4 ⟨rfl, hq4⟩
    rw [AsI_int]
    obtain ⟨k1, k2, k3⟩ := h.hA x hxm
    have hat : p.at_ (x.f : Int) = p.u.getD (x.f - p.first) 0 := by
      unfold Pool.at_
      rw [if_neg (by omega)]
      congr 1
      omega
    rw [hat]
    refine BIf_neg (by omega) ?_
    rw [w64 (n := (i : Int) + 1) (by omega) (by omega)]
    refine ⟨⟨i + 1, bb, rfl, by omega, hq3.trans hq4⟩, ?_⟩
    rw [hla]
    show la.length - ((i : Int) + 1).toNat < la.length - (i : Int).toNat
    omega
  · refine Ret.use (f17 h3.A) ?_
    rintro v w4 ⟨q4, c4, rfl, sl4, hf4⟩
    rw [AsSl_slice]
    refine Ret.use (f31 (fc := c1) (tc := c4) h.A.ok (r1'.fr0 hf4) sl4.rd) ?_
    rintro v w5 ⟨rfl, hq5⟩
    rw [AsB_bool, BIf_true]
    have h5 := (h3.fr0 hf4).qt hq5
    refine Ret.use (f17 h5.B) ?_
    rintro v w6 ⟨q6, c6, rfl, sl6, hf6⟩
    rw [AsSl_slice]
    refine Ret.use (f31 (fc := c2) (tc := c6) h.B.ok (((r2'.fr0 hf4).qt hq5).fr0 hf6) sl6.rd) ?_
    rintro v w7 ⟨rfl, hq7⟩
    rw [AsB_bool]
    exact ⟨rfl, ((((hf1.trans hf2).trans hq3.fr).trans hf4).trans hq5.fr |>.trans hf6).trans hq7.fr⟩

/-- the first table that is missing in the slab's frames -/
def Miss (L : List Nat) (x : Nat) : Prop := ∃ j k y : Nat, L[j]? = some y ∧ k < 4 ∧ x = 4 * (y / 4) + k ∧ x ∉ L ∧ (∀ j' y' k' : Nat, j' < j → L[j']? = some y' → k' < 4 → 4 * (y' / 4) + k' ∈ L) ∧ ∀ k', k' < k → 4 * (y / 4) + k' ∈ L
def Full (L : List Nat) : Prop := ∀ y ∈ L, ∀ k, k < 4 → 4 * (y / 4) + k ∈ L
theorem Miss.uniq {L : List Nat} {x x' : Nat} (h : Miss L x) (h' : Miss L x') : x = x' := by
  obtain ⟨j, k, y, hj, hk, rfl, hn, hb, hc⟩ := h
  obtain ⟨j', k', y', hj', hk', rfl, hn', hb', hc'⟩ := h'
  rcases Nat.lt_trichotomy j j' with e | e | e
  · exact absurd (hb' j y k e hj hk) hn
  · subst e; rw [hj] at hj'; injection hj' with hj'; subst hj'
    rcases Nat.lt_trichotomy k k' with e | e | e
    · exact absurd (hc' k e) hn
    · subst e; rfl
    · exact absurd (hc k' e) hn'
  · exact absurd (hb j' y' k' e hj' hk') hn'
theorem Miss.not_full {L : List Nat} {x : Nat} (h : Miss L x) (hf : Full L) : False := by
  obtain ⟨j, k, y, hj, hk, rfl, hn, _⟩ := h
  exact hn (hf y (List.mem_of_getElem? hj) k hk)
theorem same_f {l : List Qr} (h : SlabOk l) {q q' : Qr} (hq : q ∈ l) (hq' : q' ∈ l) (e : q.f = q'.f) : q = q' := by
  obtain ⟨i, hi, rfl⟩ := List.getElem_of_mem hq
  obtain ⟨j, hj, rfl⟩ := List.getElem_of_mem hq'
  rcases Nat.lt_trichotomy i j with h1 | h1 | h1
  · have := List.pairwise_iff_getElem.1 h.rise i j hi hj h1; omega
  · subst h1; rfl
  · have := List.pairwise_iff_getElem.1 h.rise j i hj hi h1; omega
theorem has_tab {l : List Qr} (h : SlabOk l) {q : Qr} (hq : q ∈ l) {k : Nat} (hk : k < 4) : 4 * q.f + k ∈ tabs l ↔ q.u k = true := by
  rw [mem_tabs]
  constructor
  · rintro ⟨q', hq', k', hk', hu, e⟩
    have := same_f h hq hq' (by omega)
    subst this
    have : k = k' := by omega
    subst this; exact hu
  · intro hu; exact ⟨q, hq, k, hk, hu, rfl⟩
theorem full_of {l : List Qr} (h : SlabOk l) (hf : ∀ q ∈ l, ∀ k, k < 4 → q.u k = true) : Full (tabs l) := by
  intro y hy k hk
  obtain ⟨q, hq, k', hk', _, rfl⟩ := mem_tabs.1 hy
  rw [show (4 * q.f + k') / 4 = q.f by omega]
  exact (has_tab h hq hk).2 (hf q hq k hk)
theorem miss_of {l : List Qr} (h : SlabOk l) {i k : Nat} {q : Qr} (hq : l[i]? = some q) (hk : k < 4) (h0 : q.u k = false) (h1 : ∀ k', k' < k → q.u k' = true) (h2 : ∀ i' q', i' < i → l[i']? = some q' → ∀ k', k' < 4 → q'.u k' = true) :
    Miss (tabs l) (4 * q.f + k) := by
  have hqm := List.mem_of_getElem? hq
  have hpos := qtabs_pos h hqm
  have hat := tabs_at hq hpos
  rw [Nat.add_zero] at hat
  have hdiv := qtabs_div hpos
  refine ⟨base l i, k, _, hat, hk, by rw [hdiv], fun hm => ?_, fun j' y' k' hj hy hk' => ?_, fun k' hk' => ?_⟩
  · rw [has_tab h hqm hk] at hm; rw [h0] at hm; cases hm
  · rw [tabs_cut hq, List.getElem?_append_left hj] at hy
    have hym := List.mem_of_getElem? hy
    obtain ⟨q', hq', k'', hk'', _, rfl⟩ := mem_tabs.1 hym
    obtain ⟨i', hi', e⟩ := List.getElem_of_mem hq'
    rw [List.length_take] at hi'
    rw [List.getElem_take] at e
    have hql : l[i']? = some q' := by rw [List.getElem?_eq_getElem (by omega), e]
    rw [show (4 * q'.f + k'') / 4 = q'.f by omega]
    exact (has_tab h (List.mem_of_getElem? hql) hk').2 (h2 i' q' (by omega) hql k' hk')
  · rw [hdiv]
    exact (has_tab h hqm (by omega)).2 (h1 k' hk')
theorem free_pos {first : Nat} {u : List Nat} {a : Nat} (h : Fit first u 1 1 a) : 0 < zeros u := by
  have ha : a < u.length := by have := h.2.1; omega
  have h0 := h.2.2 a (Nat.le_refl _) (by omega)
  rw [getD_get ha] at h0
  exact List.countP_pos_iff.2 ⟨u[a], List.getElem_mem ha, by simp [h0]⟩
theorem free_none {first : Nat} {u : List Nat} (h : ∀ a, ¬ Fit first u 1 1 a) : zeros u = 0 := by
  refine countP_none fun x hx e => ?_
  obtain ⟨i, hi, rfl⟩ := List.getElem_of_mem hx
  refine h i ⟨by rw [Nat.mod_one], by omega, fun y h1 h2 => ?_⟩
  have : y = i := by omega
  subst this; rw [getD_get hi, e]
theorem free_take {u : List Nat} {a : Nat} (ha : a < u.length) (h0 : u.getD a 0 = 0) : zeros (turn u a (fun _ => 1) 1) + 1 = zeros u := by
  have := count_set u a 1 ha
  rw [getD_get ha] at h0
  rw [if_pos h0, if_neg (by decide)] at this
  simp only [zeros, turn, Nat.add_zero] at *
  exact this
end Go.Proofs.YthpodlcbikialaaDoor

set_option linter.unusedVariables false
set_option linter.unusedSimpArgs false
namespace Go.Proofs.YthpodlcbikialaaDoor
open Go Go.Sh Go.Fr

/-- which table a slab's Take must give -/
theorem STake.least {p p' : Pool} {l l' : List Qr} {r e : Nat} (h : STake p l r e p' l') (hok : SlabOk l) :
    (∃ x, Miss (tabs l) x ∧ r = x ∧ e = 0 ∧ p'.free = p.free ∧ r ∈ tabs l') ∨ (Full (tabs l) ∧ p.free = 0 ∧ e = 42 ∧ r = 0 ∧ l' = l) ∨
    (Full (tabs l) ∧ p.free ≠ 0 ∧ e = 0 ∧ r % 4 = 0 ∧ p'.free + 1 = p.free ∧ (Held p l → r ∉ tabs l) ∧ r ∈ tabs l') := by
  cases h with
  | old i k q hq hk h0 h1 h2 =>
    refine .inl ⟨_, miss_of hok hq hk h0 h1 h2, rfl, rfl, rfl, mem_tabs.2 ⟨q.set k true, ?_, k, hk, by simp [Qr.set], rfl⟩⟩
    exact List.mem_of_getElem? (by rw [List.getElem?_set]; simp [(List.getElem?_eq_some_iff.1 hq).1] : (l.set i (q.set k true))[i]? = some (q.set k true))
  | none hf hn => exact .inr (.inl ⟨full_of hok hf, free_none hn, rfl, rfl, rfl⟩)
  | fresh hf a hfit hl =>
    have ha : a < p.u.length := by have := hfit.2.1; omega
    have hz := hfit.2.2 a (Nat.le_refl _) (by omega)
    have hp : 0 < p.free := free_pos hfit
    refine .inr (.inr ⟨full_of hok hf, by omega, rfl, by omega, free_take ha hz, fun hH hm => ?_, mem_tabs.2 ⟨Qr.new (p.first + a), ?_, 0, by decide, rfl, rfl⟩⟩)
    · obtain ⟨q, hq, k, hk, _, e⟩ := mem_tabs.1 hm
      obtain ⟨h1, h2, h3⟩ := hH q hq
      rw [show q.f - p.first = a by omega] at h3
      omega
    · have : ∀ l : List Qr, Qr.new (p.first + a) ∈ insq (p.first + a) l := by
        intro l
        induction l with
        | nil => simp [insq]
        | cons x r ih => unfold insq; split <;> simp [ih]
      exact this l
theorem f32 {w : World} {s b c lc : Nat} {g : Option Addr} {p p' : Pool} {l l' : List Qr} {r e : Nat} {lq : Option Addr} (hst : STake p l r e p' l') (hok : SlabOk l) (hH : Held p l) (hS : SlabAt w s b g c l') (hL : Rd w lq (i64n (tabs l))) (hp : p.u.length ≤ 1048576) :
    Ret prog 32 #[.pointer (some ⟨s, 0, none⟩), .slice lq (tabs l).length lc, .int .i64 (r : Int), .int .i64 (e : Int), .int .i64 ((p'.free : Nat) : Int), .int .i64 ((p.free : Nat) : Int)] w fun v w' => v = .bool true ∧ Fr0 w w' := by
  have hN := hok.len
  have hT4 := tabs_len l
  have hT4' := tabs_len l'
  have hN' := hS.ok.len
  have hfl : p.free ≤ p.u.length := List.countP_le_length
  refine F32_of _ _ _ _ _ _ _ _ _ _ ?_
  unfold F32
  refine Loop.by (fun s w' => ∃ (i : Nat) (x : Int), s = [.int .i64 (i : Int), .int .i64 x] ∧ i ≤ (tabs l).length ∧ w' = w ∧
      ((x = -1 ∧ ∀ (j y k : Nat), j < i → (tabs l)[j]? = some y → k < 4 → 4 * (y / 4) + k ∈ tabs l) ∨ ∃ m : Nat, x = m ∧ Miss (tabs l) m))
    (fun s _ => match s with | [.int _ k, _] => (tabs l).length - k.toNat | _ => 0)
    ⟨0, -1, rfl, by omega, rfl, .inl ⟨rfl, fun j y k h => by omega⟩⟩ ?_
  rintro _ _ ⟨i, x, rfl, hi, hw, hx⟩
  obtain rfl := hw.symm
  simp only [UnC_cons, UnN_nil, AsI_int]
  rw [w64 (n := (i : Int) + 1) (by omega) (by omega)]
  have hmeas : (tabs l).length - ((i : Int) + 1).toNat < (tabs l).length - (i : Int).toNat ∨ (tabs l).length ≤ i := by omega
  refine BIf_cases (fun hlt => ?_) (fun hge => ?_)
  · have hil : i < (tabs l).length := by omega
    obtain ⟨y, hy⟩ : ∃ y, (tabs l)[i]? = some y := ⟨_, List.getElem?_eq_getElem hil⟩
    have hyl := tabs_lt hok (List.mem_of_getElem? hy)
    refine Loop.by (fun s w' => ∃ (k : Nat) (x : Int), s = [.int .i64 (k : Int), .int .i64 x] ∧ k ≤ 4 ∧ w' = w ∧
        ((x = -1 ∧ (∀ (j y k : Nat), j < i → (tabs l)[j]? = some y → k < 4 → 4 * (y / 4) + k ∈ tabs l) ∧ ∀ k' : Nat, k' < k → 4 * (y / 4) + k' ∈ tabs l) ∨ ∃ m : Nat, x = m ∧ Miss (tabs l) m))
      (fun s _ => match s with | [.int _ k, _] => 4 - k.toNat | _ => 0)
      ⟨0, x, rfl, by omega, rfl, hx.imp (fun ⟨h1, h2⟩ => ⟨h1, h2, fun k' h => by omega⟩) id⟩ ?_
    rintro _ _ ⟨k, x1, rfl, hk, hw, hx1⟩
    obtain rfl := hw.symm
    simp only [UnC_cons, UnN_nil, AsI_int]
    have out : (x1 < 0 → k = 4) → (∃ (i_1 : Nat) (x : Int), [Value.int .i64 ((i : Int) + 1), .int .i64 x1] = [.int .i64 (i_1 : Int), .int .i64 x] ∧ i_1 ≤ (tabs l).length ∧ w = w ∧
        ((x = -1 ∧ ∀ (j y k : Nat), j < i_1 → (tabs l)[j]? = some y → k < 4 → 4 * (y / 4) + k ∈ tabs l) ∨ ∃ m : Nat, x = m ∧ Miss (tabs l) m)) := by
      intro hk4
      refine ⟨i + 1, x1, rfl, by omega, rfl, ?_⟩
      rcases hx1 with ⟨rfl, h1, h2⟩ | h
      · have hk4 := hk4 (by omega)
        subst hk4
        refine .inl ⟨rfl, fun j y' k' hj hy' hk' => ?_⟩
        by_cases e : j = i
        · subst e; rw [hy] at hy'; injection hy' with hy'; subst hy'; exact h2 k' hk'
        · exact h1 j y' k' (by omega) hy' hk'
      · exact .inr h
    refine BIf_cases (fun hlt => ?_) (fun hge => ?_)
    · refine BIf_cases (fun hneg => ?_) (fun hpos => ?_)
      · obtain ⟨rfl, h1, h2⟩ : x1 = -1 ∧ (∀ (j y k : Nat), j < i → (tabs l)[j]? = some y → k < 4 → 4 * (y / 4) + k ∈ tabs l) ∧ ∀ k' : Nat, k' < k → 4 * (y / 4) + k' ∈ tabs l := by
          rcases hx1 with h | ⟨m, rfl, _⟩
          · exact h
          · omega
        refine Join.triv ?_
        refine Rd.nat hL hy ?_
        have ey : IntKind.i64.wrap (IntKind.i64.wrap ((4 : Int) * IntKind.i64.wrap ((y : Int).tdiv 4)) + (k : Int)) = ((4 * (y / 4) + k : Nat) : Int) := by
          rw [IntWalk.i64_quo _ _ ⟨by omega, by omega, by omega⟩, w64 (n := (4 : Int) * ((y : Int) / 4)) (by omega) (by omega), w64 (by omega) (by omega)]
          omega
        rw [ey]
        refine Ret.use (f52n (ac := lc) hL (by omega) _) ?_
        rintro v w2 ⟨rfl, hw⟩
        obtain rfl := hw.symm
        have hm4 : 4 - ((k : Int) + 1).toNat < 4 - (k : Int).toNat := by omega
        rw [AsB_bool, BIf_not]
        by_cases hmem : 4 * (y / 4) + k ∈ tabs l
        · rw [decide_eq_true hmem, BIf_true]
          simp only [UnC_cons, UnN_nil, AsI_int]
          rw [w64 (n := (k : Int) + 1) (by omega) (by omega)]
          refine ⟨⟨k + 1, -1, rfl, by omega, by trivial, .inl ⟨rfl, h1, fun k' hk' => ?_⟩⟩, hm4⟩
          by_cases e : k' = k
          · subst e; exact hmem
          · exact h2 k' (by omega)
        · rw [decide_eq_false hmem, BIf_false]
          simp only [UnC_cons, UnN_nil, AsI_int]
          rw [w64 (n := (k : Int) + 1) (by omega) (by omega)]
          exact ⟨⟨k + 1, _, rfl, by omega, by trivial, .inr ⟨4 * (y / 4) + k, rfl, i, k, y, hy, by omega, rfl, hmem, h1, h2⟩⟩, hm4⟩
      · refine ⟨?_, by show (tabs l).length - ((i : Int) + 1).toNat < (tabs l).length - (i : Int).toNat; omega⟩
        simpa using out (fun h => by omega)
    · refine ⟨?_, by show (tabs l).length - ((i : Int) + 1).toNat < (tabs l).length - (i : Int).toNat; omega⟩
      simpa using out (fun h => by omega)
  · have hx' : (x = -1 ∧ Full (tabs l)) ∨ ∃ m : Nat, x = m ∧ Miss (tabs l) m := by
      refine hx.imp (fun ⟨h1, h2⟩ => ⟨h1, fun y hy k hk => ?_⟩) id
      obtain ⟨j, hj, rfl⟩ := List.getElem_of_mem hy
      exact h2 j _ k (by omega) (List.getElem?_eq_getElem hj) hk
    have tabsIn : ∀ (x : Nat), x ∈ tabs l' → ∀ w1, Fr0 w w1 → CallS prog 17 #[.pointer (some ⟨s, 0, none⟩)] w1 fun v31 w32 => AsSl v31 fun p33 n34 n35 => CallS prog 52 #[.slice p33 n34 n35, .int .i64 (x : Int)] w32 fun v36 w37 => AsB v36 fun b38 => (fun v w' => v = Value.bool true ∧ Fr0 w w') (.bool b38) w37 := by
      intro x hx w1 hf1
      refine Ret.use (f17 (hS.fr0 hf1)) ?_
      rintro v w2 ⟨q2, c2, rfl, sl2, hf2⟩
      rw [AsSl_slice]
      refine Ret.use (f52n (ac := c2) sl2.rd (by omega) x) ?_
      rintro v w3 ⟨rfl, hw⟩
      obtain rfl := hw.symm
      rw [AsB_bool, decide_eq_true hx]
      exact ⟨rfl, hf1.trans hf2⟩
    rcases hst.least hok with ⟨m, hm, rfl, rfl, hfr, hin⟩ | ⟨hF, hz, rfl, rfl, rfl⟩ | ⟨hF, hz, rfl, h4, hfr, hni, hin⟩
    · obtain ⟨rfl⟩ : x = (r : Int) := by
        rcases hx' with ⟨_, h⟩ | ⟨m', rfl, h⟩
        · exact (hm.not_full h).elim
        · rw [hm.uniq h]
      refine BIf_pos (by omega) ?_
      refine BIf_eq (fun _ => ?_) (fun h => absurd rfl h)
      refine BIf_eq (fun _ => ?_) (fun h => absurd rfl h)
      refine BIf_eq (fun _ => ?_) (fun h => absurd (by omega) h)
      exact tabsIn r hin w (Fr.refl _ _)
    · obtain ⟨rfl⟩ : x = (-1 : Int) := by
        rcases hx' with ⟨h, _⟩ | ⟨m', rfl, h⟩
        · exact h
        · exact (h.not_full hF).elim
      refine BIf_neg (by omega) ?_
      refine BIf_eq (fun _ => ?_) (fun h => absurd (by omega) h)
      refine BIf_eq (fun _ => ?_) (fun h => absurd rfl h)
      refine BIf_eq (fun _ => ?_) (fun h => absurd rfl h)
      refine Ret.use (f17 hS) ?_
      rintro v w2 ⟨q2, c2, rfl, sl2, hf2⟩
      rw [AsSl_slice]
      refine Ret.use (f24n (ac := c2) (bc := lc) sl2.rd (hL.fr0 hf2) (by omega) (by omega)) ?_
      rintro v w3 ⟨rfl, hq⟩
      rw [AsB_bool, decide_eq_true rfl]
      exact ⟨rfl, hf2.trans hq.fr⟩
    · obtain ⟨rfl⟩ : x = (-1 : Int) := by
        rcases hx' with ⟨h, _⟩ | ⟨m', rfl, h⟩
        · exact h
        · exact (h.not_full hF).elim
      refine BIf_neg (by omega) ?_
      refine BIf_eq (fun h => absurd h (by omega)) (fun _ => ?_)
      refine BIf_eq (fun _ => ?_) (fun h => absurd rfl h)
      rw [show (r : Int).tmod 4 = 0 by rw [IntWalk.rem_in _ _ (by omega)]; omega]
      refine BIf_eq (fun _ => ?_) (fun h => absurd rfl h)
      rw [w64 (n := ((p.free : Nat) : Int) - 1) (by omega) (by omega)]
      refine BIf_eq (fun _ => ?_) (fun h => absurd (by omega) h)
      refine Ret.use (f52n (ac := lc) hL (by omega) r) ?_
      rintro v w2 ⟨rfl, hw⟩
      obtain rfl := hw.symm
      rw [AsB_bool, decide_eq_false (hni hH), Bool.not_false, BIf_true]
      exact tabsIn r hin w (Fr.refl _ _)
end Go.Proofs.YthpodlcbikialaaDoor

set_option linter.unusedVariables false
set_option linter.unusedSimpArgs false
namespace Go.Proofs.YthpodlcbikialaaDoor
open Go Go.Sh Go.Fr

/-! ## what a Drop does to the tables -/
theorem qset_tabs {q : Qr} {k : Nat} (hk : k < 4) : (q.set k false).tabs 4 = (q.tabs 4).filter fun x => decide (x ≠ 4 * q.f + k) := by
  unfold Qr.tabs
  rw [List.filter_map, List.filter_filter]
  show ((List.range 4).filter (q.set k false).u).map (fun j => 4 * q.f + j) = _
  congr 1
  apply List.filter_congr
  intro j hj
  simp only [Qr.set, Function.comp_apply]
  by_cases e : j = k
  · subst e; simp
  · rw [if_neg e]
    have : decide (4 * q.f + j ≠ 4 * q.f + k) = true := by simp; omega
    rw [this]; simp
theorem tabs_filter_ne {l : List Qr} {q : Qr} {k : Nat} (h : ∀ x ∈ l, x.f ≠ q.f) (hk : k < 4) : (tabs l).filter (fun x => decide (x ≠ 4 * q.f + k)) = tabs l := by
  rw [List.filter_eq_self]
  intro x hx
  obtain ⟨q', hq', k', hk', _, rfl⟩ := mem_tabs.1 hx
  have := h q' hq'
  simp; omega
theorem tabs_append (l l' : List Qr) : tabs (l ++ l') = tabs l ++ tabs l' := by simp [tabs]
theorem take_ne {l : List Qr} {i : Nat} {q : Qr} (hr : l.Pairwise fun a b => a.f < b.f) (hq : l[i]? = some q) : (∀ x ∈ l.take i, x.f ≠ q.f) ∧ ∀ x ∈ l.drop (i + 1), x.f ≠ q.f :=
  ⟨fun x hx => cut_ne hr hq (by simp [hx]), fun x hx => cut_ne hr hq (by simp [hx])⟩
theorem SDrop.tabs_eq {p p' : Pool} {l l' : List Qr} {t : Int} {e : Nat} (h : SDrop p l t e p' l') (hok : SlabOk l) {x : Nat} (hx : t = x) : (e = 45 ∧ x ∉ tabs l ∧ l' = l ∧ p' = p) ∨ (e = 0 ∧ x ∈ tabs l ∧ tabs l' = (tabs l).filter fun y => decide (y ≠ x)) := by
  cases h with
  | none h =>
    refine .inl ⟨rfl, fun hm => ?_, rfl, rfl⟩
    obtain ⟨q, hq, k, hk, hu, e⟩ := mem_tabs.1 hm
    exact h q hq k hk hu (by omega)
  | more i k q hq hk hu ht hm =>
    have ex : x = 4 * q.f + k := by omega
    subst ex
    have hqm := List.mem_of_getElem? hq
    refine .inr ⟨rfl, (has_tab hok hqm hk).2 hu, ?_⟩
    have hil := (List.getElem?_eq_some_iff.1 hq).1
    have hy : (l.set i (q.set k false))[i]? = some (q.set k false) := by simp [hil]
    obtain ⟨n1, n2⟩ := take_ne hok.rise hq
    rw [tabs_cut hy, tabs_cut hq, List.filter_append, List.filter_append, tabs_filter_ne n1 hk, tabs_filter_ne n2 hk, qset_tabs hk, List.take_set_of_le (Nat.le_refl _), List.drop_set_of_lt (by omega)]
  | last i k q hq hk hu ht hm =>
    have ex : x = 4 * q.f + k := by omega
    subst ex
    have hqm := List.mem_of_getElem? hq
    refine .inr ⟨rfl, (has_tab hok hqm hk).2 hu, ?_⟩
    obtain ⟨n1, n2⟩ := take_ne hok.rise hq
    have hqt : (q.tabs 4).filter (fun x => decide (x ≠ 4 * q.f + k)) = [] := by
      rw [List.filter_eq_nil_iff]
      intro y hy
      obtain ⟨k', hk', hu', rfl⟩ := mem_qtabs.1 hy
      have : k' = k := by
        refine Classical.byContradiction fun hne => ?_
        rw [hm k' hk' hne] at hu'; cases hu'
      subst this; simp
    rw [tabs_append, tabs_cut hq, List.filter_append, List.filter_append, tabs_filter_ne n1 hk, tabs_filter_ne n2 hk, hqt, List.nil_append]
theorem rise_nodup {L : List Nat} (h : L.Pairwise (· < ·)) : L.Nodup := h.imp fun hab => by omega
theorem filter_len {L : List Nat} (h : L.Pairwise (· < ·)) {x : Nat} (hx : x ∈ L) : (L.filter fun y => decide (y ≠ x)).length = L.length - 1 := by
  rw [← List.length_erase_of_mem hx, (rise_nodup h).erase_eq_filter]
  congr 1
  apply List.filter_congr
  intro y _
  by_cases e : y = x
  · subst e; simp
  · simp [e]
theorem filter_head {t : Nat} {r : List Nat} (h : (t :: r).Pairwise (· < ·)) : ((t :: r).filter fun y => decide (y ≠ t)) = r := by
  rw [List.filter_cons, if_neg (by simp), List.filter_eq_self]
  intro y hy
  have := (List.pairwise_cons.1 h).1 y hy
  simp; omega
theorem tabs_nil {l : List Qr} (h : SlabOk l) (e : tabs l = []) : l = [] := by
  cases l with
  | nil => rfl
  | cons q r =>
    have := qtabs_pos h (q := q) (by simp)
    have h2 : (tabs (q :: r)).length = 0 := by rw [e]; rfl
    simp only [tabs, List.flatMap_cons, List.length_append] at h2
    omega
/-- the slab's frames have one use each -/
def Ones (p : Pool) (l : List Qr) : Prop := ∀ q ∈ l, p.u.getD (q.f - p.first) 0 = 1
theorem STake.ones {p p' : Pool} {l l' : List Qr} {r e : Nat} (h : STake p l r e p' l') (hH : Held p l) (h1 : Ones p l) : Ones p' l' ∧ (∀ lb, Held p lb → Ones p lb → Ones p' lb) ∧ p'.free + l'.length = p.free + l.length ∧ p'.first = p.first ∧ p'.u.length = p.u.length := by
  cases h with
  | old i k q hq hk h0 _ _ =>
    refine ⟨fun x hx => ?_, fun lb _ h => h, by rw [List.length_set], rfl, rfl⟩
    obtain ⟨z, hz, e⟩ := set_mem_f (y := q.set k true) hq rfl hx
    rw [← e]; exact h1 z hz
  | none => exact ⟨h1, fun lb _ h => h, rfl, rfl, rfl⟩
  | fresh h a hf hl =>
    have ha : a < p.u.length := by have := hf.2.1; omega
    have hz : p.u.getD a 0 = 0 := hf.2.2 a (Nat.le_refl _) (by omega)
    have keep : ∀ lb, Held p lb → Ones p lb → Ones (p.turned a (fun _ => 1) 1) lb := by
      intro lb hb h1 q hq
      show (p.turned a (fun _ => 1) 1).u.getD (q.f - p.first) 0 = 1
      rw [turned_get _ _ _ _ ha]
      split
      · rfl
      · exact h1 q hq
    refine ⟨fun q hq => ?_, keep, ?_, rfl, turn_len _ _ _ _⟩
    · rcases ins_mem hq with rfl | hq
      · show (p.turned a (fun _ => 1) 1).u.getD (p.first + a - p.first) 0 = 1
        rw [turned_get _ _ _ _ ha, if_pos (by omega)]
      · exact keep l hH h1 q hq
    · have h2 : zeros (turn p.u a (fun _ => 1) 1) + 1 = zeros p.u := free_take ha hz
      have h3 : ∀ l : List Qr, (insq (p.first + a) l).length = l.length + 1 := by
        intro l
        induction l with
        | nil => rfl
        | cons x r ih => unfold insq; split <;> simp [ih]
      rw [h3]
      show zeros (turn p.u a (fun _ => 1) 1) + _ = zeros p.u + _
      omega
theorem SDrop.ones {p p' : Pool} {l l' : List Qr} {t : Int} {e : Nat} (h : SDrop p l t e p' l') (hok : SlabOk l) (hH : Held p l) (h1 : Ones p l) : Ones p' l' ∧ (∀ lb, Held p lb → (∀ q ∈ l, ∀ q' ∈ lb, q.f ≠ q'.f) → Ones p lb → Ones p' lb) ∧ p'.free + l'.length = p.free + l.length ∧ p'.first = p.first ∧ p'.u.length = p.u.length := by
  cases h with
  | none => exact ⟨h1, fun lb _ _ h => h, rfl, rfl, rfl⟩
  | more i k q hq hk hu ht hm =>
    refine ⟨fun x hx => ?_, fun lb _ _ h => h, by rw [List.length_set], rfl, rfl⟩
    obtain ⟨z, hz, e⟩ := set_mem_f (y := q.set k false) hq rfl hx
    rw [← e]; exact h1 z hz
  | last i k q hq hk hu ht hm =>
    have hqm := List.mem_of_getElem? hq
    have hil := (List.getElem?_eq_some_iff.1 hq).1
    obtain ⟨a1, a2, a3⟩ := hH q hqm
    have hq1 := h1 q hqm
    have hlt : q.f - p.first < p.u.length := by omega
    have keep : ∀ lb, Held p lb → (∀ x ∈ lb, x.f ≠ q.f) → Ones p lb → Ones (p.turned (q.f - p.first) (· - 1) 1) lb := by
      intro lb hb hn h1 x hx
      obtain ⟨h4, h2, h3⟩ := hb x hx
      show (p.turned (q.f - p.first) (· - 1) 1).u.getD (x.f - p.first) 0 = 1
      rw [turned_get _ _ _ _ hlt, if_neg (by have := hn x hx; omega)]; exact h1 x hx
    refine ⟨keep _ (fun x hx => hH x (cut_mem hx)) (fun x hx => cut_ne hok.rise hq hx) fun x hx => h1 x (cut_mem hx), fun lb hb hd h => keep lb hb (fun x hx e => hd q hqm x hx e.symm) h, ?_, rfl, turn_len _ _ _ _⟩
    have h2 : zeros (turn p.u (q.f - p.first) (· - 1) 1) = zeros p.u + 1 := by
      have := turn_zeros (u := p.u) (k := q.f - p.first) (fn := (· - 1)) (j := 0) (by omega) (by rw [Nat.add_zero, hq1]; decide)
      have e2 : p.u.getD (q.f - p.first + 0) 0 = 1 := hq1
      rw [e2] at this
      exact this
    have h3 : (l.take i ++ l.drop (i + 1)).length + 1 = l.length := by simp; omega
    show zeros (turn p.u (q.f - p.first) (· - 1) 1) + _ = zeros p.u + _
    omega
end Go.Proofs.YthpodlcbikialaaDoor

set_option linter.unusedVariables false
set_option linter.unusedSimpArgs false
namespace Go.Proofs.YthpodlcbikialaaDoor
open Go Go.Sh Go.Fr

theorem E33 : ElemT prog 33 25 (.pointer none) 1 8 := ⟨by kernel_rfl, by kernel_rfl, rfl, by decide⟩
/-- the state of FramesTables -/
structure Tbl (w0 w : World) (b bu bd sa sb lo m : Nat) (ga gb : Option Addr) (ca cb : Nat) (la lb : List Qr) (p : Pool) : Prop where
  two : Two w0 w b bu bd sa sb ga gb ca cb la lb p
  first : p.first = lo
  len : p.u.length = m
  oA : Ones p la
  oB : Ones p lb
  sum : p.free + la.length + lb.length = m
theorem Tbl.swap {w0 w : World} {b bu bd sa sb lo m : Nat} {ga gb : Option Addr} {ca cb : Nat} {la lb : List Qr} {p : Pool} (h : Tbl w0 w b bu bd sa sb lo m ga gb ca cb la lb p) : Tbl w0 w b bu bd sb sa lo m gb ga cb ca lb la p :=
  ⟨h.two.swap, h.first, h.len, h.oB, h.oA, by have := h.sum; omega⟩
theorem Tbl.fr0 {w0 w w' : World} {b bu bd sa sb lo m : Nat} {ga gb : Option Addr} {ca cb : Nat} {la lb : List Qr} {p : Pool} (h : Tbl w0 w b bu bd sa sb lo m ga gb ca cb la lb p) (f : Fr0 w w') : Tbl w0 w' b bu bd sa sb lo m ga gb ca cb la lb p :=
  ⟨h.two.fr0 f, h.first, h.len, h.oA, h.oB, h.sum⟩
theorem Tbl.take {w0 w : World} {b bu bd sa sb lo m : Nat} {ga gb : Option Addr} {ca cb : Nat} {la lb : List Qr} {p : Pool} (h : Tbl w0 w b bu bd sa sb lo m ga gb ca cb la lb p) :
    Ret prog 30 #[.pointer (some ⟨sa, 0, none⟩)] w fun v w' => ∃ (r e : Nat) (p' : Pool) (la' : List Qr) (ga' : Option Addr) (ca' : Nat), v = .tuple #[.int .i64 (r : Int), .int .i64 (e : Int)] ∧ STake p la r e p' la' ∧ Tbl w0 w' b bu bd sa sb lo m ga' gb ca' cb la' lb p' ∧ Fr (OwnS b bu bd sa ga) w w' := by
  refine Ret.use h.two.take ?_
  rintro v w' ⟨r, e, p', l', g', c', rfl, hst, h2, hf⟩
  obtain ⟨o1, o2, o3, o4, o5⟩ := hst.ones h.two.hA h.oA
  exact ⟨r, e, p', l', g', c', rfl, hst, ⟨h2, by rw [o4, h.first], by rw [o5, h.len], o1, o2 lb h.two.hB h.oB, by have := h.sum; omega⟩, hf⟩
theorem Tbl.drop {w0 w : World} {b bu bd sa sb lo m : Nat} {ga gb : Option Addr} {ca cb : Nat} {la lb : List Qr} {p : Pool} (h : Tbl w0 w b bu bd sa sb lo m ga gb ca cb la lb p) (x : Nat) (hx : x < 1073741824) :
    Ret prog 33 #[.pointer (some ⟨sa, 0, none⟩), .int .i64 (x : Int)] w fun v w' => ∃ (e : Nat) (p' : Pool) (la' : List Qr) (ga' : Option Addr) (ca' : Nat), v = .int .i64 (e : Int) ∧
      ((e = 45 ∧ x ∉ tabs la ∧ la' = la ∧ p' = p) ∨ (e = 0 ∧ x ∈ tabs la ∧ tabs la' = (tabs la).filter fun y => decide (y ≠ x))) ∧ Tbl w0 w' b bu bd sa sb lo m ga' gb ca' cb la' lb p' ∧ Fr (OwnS b bu bd sa ga) w w' := by
  refine Ret.use (h.two.drop (x : Int) ⟨by omega, by omega⟩) ?_
  rintro v w' ⟨e, p', l', g', c', rfl, hst, h2, hf⟩
  obtain ⟨o1, o2, o3, o4, o5⟩ := hst.ones h.two.A.ok h.two.hA h.oA
  exact ⟨e, p', l', g', c', rfl, hst.tabs_eq h.two.A.ok rfl, ⟨h2, by rw [o4, h.first], by rw [o5, h.len], o1, o2 lb h.two.hB h.two.dj h.oB, by have := h.sum; omega⟩, hf⟩
/-- a block that lies aside of all that the state owns -/
theorem Tbl.aside {w0 w w' : World} {b bu bd sa sb lo m bs : Nat} {ga gb : Option Addr} {ca cb : Nat} {la lb : List Qr} {p : Pool} (h : Tbl w0 w b bu bd sa sb lo m ga gb ca cb la lb p) (hb : ¬ Own b bu bd bs ∧ ¬ Sb sa ga bs ∧ ¬ Sb sb gb bs) : ¬ OwnS b bu bd sa ga bs := by
  rintro (h1 | h1 | h1)
  · exact hb.1 h1
  · exact hb.2.1 (.inl h1)
  · exact hb.2.1 (.inr h1)
theorem zero_all {u : List Nat} (h : zeros u = u.length) : ∀ x, u.getD x 0 = 0 := by
  have h1 := List.countP_eq_length.1 h
  intro x
  by_cases hx : x < u.length
  · rw [getD_get hx]; simpa using h1 _ (List.getElem_mem hx)
  · simp [List.getD, List.getElem?_eq_none (show u.length ≤ x by omega)]

/-- with the block of the two pointers beside it -/
structure TblS (w0 w : World) (b bu bd sa sb lo m bs : Nat) (ga gb : Option Addr) (ca cb : Nat) (la lb : List Qr) (p : Pool) : Prop where
  t : Tbl w0 w b bu bd sa sb lo m ga gb ca cb la lb p
  hs : w0.heap.size ≤ bs
  out : ¬ Own b bu bd bs ∧ ¬ Sb sa ga bs ∧ ¬ Sb sb gb bs
  lt : bs < w.heap.size
section
variable {w0 w w' : World} {b bu bd sa sb lo m bs : Nat} {ga gb : Option Addr} {ca cb : Nat} {la lb : List Qr} {p : Pool}
theorem TblS.swap (h : TblS w0 w b bu bd sa sb lo m bs ga gb ca cb la lb p) : TblS w0 w b bu bd sb sa lo m bs gb ga cb ca lb la p := ⟨h.t.swap, h.hs, ⟨h.out.1, h.out.2.2, h.out.2.1⟩, h.lt⟩
theorem TblS.fr0 (h : TblS w0 w b bu bd sa sb lo m bs ga gb ca cb la lb p) (f : Fr0 w w') : TblS w0 w' b bu bd sa sb lo m bs ga gb ca cb la lb p := ⟨h.t.fr0 f, h.hs, h.out, Nat.lt_of_lt_of_le h.lt f.size⟩
theorem TblS.aside (h : TblS w0 w b bu bd sa sb lo m bs ga gb ca cb la lb p) : ¬ OwnS b bu bd sa ga bs := by
  rintro (h1 | h1 | h1)
  · exact h.out.1 h1
  · exact h.out.2.1 (.inl h1)
  · exact h.out.2.1 (.inr h1)
theorem TblS.own (h : TblS w0 w b bu bd sa sb lo m bs ga gb ca cb la lb p) : ∀ x, OwnS b bu bd sa ga x → x < w.heap.size := by
  rintro x (h1 | h1 | h1)
  · exact h.t.two.pool.lt x h1
  · exact h.t.two.A.lt x (.inl h1)
  · exact h.t.two.A.lt x (.inr h1)
theorem TblS.take (h : TblS w0 w b bu bd sa sb lo m bs ga gb ca cb la lb p) {cells : List Value} (hB : Has w bs cells) :
    Ret prog 30 #[.pointer (some ⟨sa, 0, none⟩)] w fun v w' => ∃ (r e : Nat) (p' : Pool) (la' : List Qr) (ga' : Option Addr) (ca' : Nat), v = .tuple #[.int .i64 (r : Int), .int .i64 (e : Int)] ∧ STake p la r e p' la' ∧ TblS w0 w' b bu bd sa sb lo m bs ga' gb ca' cb la' lb p' ∧ Has w' bs cells ∧ Fr (OwnS b bu bd sa ga) w w' := by
  -- the new list's block is its own elder one or a new one
  refine Ret.use (f30 h.t.two.pool h.t.two.tz' h.t.two.z.1 h.t.two.A h.t.two.hA (h.t.two.sab sa (.inl rfl)).1 fun x hx => (h.t.two.sab x (.inr hx)).1) ?_
  rintro v w' ⟨r, e, p', l', g', c', rfl, hst, hP, hS, hf, hon⟩
  obtain ⟨h1, h2, h3⟩ := hst.held h.t.two.hA
  obtain ⟨o1, o2, o3, o4, o5⟩ := hst.ones h.t.two.hA h.t.oA
  refine ⟨r, e, p', l', g', c', rfl, hst, ⟨⟨h.t.two.turned hP hS hf hon h1 (h2 lb h.t.two.hB) (h3 lb h.t.two.hB h.t.two.dj), by rw [o4, h.t.first], by rw [o5, h.t.len], o1, o2 lb h.t.two.hB h.t.oB, by have := h.t.sum; omega⟩, h.hs, ⟨h.out.1, ?_, h.out.2.2⟩, Nat.lt_of_lt_of_le h.lt hf.size⟩, hB.fr hf h.aside, hf⟩
  rintro (e | hx)
  · exact h.out.2.1 (.inl e)
  · rcases hon _ hx with h4 | h4
    · exact h.out.2.1 (.inr h4)
    · have := h.lt; omega
theorem TblS.drop (h : TblS w0 w b bu bd sa sb lo m bs ga gb ca cb la lb p) {cells : List Value} (hB : Has w bs cells) (x : Nat) (hx : x < 1073741824) :
    Ret prog 33 #[.pointer (some ⟨sa, 0, none⟩), .int .i64 (x : Int)] w fun v w' => ∃ (e : Nat) (p' : Pool) (la' : List Qr) (ga' : Option Addr) (ca' : Nat), v = .int .i64 (e : Int) ∧
      ((e = 45 ∧ x ∉ tabs la ∧ la' = la ∧ p' = p) ∨ (e = 0 ∧ x ∈ tabs la ∧ tabs la' = (tabs la).filter fun y => decide (y ≠ x))) ∧ TblS w0 w' b bu bd sa sb lo m bs ga' gb ca' cb la' lb p' ∧ Has w' bs cells ∧ Fr (OwnS b bu bd sa ga) w w' := by
  obtain ⟨z1, z2, _⟩ := h.t.two.z
  refine Ret.use (f33 h.t.two.pool h.t.two.tz' (fun hx => by rcases hx with hx | hx | hx; exact z1 hx; exact z2 (.inl hx); exact z2 (.inr hx)) h.t.two.A h.t.two.hA (h.t.two.sab sa (.inl rfl)).1 (fun x hx => (h.t.two.sab x (.inr hx)).1) (x : Int) ⟨by omega, by omega⟩) ?_
  rintro v w' ⟨e, p', l', g', c', rfl, hst, hP, hS, hf, hon⟩
  obtain ⟨h1, h2, h3⟩ := hst.held h.t.two.A.ok h.t.two.hA
  obtain ⟨o1, o2, o3, o4, o5⟩ := hst.ones h.t.two.A.ok h.t.two.hA h.t.oA
  refine ⟨e, p', l', g', c', rfl, hst.tabs_eq h.t.two.A.ok rfl, ⟨⟨h.t.two.turned hP hS hf hon h1 (h2 lb h.t.two.hB h.t.two.dj) (h3 lb h.t.two.dj), by rw [o4, h.t.first], by rw [o5, h.t.len], o1, o2 lb h.t.two.hB h.t.two.dj h.t.oB, by have := h.t.sum; omega⟩, h.hs, ⟨h.out.1, ?_, h.out.2.2⟩, Nat.lt_of_lt_of_le h.lt hf.size⟩, hB.fr hf h.aside, hf⟩
  rintro (e | hx)
  · exact h.out.2.1 (.inl e)
  · rcases hon _ hx with h4 | h4
    · exact h.out.2.1 (.inr h4)
    · have := h.lt; omega
end
end Go.Proofs.YthpodlcbikialaaDoor

set_option linter.unusedVariables false
set_option linter.unusedSimpArgs false
namespace Go.Proofs.YthpodlcbikialaaDoor
open Go Go.Sh Go.Fr

theorem ScrAt.field {w : World} {q : Option Addr} {n : Nat} {l : List Op5} (h : ScrAt w q n l) {i : Nat} {o : Op5} (ho : l[i]? = some o) (j : Nat) (hj : j < 5) {x : Int} (hx : o.cells[j]? = some (.int .i64 x)) {K : Int → Prop} (k : K x) :
    NilP q fun a => (0 : Int) ≤ (i : Int) ∧ (i : Int) < (n : Int) ∧ Ld w (at0 (at0 a ((i : Int).toNat * 5)) j) fun v => AsI .i64 v K := by
  have hil := (List.getElem?_eq_some_iff.1 ho).1
  have hn := h.len
  refine h.get ho fun sb so hq hc => ?_
  refine ⟨by omega, by omega, ?_⟩
  rw [at0_mk, at0_mk, Int.toNat_natCast, Nat.add_assoc]
  exact Ld.of (hc j _ hj hx) (AsI_int.2 k)
/-- a pointer out of the two -/
theorem Has.ptr {w : World} {bs : Nat} {cells : List Value} (h : Has w bs cells) {n : Nat} (hn : cells.length = n) {k : Nat} {a : Option Addr} (hk : cells[k]? = some (.pointer a)) {K : Option Addr → Prop} (hK : K a) :
    NilP (some ⟨bs, 0, none⟩) fun a => (0 : Int) ≤ (k : Int) ∧ (k : Int) < (n : Int) ∧ Ld w (at0 a ((k : Int).toNat * 1)) fun v => AsP v K := by
  have := (List.getElem?_eq_some_iff.1 hk).1
  refine ⟨by omega, by omega, ?_⟩
  rw [at0_mk, Int.toNat_natCast, Nat.mul_one, Nat.zero_add]
  exact h.ld hk (AsP_pointer.2 hK)
theorem f8 {w : World} (hT : Tz w) (first count : Int) {q : Option Addr} {n c : Nat} {l : List Op5} (hs : ScrAt w q n l) (hi1 : I64 first) (hi2 : I64 count) :
    Ret prog 8 #[.int .i64 first, .int .i64 count, .slice q n c] w fun v w' => v = .bool true ∧ Fr0 w w' := by
  have h0 := hT.size
  refine F8_of _ _ _ _ _ _ _ ?_
  unfold F8
  refine Ret.use (f19 first count) ?_
  rintro v w1 ⟨b, bu, bd, rfl, hP1, hf1, hb⟩
  have hown : ∀ x, Own b bu bd x → w.heap.size ≤ x := by intro x hx; unfold Own at hx; omega
  simp only [AsTup_tuple, UnC_cons, UnN_nil, AsI_int, AsP_pointer]
  rw [show (some (⟨b, 0, none⟩ : Addr)).isNone = false from rfl, BIf_false]
  refine Ret.use (f13 (hT.fr0 hf1)) ?_
  rintro v w2 ⟨rfl, hf2⟩
  rw [AsB_bool, Bool.not_true, BIf_false]
  have g1 : 0 ≤ first % 10000 ∧ first % 10000 < 10000 := by omega
  have g2 : 1 ≤ 1 + count % 200 ∧ 1 + count % 200 ≤ 200 := by omega
  obtain ⟨lo, hlo⟩ : ∃ lo : Nat, first % 10000 = lo := ⟨(first % 10000).toNat, by omega⟩
  obtain ⟨m, hm⟩ : ∃ m : Nat, 1 + count % 200 = m := ⟨(1 + count % 200).toNat, by omega⟩
  rw [hlo, hm] at hP1 ⊢
  rw [hlo] at g1; rw [hm] at g2
  simp only [Int.toNat_natCast] at hP1
  refine Ret.use (f12 b) ?_
  rintro v w3 ⟨rfl, hS3, hf3, hs3⟩
  simp only [AsTup_tuple, UnC_cons, UnN_nil, AsI_int, AsP_pointer]
  refine Ret.use (f12 b) ?_
  rintro v w4 ⟨rfl, hS4, hf4, hs4⟩
  simp only [AsTup_tuple, UnC_cons, UnN_nil, AsI_int, AsP_pointer]
  refine Ret.use (f14 _) ?_
  rintro v w5 ⟨rfl, hw⟩
  obtain rfl := hw.symm
  rw [AsI_int]
  refine BIf_ne (fun h => absurd rfl h) (fun _ => ?_)
  refine Ret.use (f14 _) ?_
  rintro v w5 ⟨rfl, hw⟩
  obtain rfl := hw.symm
  rw [AsI_int]
  refine BIf_ne (fun h => absurd rfl h) (fun _ => ?_)
  show BIf false _ _
  rw [BIf_false]
  show BIf false _ _
  rw [BIf_false]
  obtain ⟨sa, hsa⟩ : ∃ sa, w2.heap.size = sa := ⟨_, rfl⟩
  obtain ⟨sb, hsb⟩ : ∃ sb, w3.heap.size = sb := ⟨_, rfl⟩
  rw [hsa] at hS3 ⊢
  rw [hsb] at hS4 ⊢
  refine RunV.buildN E33 [.pointer (some ⟨sa, 0, none⟩), .pointer (some ⟨sb, 0, none⟩)] _ rfl 2 rfl (by decide) (by decide) (by intro v hv; simp at hv; rcases hv with rfl | rfl <;> rfl) fun w5 hB5 hf5 hs5 => ?_
  rw [AsSl_slice]
  obtain ⟨bs, hbs⟩ : ∃ bs, w4.heap.size = bs := ⟨_, rfl⟩
  rw [hbs] at hB5 ⊢
  replace hB5 : Has w5 bs [.pointer (some ⟨sa, 0, none⟩), .pointer (some ⟨sb, 0, none⟩)] := hB5
  have lt1 := (hP1.fr0 hf2).lt
  have z1 := hf1.size
  have z2 := hf2.size
  have hfw2 := hf1.trans hf2
  have z02 := hfw2.size
  have hlt2 : ∀ x, Own b bu bd x → x < sa := fun x hx => by have := lt1 x hx; omega
  have hon : ∀ x, ¬ On (none : Option Addr) x := fun x ⟨a, h, _⟩ => by cases h
  have two5 : Two w w5 b bu bd sa sb none none 0 0 [] [] (newPool lo m) := by
    refine ⟨((hP1.fr0 hf2).fr0 hf3 |>.fr0 hf4).fr0 hf5, (hS3.fr0 hf4).fr0 hf5, hS4.fr0 hf5, fun q h => by simp at h, fun q h => by simp at h, fun q h => by simp at h, ?_, ?_, ?_, ((hfw2.trans hf3).trans hf4).trans hf5, hT⟩
    · rintro x (rfl | hx)
      · refine ⟨fun h => by have := hlt2 _ h; omega, ?_⟩
        rintro (h | h)
        · omega
        · exact hon _ h
      · exact absurd hx (hon x)
    · rintro x (rfl | hx)
      · intro h; have := hlt2 _ h; omega
      · exact absurd hx (hon x)
    · rintro x (h | (h | h) | (h | h))
      · exact hown x h
      · omega
      · exact absurd h (hon x)
      · omega
      · exact absurd h (hon x)
  have tbl5 : TblS w w5 b bu bd sa sb lo m bs none none 0 0 [] [] (newPool lo m) := by
    refine ⟨⟨two5, rfl, by simp [newPool], fun q h => by simp at h, fun q h => by simp at h, by simp [newPool_free]⟩, by omega, ⟨fun h => by have := hlt2 _ h; omega, ?_, ?_⟩, hB5.lt⟩
    · rintro (h | h)
      · omega
      · exact hon _ h
    · rintro (h | h)
      · omega
      · exact hon _ h
  clear two5 hS3 hS4 hP1
  refine Loop.by (fun s w' => ∃ (i : Nat) (bb : Bool) (ga gb : Option Addr) (ca cb : Nat) (la lb : List Qr) (p : Pool), s = [.int .i64 (i : Int), .bool bb] ∧ i ≤ n ∧ TblS w w' b bu bd sa sb lo m bs ga gb ca cb la lb p ∧ Has w' bs [.pointer (some ⟨sa, 0, none⟩), .pointer (some ⟨sb, 0, none⟩)])
    (fun s _ => match s with | [.int _ k, _] => n - k.toNat | _ => 0)
    ⟨0, false, none, none, 0, 0, [], [], newPool lo m, rfl, by omega, tbl5, hB5⟩ ?_
  rintro _ w6 ⟨i, bb, ga, gb, ca, cb, la, lb, p, rfl, hi, hX0, hB6⟩
  simp only [UnC_cons, UnN_nil, AsI_int, AsB_bool, Ld_drew]
  have hn := hs.lt
  refine BIf_cases (fun hlt => ?_) (fun hge => ?_)
  · have hil : i < l.length := by rw [hs.len]; omega
    obtain ⟨o, ho⟩ : ∃ o, l[i]? = some o := ⟨_, List.getElem?_eq_getElem hil⟩
    have hok := hs.ok o (List.mem_of_getElem? ho)
    refine (hs.fr0 hX0.t.two.fr).field ho 4 (by decide) rfl ?_
    rw [andI_one hok.y]
    obtain ⟨k, sx, sy, gx, gy, cx, cy, lx, ly, hkk, hX, hcell, back⟩ : ∃ (k sx sy : Nat) (gx gy : Option Addr) (cx cy : Nat) (lx ly : List Qr), o.y % 2 = (k : Int) ∧ TblS w w6 b bu bd sx sy lo m bs gx gy cx cy lx ly p ∧ [Value.pointer (some ⟨sa, 0, none⟩), .pointer (some ⟨sb, 0, none⟩)][k]? = some (.pointer (some ⟨sx, 0, none⟩)) ∧
        ∀ w'' gx' cx' lx' p', TblS w w'' b bu bd sx sy lo m bs gx' gy cx' cy lx' ly p' → ∃ (ga gb : Option Addr) (ca cb : Nat) (la lb : List Qr), TblS w w'' b bu bd sa sb lo m bs ga gb ca cb la lb p' := by
      rcases (show o.y % 2 = 0 ∨ o.y % 2 = 1 by omega) with h | h
      · exact ⟨0, sa, sb, ga, gb, ca, cb, la, lb, by omega, hX0, rfl, fun w'' gx' cx' lx' p' h => ⟨_, _, _, _, _, _, h⟩⟩
      · exact ⟨1, sb, sa, gb, ga, cb, ca, lb, la, by omega, hX0.swap, rfl, fun w'' gx' cx' lx' p' h => ⟨_, _, _, _, _, _, h.swap⟩⟩
    clear hX0
    rw [hkk]
    refine Has.ptr hB6 rfl hcell ?_
    have hokx := hX.t.two.A.ok
    have hNx := hokx.len
    have hTx := tabs_len lx
    refine Ret.use (f17 hX.t.two.A) ?_
    rintro v w7 ⟨lq, lc, rfl, sl7, hf7⟩
    rw [AsSl_slice]
    have hX7 := hX.fr0 hf7
    have hB7 := hB6.fr0 hf7
    refine Ret.use (f26 hX7.t.two.pool) ?_
    rintro v w8 ⟨rfl, hw⟩
    obtain rfl := hw.symm
    rw [AsI_int]
    refine Join.at (fun s w' => ∃ (bb : Bool) (gx' : Option Addr) (cx' : Nat) (lx' : List Qr) (p' : Pool), s = [.bool bb] ∧ TblS w w' b bu bd sx sy lo m bs gx' gy cx' cy lx' ly p' ∧ Has w' bs [.pointer (some ⟨sa, 0, none⟩), .pointer (some ⟨sb, 0, none⟩)]) ?_ ?_
    rotate_left
    · rintro _ w9 ⟨bb', gx', cx', lx', p', rfl, hX9, hB9⟩
      simp only [UnC_cons, UnN_nil, AsB_bool]
      obtain ⟨ga', gb', ca', cb', la', lb', hA9⟩ := back _ _ _ _ _ hX9
      refine Ret.use (f34 hA9.t.two) ?_
      rintro v w10 ⟨rfl, hf10⟩
      rw [AsB_bool, Bool.not_true, BIf_false]
      have hA10 := hA9.fr0 hf10
      refine Ret.use (f26 hA10.t.two.pool) ?_
      rintro v w11 ⟨rfl, hw⟩
      obtain rfl := hw.symm
      rw [AsI_int]
      refine Ret.use (f18 hA10.t.two.A) ?_
      rintro v w12 ⟨q12, c12, rfl, sl12, hf12⟩
      rw [AsSl_slice]
      have hA12 := hA10.fr0 hf12
      refine Ret.use (f18 hA12.t.two.B) ?_
      rintro v w13 ⟨q13, c13, rfl, sl13, hf13⟩
      rw [AsSl_slice]
      have hsum := hA9.t.sum
      have hl1 := hA9.t.two.A.ok.len
      have hl2 := hA9.t.two.B.ok.len
      rw [w64 (n := ((p'.free : Nat) : Int) + (la'.length : Int)) (by omega) (by omega), w64 (n := ((p'.free : Nat) : Int) + (la'.length : Int) + (lb'.length : Int)) (by omega) (by omega)]
      refine BIf_ne (fun h => absurd (by omega) h) (fun _ => ?_)
      rw [w64 (n := (i : Int) + 1) (by omega) (by omega)]
      refine ⟨⟨i + 1, bb', ga', gb', ca', cb', la', lb', p', rfl, by omega, hA12.fr0 hf13, ((hB9.fr0 hf10).fr0 hf12).fr0 hf13⟩, ?_⟩
      show n - ((i : Int) + 1).toNat < n - (i : Int).toNat
      omega
    refine (hs.fr0 hX7.t.two.fr).field ho 0 (by decide) rfl ?_
    refine BIf_eq (fun heven => ?_) (fun hodd => ?_)
    · refine Has.ptr hB7 rfl hcell ?_
      refine Ret.use (hX7.take hB7) ?_
      rintro v w9 ⟨r, e, p', lx', gx', cx', rfl, hst, hX9, hB9, hf9⟩
      simp only [AsTup_tuple, UnC_cons, UnN_nil, AsI_int]
      have hown7 := hX.own
      have hlq9 : Rd w9 lq (i64n (tabs lx)) := sl7.rd.fr hf9 fun x hx h => by have := (sl7.lt x hx).1; have := hown7 x h; omega
      have hpl : p.u.length ≤ 1048576 := hX.t.two.pool.ok.n
      refine Has.ptr hB9 rfl hcell ?_
      refine Ret.use (f14 _) ?_
      rintro v w10 ⟨rfl, hw⟩
      obtain rfl := hw.symm
      rw [AsI_int]
      have hce : w9.cell? (at0 ⟨bs, 0, none⟩ (((k : Nat) : Int).toNat * 1)) = some (.pointer (some ⟨sx, 0, none⟩)) := by
        rw [at0_mk, Int.toNat_natCast, Nat.mul_one, Nat.zero_add, hB9.cell, hcell]
      refine ⟨hce, ?_⟩
      refine Ret.use (f26 (w := w9.drew) (hX9.t.two.pool.qt (Qt.refl _).drew)) ?_
      rintro v w11 ⟨rfl, hw⟩
      obtain rfl := hw.symm
      rw [AsI_int]
      refine ⟨hce, ?_⟩
      refine Ret.use (f32 (w := w9.drew) (lc := lc) hst hokx hX.t.two.hA (hX9.t.two.A.qt (Qt.refl _).drew) (hlq9.qt (Qt.refl _).drew) hpl) ?_
      rintro v w12 ⟨rfl, hf12⟩
      rw [AsB_bool, Bool.not_true, BIf_false]
      have hf12' : Fr0 w9 w12 := Fr.of_drew hf12
      exact ⟨bb, gx', cx', lx', p', rfl, hX9.fr0 hf12', hB9.fr0 hf12'⟩
    · refine BIf_cases (fun hpos => ?_) (fun hzero => ?_)
      · refine (hs.fr0 hX7.t.two.fr).field ho 1 (by decide) rfl ?_
        refine Ret.use (f22 o.f ((tabs lx).length : Int) (by omega) (by omega)) ?_
        rintro v w9 ⟨rfl, hw⟩
        obtain rfl := hw.symm
        rw [AsI_int]
        have g3 := Int.emod_nonneg o.f (show ((tabs lx).length : Int) ≠ 0 by omega)
        have g4 := Int.emod_lt_of_pos o.f (show (0 : Int) < ((tabs lx).length : Int) by omega)
        obtain ⟨j, hj⟩ : ∃ j : Nat, o.f % ((tabs lx).length : Int) = j := ⟨(o.f % ((tabs lx).length : Int)).toNat, by omega⟩
        rw [hj] at g4 ⊢
        have hjl : j < (tabs lx).length := by omega
        obtain ⟨x, hx⟩ : ∃ x, (tabs lx)[j]? = some x := ⟨_, List.getElem?_eq_getElem hjl⟩
        have hxm := List.mem_of_getElem? hx
        have hxl := tabs_lt hokx hxm
        refine Has.ptr hB7 rfl hcell ?_
        refine Rd.nat sl7.rd hx ?_
        refine Ret.use ((hX7.fr0 (Qt.refl _).drew.fr).drop hB7.drew x hxl) ?_
        rintro v w9 ⟨e, p', lx', gx', cx', rfl, hd, hX9, hB9, hf9⟩
        have hf9' : Fr (OwnS b bu bd sx gx) w7 w9 := hf9.of_drew
        have hown7 := hX.own
        have hlq9 : Rd w9 lq (i64n (tabs lx)) := sl7.rd.fr hf9' fun x hx h => by have := (sl7.lt x hx).1; have := hown7 x h; omega
        rcases hd with ⟨_, hbad, _⟩ | ⟨rfl, _, htab⟩
        · exact absurd hxm hbad
        rw [AsI_int]
        refine Ret.use (f14 _) ?_
        rintro v w10 ⟨rfl, hw⟩
        obtain rfl := hw.symm
        rw [AsI_int]
        refine BIf_ne (fun h => absurd rfl h) (fun _ => ?_)
        refine Has.ptr hB9 rfl hcell ?_
        refine Rd.nat hlq9 hx ?_
        refine Ret.use (hX9.drop hB9 x hxl) ?_
        rintro v w10 ⟨e, p'', lx'', gx'', cx'', rfl, hd, hX10, hB10, hf10⟩
        have hxn : x ∉ tabs lx' := by rw [htab]; simp
        rcases hd with ⟨rfl, _, rfl, rfl⟩ | ⟨_, hbad, _⟩
        rotate_left
        · exact absurd hbad hxn
        rw [AsI_int]
        refine Ret.use (f14 _) ?_
        rintro v w11 ⟨rfl, hw⟩
        obtain rfl := hw.symm
        rw [AsI_int]
        refine BIf_ne (fun h => absurd rfl h) (fun _ => ?_)
        refine Has.ptr hB10 rfl hcell ?_
        refine Ret.use (f17 hX10.t.two.A) ?_
        rintro v w11 ⟨q11, c11, rfl, sl11, hf11⟩
        rw [AsSl_slice]
        have hlen : (tabs lx'').length = (tabs lx).length - 1 := by rw [htab]; exact filter_len (tabs_rise hokx.rise) hxm
        rw [w64 (n := ((tabs lx).length : Int) - 1) (by omega) (by omega)]
        refine BIf_ne (fun h => absurd (by omega) h) (fun _ => ?_)
        exact ⟨bb, gx'', cx'', lx'', p'', rfl, hX10.fr0 hf11, hB10.fr0 hf11⟩
      · exact ⟨bb, gx, cx, lx, p, rfl, hX7, hB7⟩
  · refine Loop.by (fun s w' => ∃ (i : Nat) (bb : Bool) (ga gb : Option Addr) (ca cb : Nat) (la lb : List Qr) (p : Pool), s = [.int .i64 (i : Int), .bool bb] ∧ i ≤ 2 ∧ (1 ≤ i → la = []) ∧ (2 ≤ i → lb = []) ∧ TblS w w' b bu bd sa sb lo m bs ga gb ca cb la lb p ∧ Has w' bs [.pointer (some ⟨sa, 0, none⟩), .pointer (some ⟨sb, 0, none⟩)])
      (fun s _ => match s with | [.int _ k, _] => 2 - k.toNat | _ => 0)
      ⟨0, bb, ga, gb, ca, cb, la, lb, p, rfl, by omega, fun h => by omega, fun h => by omega, hX0, hB6⟩ ?_
    clear hX0 hB6 ga gb ca cb la lb p
    rintro _ w7 ⟨i, bb1, ga, gb, ca, cb, la, lb, p, rfl, hi, hl1, hl2, hX0, hB7⟩
    simp only [UnC_cons, UnN_nil, AsI_int, AsB_bool]
    refine BIf_cases (fun hlt => ?_) (fun hge => ?_)
    · obtain ⟨sx, sy, gx, gy, cx, cy, lx, ly, hX, hcell, back⟩ : ∃ (sx sy : Nat) (gx gy : Option Addr) (cx cy : Nat) (lx ly : List Qr), TblS w w7 b bu bd sx sy lo m bs gx gy cx cy lx ly p ∧ [Value.pointer (some ⟨sa, 0, none⟩), .pointer (some ⟨sb, 0, none⟩)][i]? = some (.pointer (some ⟨sx, 0, none⟩)) ∧
          ∀ w'' gx' cx' p', TblS w w'' b bu bd sx sy lo m bs gx' gy cx' cy [] ly p' → ∃ (ga gb : Option Addr) (ca cb : Nat) (la lb : List Qr), (1 ≤ i + 1 → la = []) ∧ (2 ≤ i + 1 → lb = []) ∧ TblS w w'' b bu bd sa sb lo m bs ga gb ca cb la lb p' := by
        rcases (show i = 0 ∨ i = 1 by omega) with rfl | rfl
        · exact ⟨sa, sb, ga, gb, ca, cb, la, lb, hX0, rfl, fun w'' gx' cx' p' h => ⟨_, _, _, _, _, _, fun _ => rfl, fun h => by omega, h⟩⟩
        · obtain rfl := hl1 (by omega)
          exact ⟨sb, sa, gb, ga, cb, ca, lb, [], hX0.swap, rfl, fun w'' gx' cx' p' h => ⟨_, _, _, _, _, _, fun _ => rfl, fun _ => rfl, h.swap⟩⟩
      clear hX0
      refine Has.ptr hB7 rfl hcell ?_
      have hokx := hX.t.two.A.ok
      have hNx := hokx.len
      have hTx := tabs_len lx
      refine Ret.use (f17 hX.t.two.A) ?_
      rintro v w8 ⟨lq, lc, rfl, sl8, hf8⟩
      rw [AsSl_slice]
      refine Loop.by (fun s w' => ∃ (j : Nat) (bb : Bool) (gx' : Option Addr) (cx' : Nat) (lx' : List Qr) (p' : Pool), s = [.int .i64 (j : Int), .bool bb] ∧ j ≤ (tabs lx).length ∧ tabs lx' = (tabs lx).drop j ∧ TblS w w' b bu bd sx sy lo m bs gx' gy cx' cy lx' ly p' ∧ Has w' bs [.pointer (some ⟨sa, 0, none⟩), .pointer (some ⟨sb, 0, none⟩)] ∧ Rd w' lq (i64n (tabs lx)) ∧
          ∀ x, On lq x → ¬ OwnS b bu bd sx gx' x)
        (fun s _ => match s with | [.int _ k, _] => (tabs lx).length - k.toNat | _ => 0)
        ⟨0, bb1, gx, cx, lx, p, rfl, by omega, rfl, hX.fr0 hf8, hB7.fr0 hf8, sl8.rd, fun x hx h => by have := (sl8.lt x hx).1; have := hX.own x h; omega⟩ ?_
      clear hX
      rintro _ w9 ⟨j, bb2, gx', cx', lx', p', rfl, hj, htab, hX9, hB9, hR9, hsep⟩
      simp only [UnC_cons, UnN_nil, AsI_int, AsB_bool, Ld_drew]
      refine BIf_cases (fun hjl => ?_) (fun hjg => ?_)
      · have hjl : j < (tabs lx).length := by omega
        obtain ⟨x, hx⟩ : ∃ x, (tabs lx)[j]? = some x := ⟨_, List.getElem?_eq_getElem hjl⟩
        have hxl := tabs_lt hokx (List.mem_of_getElem? hx)
        have hdrop : (tabs lx).drop j = x :: (tabs lx).drop (j + 1) := by
          rw [List.drop_eq_getElem_cons hjl, (List.getElem?_eq_some_iff.1 hx).2]
        refine Has.ptr hB9 rfl hcell ?_
        refine Rd.nat hR9 hx ?_
        have hl9 := (hX9.fr0 (Qt.refl _).drew.fr).lt
        refine Ret.use (f33 (w := w9.drew) (hX9.t.two.pool.qt (Qt.refl _).drew) (hX9.t.two.tz'.qt (Qt.refl _).drew) (fun hx => by
          obtain ⟨z1, z2, _⟩ := hX9.t.two.z
          rcases hx with hx | hx | hx
          · exact z1 hx
          · exact z2 (.inl hx)
          · exact z2 (.inr hx)) (hX9.t.two.A.qt (Qt.refl _).drew) hX9.t.two.hA (hX9.t.two.sab sx (.inl rfl)).1 (fun x hx => (hX9.t.two.sab x (.inr hx)).1) (x : Int) ⟨by omega, by omega⟩) ?_
        rintro v w10 ⟨e, p'', lx'', gx'', cx'', rfl, hst, hP10, hS10, hf10, hon10⟩
        have hf10' : Fr (OwnS b bu bd sx gx') w9 w10 := hf10.of_drew
        obtain ⟨h1, h2, h3⟩ := hst.held hX9.t.two.A.ok hX9.t.two.hA
        obtain ⟨o1, o2, o3, o4, o5⟩ := hst.ones hX9.t.two.A.ok hX9.t.two.hA hX9.t.oA
        have hX10 : TblS w w10 b bu bd sx sy lo m bs gx'' gy cx'' cy lx'' ly p'' := by
          refine ⟨⟨hX9.t.two.turned hP10 hS10 hf10' hon10 h1 (h2 ly hX9.t.two.hB hX9.t.two.dj) (h3 ly hX9.t.two.dj), by rw [o4, hX9.t.first], by rw [o5, hX9.t.len], o1, o2 ly hX9.t.two.hB hX9.t.two.dj hX9.t.oB, by have := hX9.t.sum; omega⟩, hX9.hs, ⟨hX9.out.1, ?_, hX9.out.2.2⟩, Nat.lt_of_lt_of_le hX9.lt hf10'.size⟩
          rintro (e | hx)
          · exact hX9.out.2.1 (.inl e)
          · rcases hon10 _ hx with h4 | h4
            · exact hX9.out.2.1 (.inr h4)
            · have := hX9.lt; have h6 : w9.drew.heap.size = w9.heap.size := rfl; omega
        rcases hst.tabs_eq hX9.t.two.A.ok (x := x) rfl with ⟨_, hbad, _⟩ | ⟨rfl, _, ht2⟩
        · rw [htab, hdrop] at hbad; exact absurd (by simp) hbad
        rw [AsI_int]
        refine Ret.use (f14 _) ?_
        rintro v w11 ⟨rfl, hw⟩
        obtain rfl := hw.symm
        rw [AsI_int]
        refine BIf_ne (fun h => absurd rfl h) (fun _ => ?_)
        rw [w64 (n := (j : Int) + 1) (by omega) (by omega)]
        refine ⟨⟨j + 1, bb2, gx'', cx'', lx'', p'', rfl, by omega, ?_, hX10, hB9.fr hf10' hX9.aside, hR9.fr hf10' hsep, ?_⟩, ?_⟩
        · rw [ht2, htab, hdrop]
          refine filter_head ?_
          rw [← hdrop]
          exact (tabs_rise hokx.rise).sublist (List.drop_sublist _ _)
        · intro y hy h
          rcases h with h | h | h
          · exact hsep y hy (.inl h)
          · exact hsep y hy (.inr (.inl h))
          · rcases hon10 y h with h4 | h4
            · exact hsep y hy (.inr (.inr h4))
            · have h6 : w9.drew.heap.size = w9.heap.size := rfl
              obtain ⟨b', o', hlq, hc⟩ := hR9 j _ (by rw [i64n, List.getElem?_map, hx]; rfl)
              obtain ⟨a, ha, rfl⟩ := hy
              rw [hlq] at ha; injection ha with ha; subst ha
              have := cell_lt hc
              simp only at h4 this
              omega
        · show (tabs lx).length - ((j : Int) + 1).toNat < (tabs lx).length - (j : Int).toNat
          omega
      · have : j = (tabs lx).length := by omega
        rw [this, List.drop_length] at htab
        obtain rfl := tabs_nil hX9.t.two.A.ok htab
        obtain ⟨ga', gb', ca', cb', la', lb', k1, k2, hA9⟩ := back _ _ _ _ hX9
        rw [w64 (n := (i : Int) + 1) (by omega) (by omega)]
        refine ⟨⟨i + 1, bb2, ga', gb', ca', cb', la', lb', p', rfl, by omega, k1, k2, hA9, hB9⟩, ?_⟩
        show 2 - ((i : Int) + 1).toNat < 2 - (i : Int).toNat
        omega
    · obtain rfl := hl1 (by omega)
      obtain rfl := hl2 (by omega)
      refine Ret.use (f26 hX0.t.two.pool) ?_
      rintro v w8 ⟨rfl, hw⟩
      obtain rfl := hw.symm
      rw [AsI_int]
      have hsum := hX0.t.sum
      have hplen := hX0.t.len
      simp only [List.length_nil, Nat.add_zero] at hsum
      rw [hsum]
      refine BIf_eq (fun _ => ?_) (fun h => absurd rfl h)
      refine Ret.use (f28 hX0.t.two.pool hX0.t.two.tz') ?_
      rintro v w8 ⟨rq, rc, rfl, sl8, hf8⟩
      rw [AsSl_slice]
      have hall : ∀ x, p.u.getD x 0 = 0 := zero_all (by show p.free = _; rw [hsum, hplen])
      have hruns : p.runs = [(0, m)] := by rw [← hplen]; exact all_zero_runs hall (by omega)
      refine RunV.build1 E55 (by decide) rfl fun w9 h9 hf9 _ => ?_
      rw [AsSl_slice]
      have hR1 : RunsAt w9 rq p.runs.length p.first p.runs := ⟨sl8.rd.fr0 hf9, rfl⟩
      have hR2 : RunsAt w9 (some ⟨w8.heap.size, 0, none⟩) 1 p.first [(0, m)] := by
        refine ⟨fun j v hv => ⟨_, 0, rfl, ?_⟩, rfl⟩
        rw [Nat.zero_add, h9.cell]
        have e : (Value.agg #[Value.int .i64 (lo : Int), .int .i64 (m : Int)]).cells.toList = runCells p.first [(0, m)] := by
          simp [runCells, Value.cells, hX0.t.first]
        rw [e]; exact hv
      refine Ret.use (f27 (ac := rc) (bc := 1) hR1 hR2 (by rw [hruns]; simp)) ?_
      rintro v w10 ⟨rfl, hq10⟩
      rw [AsB_bool, hruns]
      exact ⟨by simp, ((hX0.t.two.fr.trans hf8).trans hf9).trans hq10.fr⟩
end Go.Proofs.YthpodlcbikialaaDoor
