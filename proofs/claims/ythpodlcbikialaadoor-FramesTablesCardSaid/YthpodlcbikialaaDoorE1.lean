import Derived.Test.YthpodlcbikialaaDoorD2
set_option linter.unusedVariables false
set_option linter.unusedSimpArgs false
namespace Go.Proofs.YthpodlcbikialaaDoor
open Go Go.Sh Go.Fr

/-! ## two slabs over one pool -/
def Sb (s : Nat) (g : Option Addr) (x : Nat) : Prop := x = s ∨ On g x
theorem PoolAt.lt {w : World} {b bu bd : Nat} {p : Pool} (h : PoolAt w b bu bd p) : ∀ x, Own b bu bd x → x < w.heap.size := by
  intro x hx
  have h1 := h.st.lt; have h2 := h.us.lt
  obtain ⟨ws, _, hws⟩ := h.ws
  have h3 := hws.lt
  unfold Own at hx; omega
theorem SlabAt.lt {w : World} {s b c : Nat} {g : Option Addr} {l : List Qr} (h : SlabAt w s b g c l) : ∀ x, Sb s g x → x < w.heap.size := by
  rintro x (rfl | hx)
  · exact h.st.lt
  · exact (h.sl.lt x hx).2
structure Two (w0 w : World) (b bu bd sa sb : Nat) (ga gb : Option Addr) (ca cb : Nat) (la lb : List Qr) (p : Pool) : Prop where
  pool : PoolAt w b bu bd p
  A : SlabAt w sa b ga ca la
  B : SlabAt w sb b gb cb lb
  hA : Held p la
  hB : Held p lb
  dj : ∀ q ∈ la, ∀ q' ∈ lb, q.f ≠ q'.f
  sab : ∀ x, Sb sa ga x → ¬ Own b bu bd x ∧ ¬ Sb sb gb x
  sbp : ∀ x, Sb sb gb x → ¬ Own b bu bd x
  lo : ∀ x, Own b bu bd x ∨ Sb sa ga x ∨ Sb sb gb x → w0.heap.size ≤ x
  fr : Fr0 w0 w
  tz : Tz w0
section
variable {w0 w w' : World} {b bu bd sa sb : Nat} {ga gb : Option Addr} {ca cb : Nat} {la lb : List Qr} {p : Pool}
theorem Two.swap (h : Two w0 w b bu bd sa sb ga gb ca cb la lb p) : Two w0 w b bu bd sb sa gb ga cb ca lb la p :=
  ⟨h.pool, h.B, h.A, h.hB, h.hA, fun q hq q' hq' e => h.dj q' hq' q hq e.symm, fun x hx => ⟨h.sbp x hx, fun h2 => (h.sab x h2).2 hx⟩, fun x hx => (h.sab x hx).1, fun x hx => h.lo x (by rcases hx with h | h | h <;> simp [h]), h.fr, h.tz⟩
theorem Two.fr0 (h : Two w0 w b bu bd sa sb ga gb ca cb la lb p) (f : Fr0 w w') : Two w0 w' b bu bd sa sb ga gb ca cb la lb p :=
  ⟨h.pool.fr0 f, h.A.fr0 f, h.B.fr0 f, h.hA, h.hB, h.dj, h.sab, h.sbp, h.lo, h.fr.trans f, h.tz⟩
theorem Two.qt (h : Two w0 w b bu bd sa sb ga gb ca cb la lb p) (f : Qt w w') : Two w0 w' b bu bd sa sb ga gb ca cb la lb p := h.fr0 f.fr
theorem Two.tz' (h : Two w0 w b bu bd sa sb ga gb ca cb la lb p) : Tz w := h.tz.fr0 h.fr
theorem Two.z (h : Two w0 w b bu bd sa sb ga gb ca cb la lb p) : ¬ Own b bu bd 0 ∧ ¬ Sb sa ga 0 ∧ ¬ Sb sb gb 0 := by
  have h0 := h.tz.size
  refine ⟨fun hx => ?_, fun hx => ?_, fun hx => ?_⟩
  · have := h.lo 0 (.inl hx); omega
  · have := h.lo 0 (.inr (.inl hx)); omega
  · have := h.lo 0 (.inr (.inr hx)); omega
/-- the pool alone has turned -/
theorem Two.pooled (h : Two w0 w b bu bd sa sb ga gb ca cb la lb p) {p' : Pool} (hP : PoolAt w' b bu bd p') (f : Fr (Own b bu bd) w w') (h1 : Held p' la) (h2 : Held p' lb) : Two w0 w' b bu bd sa sb ga gb ca cb la lb p' :=
  ⟨hP, h.A.fr f (fun hx => (h.sab sa (.inl rfl)).1 hx) fun x hx => (h.sab x (.inr hx)).1, h.B.fr f (fun hx => h.sbp sb (.inl rfl) hx) fun x hx => h.sbp x (.inr hx), h1, h2, h.dj, h.sab, h.sbp, h.lo,
    Fr.news h.fr f fun x hx => h.lo x (.inl hx), h.tz⟩
/-- the pool and slab A have turned -/
theorem Two.turned (h : Two w0 w b bu bd sa sb ga gb ca cb la lb p) {p' : Pool} {la' : List Qr} {ga' : Option Addr} {ca' : Nat} (hP : PoolAt w' b bu bd p') (hA : SlabAt w' sa b ga' ca' la') (f : Fr (OwnS b bu bd sa ga) w w') (hon : ∀ x, On ga' x → On ga x ∨ w.heap.size ≤ x)
    (h1 : Held p' la') (h2 : Held p' lb) (dj : ∀ q ∈ la', ∀ q' ∈ lb, q.f ≠ q'.f) : Two w0 w' b bu bd sa sb ga' gb ca' cb la' lb p' := by
  have hpl := h.pool.lt
  have hbl := h.B.lt
  have hal := h.A.lt
  have hsz := h.fr.size
  have hO : ∀ x, Sb sb gb x → ¬ OwnS b bu bd sa ga x := by
    rintro x hx (h3 | h3 | h3)
    · exact h.sbp x hx h3
    · exact (h.sab x (.inl h3)).2 hx
    · exact (h.sab x (.inr h3)).2 hx
  refine ⟨hP, hA, h.B.fr f (hO sb (.inl rfl)) fun x hx => hO x (.inr hx), h1, h2, dj, ?_, h.sbp, ?_, Fr.news h.fr f ?_, h.tz⟩
  · rintro x (rfl | hx)
    · exact h.sab x (.inl rfl)
    · rcases hon x hx with h3 | h3
      · exact h.sab x (.inr h3)
      · exact ⟨fun h4 => by have := hpl x h4; omega, fun h4 => by have := hbl x h4; omega⟩
  · rintro x (h3 | (h3 | h3) | h3)
    · exact h.lo x (.inl h3)
    · exact h.lo x (.inr (.inl (.inl h3)))
    · rcases hon x h3 with h4 | h4
      · exact h.lo x (.inr (.inl (.inr h4)))
      · omega
    · exact h.lo x (.inr (.inr h3))
  · rintro x (h3 | h3 | h3)
    · exact h.lo x (.inl h3)
    · exact h.lo x (.inr (.inl (.inl h3)))
    · exact h.lo x (.inr (.inl (.inr h3)))
end
/-! ### the plain side -/
theorem ins_mem {f : Nat} : ∀ {l : List Qr} {q : Qr}, q ∈ insq f l → q = Qr.new f ∨ q ∈ l
  | [], q, h => by simp [insq] at h; exact .inl h
  | x :: r, q, h => by
    unfold insq at h
    split at h
    · rcases List.mem_cons.1 h with rfl | h
      · exact .inr (by simp)
      · rcases ins_mem h with h | h
        · exact .inl h
        · exact .inr (by simp [h])
    · rcases List.mem_cons.1 h with rfl | h
      · exact .inl rfl
      · exact .inr h
theorem set_mem_f {l : List Qr} {i : Nat} {q y x : Qr} (hq : l[i]? = some q) (hy : y.f = q.f) (h : x ∈ l.set i y) : ∃ z ∈ l, z.f = x.f := by
  rcases List.mem_or_eq_of_mem_set h with h | rfl
  · exact ⟨x, h, rfl⟩
  · exact ⟨q, List.mem_of_getElem? hq, hy.symm⟩
theorem turned_get (p : Pool) (k : Nat) (fn : Nat → Nat) (x : Nat) (h : k < p.u.length) : (p.turned k fn 1).u.getD x 0 = if x = k then fn (p.u.getD k 0) else p.u.getD x 0 := by
  show (turn p.u k fn 1).getD x 0 = _
  rw [turn_get _ _ _ _ _ (by omega)]
  by_cases e : x = k
  · subst e; rw [if_pos (by omega), if_pos rfl]
  · rw [if_neg (by omega), if_neg e]
theorem STake.held {p p' : Pool} {l l' : List Qr} {r e : Nat} (h : STake p l r e p' l') (hH : Held p l) : Held p' l' ∧ (∀ lb, Held p lb → Held p' lb) ∧ ∀ lb, Held p lb → (∀ q ∈ l, ∀ q' ∈ lb, q.f ≠ q'.f) → ∀ q ∈ l', ∀ q' ∈ lb, q.f ≠ q'.f := by
  cases h with
  | old i k q hq hk h0 h1 h2 =>
    refine ⟨fun x hx => ?_, fun lb h => h, fun lb _ hd x hx y hy => ?_⟩
    · obtain ⟨z, hz, e⟩ := set_mem_f (y := q.set k true) hq rfl hx
      rw [← e]; exact hH z hz
    · obtain ⟨z, hz, e⟩ := set_mem_f (y := q.set k true) hq rfl hx
      rw [← e]; exact hd z hz y hy
  | none => exact ⟨hH, fun lb h => h, fun lb _ hd => hd⟩
  | fresh h a hf hl =>
    have ha : a < p.u.length := by have := hf.2.1; omega
    have hz : p.u.getD a 0 = 0 := hf.2.2 a (Nat.le_refl _) (by omega)
    have keep : ∀ lb, Held p lb → Held (p.turned a (fun _ => 1) 1) lb := by
      intro lb hb q hq
      obtain ⟨h1, h2, h3⟩ := hb q hq
      refine ⟨h1, by simp only [Pool.turned, turn_len]; exact h2, ?_⟩
      show 0 < (p.turned a (fun _ => 1) 1).u.getD (q.f - p.first) 0
      rw [turned_get _ _ _ _ ha]; split <;> omega
    refine ⟨fun q hq => ?_, keep, fun lb hb hd q hq q' hq' e => ?_⟩
    · rcases ins_mem hq with rfl | hq
      · refine ⟨Nat.le_add_right _ _, by simp only [Pool.turned, turn_len, Qr.new]; omega, ?_⟩
        show 0 < (p.turned a (fun _ => 1) 1).u.getD (p.first + a - p.first) 0
        rw [turned_get _ _ _ _ ha, if_pos (by omega)]; omega
      · exact keep l hH q hq
    · rcases ins_mem hq with rfl | hq
      · obtain ⟨h1, h2, h3⟩ := hb q' hq'
        have e2 : p.first + a = q'.f := e
        rw [← e2, Nat.add_sub_cancel_left] at h3
        omega
      · exact hd q hq q' hq' e
theorem cut_mem {l : List Qr} {i : Nat} {x : Qr} (h : x ∈ l.take i ++ l.drop (i + 1)) : x ∈ l := by
  rw [← List.eraseIdx_eq_take_drop_succ] at h; exact List.mem_of_mem_eraseIdx h
theorem cut_ne {l : List Qr} {i : Nat} {q x : Qr} (hr : l.Pairwise fun a b => a.f < b.f) (hq : l[i]? = some q) (h : x ∈ l.take i ++ l.drop (i + 1)) : x.f ≠ q.f := by
  obtain ⟨hi, rfl⟩ := List.getElem?_eq_some_iff.1 hq
  rcases List.mem_append.1 h with h | h
  · obtain ⟨j, hj, rfl⟩ := List.getElem_of_mem h
    rw [List.length_take] at hj
    have := List.pairwise_iff_getElem.1 hr j i (by omega) hi (by omega)
    rw [List.getElem_take]; omega
  · obtain ⟨j, hj, rfl⟩ := List.getElem_of_mem h
    rw [List.length_drop] at hj
    have := List.pairwise_iff_getElem.1 hr i (i + 1 + j) hi (by omega) (by omega)
    rw [List.getElem_drop]; omega
theorem SDrop.held {p p' : Pool} {l l' : List Qr} {t : Int} {e : Nat} (h : SDrop p l t e p' l') (hO : SlabOk l) (hH : Held p l) : Held p' l' ∧ (∀ lb, Held p lb → (∀ q ∈ l, ∀ q' ∈ lb, q.f ≠ q'.f) → Held p' lb) ∧ ∀ lb : List Qr, (∀ q ∈ l, ∀ q' ∈ lb, q.f ≠ q'.f) → ∀ q ∈ l', ∀ q' ∈ lb, q.f ≠ q'.f := by
  cases h with
  | none => exact ⟨hH, fun lb h _ => h, fun lb hd => hd⟩
  | more i k q hq hk hu ht hm =>
    refine ⟨fun x hx => ?_, fun lb h _ => h, fun lb hd x hx y hy => ?_⟩
    · obtain ⟨z, hz, e⟩ := set_mem_f (y := q.set k false) hq rfl hx
      rw [← e]; exact hH z hz
    · obtain ⟨z, hz, e⟩ := set_mem_f (y := q.set k false) hq rfl hx
      rw [← e]; exact hd z hz y hy
  | last i k q hq hk hu ht hm =>
    have hqm := List.mem_of_getElem? hq
    obtain ⟨a1, a2, a3⟩ := hH q hqm
    have keep : ∀ lb, Held p lb → (∀ x ∈ lb, x.f ≠ q.f) → Held (p.turned (q.f - p.first) (· - 1) 1) lb := by
      intro lb hb hn x hx
      obtain ⟨h1, h2, h3⟩ := hb x hx
      refine ⟨h1, by simp only [Pool.turned, turn_len]; exact h2, ?_⟩
      show 0 < (p.turned (q.f - p.first) (· - 1) 1).u.getD (x.f - p.first) 0
      rw [turned_get _ _ _ _ (by omega), if_neg (by have := hn x hx; omega)]; exact h3
    refine ⟨keep _ (fun x hx => hH x (cut_mem hx)) fun x hx => cut_ne hO.rise hq hx, fun lb hb hd => keep lb hb fun x hx e => hd q hqm x hx e.symm, fun lb hd x hx y hy => hd x (cut_mem hx) y hy⟩
/-! ### the calls -/
theorem Two.take {w0 w : World} {b bu bd sa sb : Nat} {ga gb : Option Addr} {ca cb : Nat} {la lb : List Qr} {p : Pool} (h : Two w0 w b bu bd sa sb ga gb ca cb la lb p) :
    Ret prog 30 #[.pointer (some ⟨sa, 0, none⟩)] w fun v w' => ∃ (r e : Nat) (p' : Pool) (la' : List Qr) (ga' : Option Addr) (ca' : Nat), v = .tuple #[.int .i64 (r : Int), .int .i64 (e : Int)] ∧ STake p la r e p' la' ∧ Two w0 w' b bu bd sa sb ga' gb ca' cb la' lb p' ∧ Fr (OwnS b bu bd sa ga) w w' := by
  refine Ret.use (f30 h.pool h.tz' h.z.1 h.A h.hA (h.sab sa (.inl rfl)).1 fun x hx => (h.sab x (.inr hx)).1) ?_
  rintro v w' ⟨r, e, p', l', g', c', rfl, hst, hP, hS, hf, hon⟩
  obtain ⟨h1, h2, h3⟩ := hst.held h.hA
  exact ⟨r, e, p', l', g', c', rfl, hst, h.turned hP hS hf hon h1 (h2 lb h.hB) (h3 lb h.hB h.dj), hf⟩
theorem Two.drop {w0 w : World} {b bu bd sa sb : Nat} {ga gb : Option Addr} {ca cb : Nat} {la lb : List Qr} {p : Pool} (h : Two w0 w b bu bd sa sb ga gb ca cb la lb p) (t : Int) (ht : I64 t) :
    Ret prog 33 #[.pointer (some ⟨sa, 0, none⟩), .int .i64 t] w fun v w' => ∃ (e : Nat) (p' : Pool) (la' : List Qr) (ga' : Option Addr) (ca' : Nat), v = .int .i64 (e : Int) ∧ SDrop p la t e p' la' ∧ Two w0 w' b bu bd sa sb ga' gb ca' cb la' lb p' ∧ Fr (OwnS b bu bd sa ga) w w' := by
  refine Ret.use (f33 h.pool h.tz' (fun hx => ?_) h.A h.hA (h.sab sa (.inl rfl)).1 (fun x hx => (h.sab x (.inr hx)).1) t ht) ?_
  · obtain ⟨z1, z2, _⟩ := h.z
    rcases hx with hx | hx | hx
    · exact z1 hx
    · exact z2 (.inl hx)
    · exact z2 (.inr hx)
  rintro v w' ⟨e, p', l', g', c', rfl, hst, hP, hS, hf, hon⟩
  obtain ⟨h1, h2, h3⟩ := hst.held h.A.ok h.hA
  exact ⟨e, p', l', g', c', rfl, hst, h.turned hP hS hf hon h1 (h2 lb h.hB h.dj) (h3 lb h.dj), hf⟩
end Go.Proofs.YthpodlcbikialaaDoor
