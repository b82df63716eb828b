import Derived.Test.YthpodlcbikialaaDoorC1
set_option linter.unusedVariables false
set_option linter.unusedSimpArgs false
namespace Go.Proofs.YthpodlcbikialaaDoor
open Go Go.Sh Go.Fr

theorem PTake.eq {p p' : Pool} {n al : Int} {r e : Nat} (h : PTake p n al r e p') (hb : ¬ badTake n al) {a : Nat} (hf : Fit p.first p.u n.toNat al.toNat a) (hl : ∀ a', a' < a → ¬ Fit p.first p.u n.toNat al.toNat a') :
    r = p.first + a ∧ e = 0 ∧ p' = p.turned a (fun _ => 1) n.toNat := by
  cases h with
  | bad h => exact absurd h hb
  | none _ hn => exact absurd hf (hn a)
  | ok _ a' hf' hl' =>
    have : a' = a := by
      rcases Nat.lt_trichotomy a' a with h | h | h
      · exact absurd hf' (hl a' h)
      · exact h
      · exact absurd hf (hl' a h)
    subst this; exact ⟨rfl, rfl, rfl⟩
def fitB (first : Nat) (u : List Nat) (n al a : Nat) : Bool := (first + a) % al == 0 && decide (a + n ≤ u.length) && (List.range n).all fun i => u.getD (a + i) 0 == 0
theorem fitB_iff {first n al a : Nat} {u : List Nat} : fitB first u n al a = true ↔ Fit first u n al a := by
  simp only [fitB, Fit, Bool.and_eq_true, beq_iff_eq, decide_eq_true_eq, List.all_eq_true, List.mem_range, and_assoc]
  constructor
  · rintro ⟨h1, h2, h3⟩
    refine ⟨h1, h2, fun x hx hx2 => ?_⟩
    have := h3 (x - a) (by omega)
    rwa [show a + (x - a) = x by omega] at this
  · rintro ⟨h1, h2, h3⟩
    exact ⟨h1, h2, fun i hi => h3 _ (by omega) (by omega)⟩
theorem fit_of {first n al a : Nat} {u : List Nat} (h : (fitB first u n al a && (List.range a).all fun a' => !fitB first u n al a') = true) : Fit first u n al a ∧ ∀ a', a' < a → ¬ Fit first u n al a' := by
  simp only [Bool.and_eq_true, List.all_eq_true, List.mem_range] at h
  refine ⟨fitB_iff.1 h.1, fun a' ha hf => ?_⟩
  have := h.2 a' ha
  rw [fitB_iff.2 hf] at this; cases this
theorem badB {n al : Int} (h : (decide (1 ≤ n) && decide (1 ≤ al) && decide (al ≤ 4096) && pow2B al.toNat) = true) : ¬ badTake n al := by
  simp only [Bool.and_eq_true, decide_eq_true_eq] at h
  unfold badTake
  rw [h.2]
  simp; omega
def pl1 : Pool := (newPool 16 40).turned 0 (fun _ => 1) 1
def pl2 : Pool := pl1.turned 4 (fun _ => 1) 4
def pl3 : Pool := pl2.turned 1 (fun _ => 1) 1
theorem STake.eq_fresh {p p' : Pool} {l' : List Qr} {r e : Nat} (h : STake p [] r e p' l') {a : Nat} (hf : Fit p.first p.u 1 1 a) (hl : ∀ a', a' < a → ¬ Fit p.first p.u 1 1 a') :
    r = 4 * (p.first + a) ∧ e = 0 ∧ p' = p.turned a (fun _ => 1) 1 ∧ l' = [Qr.new (p.first + a)] := by
  cases h with
  | old i k q h => simp at h
  | none _ hn => exact absurd hf (hn a)
  | fresh _ a' hf' hl' =>
    have : a' = a := by
      rcases Nat.lt_trichotomy a' a with h | h | h
      · exact absurd hf' (hl a' h)
      · exact h
      · exact absurd hf (hl' a h)
    subst this; exact ⟨rfl, rfl, rfl, rfl⟩
theorem STake.eq_second {p p' : Pool} {l' : List Qr} {r e f : Nat} (h : STake p [Qr.new f] r e p' l') : r = 4 * f + 1 ∧ e = 0 ∧ p' = p := by
  cases h with
  | old i k q h hk h0 h1 h2 =>
    have hi : i = 0 := by
      rcases i with _ | i
      · rfl
      · simp at h
    subst hi
    simp at h
    subst h
    simp only [Qr.new, decide_eq_false_iff_not, decide_eq_true_eq] at h0 h1
    have hk1 : k = 1 := by
      rcases Nat.lt_or_ge 1 k with h3 | h3
      · exact absurd (h1 1 h3) (by decide)
      · omega
    subst hk1; exact ⟨rfl, rfl, rfl⟩
  | none h _ => exact absurd (h (Qr.new f) (by simp) 1 (by decide)) (by simp [Qr.new])
  | fresh h => exact absurd (h (Qr.new f) (by simp) 1 (by decide)) (by simp [Qr.new])
theorem f13 {w : World} (hT : Tz w) : Ret prog 13 #[] w fun v w' => v = .bool true ∧ Fr0 w w' := by
  have h0 := hT.size
  refine F13_of _ _ ?_
  unfold F13
  refine Ret.use (f41 16 40 (by omega)) ?_
  have hz : newErr 16 40 = 0 := by decide
  rintro v w1 (⟨h, _⟩ | ⟨_, _, _, _, _, b, bu, bd, rfl, hP1, hf1, hb⟩)
  · exact absurd hz h
  replace hP1 : PoolAt w1 b bu bd (newPool 16 40) := hP1
  simp only [AsTup_tuple, UnC_cons, UnN_nil, AsI_int, AsP_pointer]
  refine Ret.use (f14 0) ?_
  rintro v w2 ⟨rfl, hw⟩
  obtain rfl := hw.symm
  rw [AsI_int]
  refine BIf_ne (fun h => absurd rfl h) (fun _ => ?_)
  show BIf false _ _
  rw [BIf_false]
  have hd : ¬ Own b bu bd 0 := by unfold Own; omega
  have hT1 := hT.fr0 hf1
  refine Ret.use (f23' hP1 hT1 hd 1 1 (by decide)) ?_
  rintro v w3 ⟨r3, e3, p3, rfl, ht3, hP3, hf3⟩
  obtain ⟨fa, fb⟩ := fit_of (first := (newPool 16 40).first) (u := (newPool 16 40).u) (n := 1) (al := 1) (a := 0) (by decide +kernel)
  obtain ⟨rfl, rfl, rfl⟩ := ht3.eq (badB (by decide +kernel)) fa fb
  replace hP3 : PoolAt w3 b bu bd pl1 := hP3
  simp only [AsTup_tuple, UnC_cons, UnN_nil, AsI_int]
  have hT3 := hT1.fr hf3 hd
  refine Ret.use (f23' hP3 hT3 hd 4 4 (by decide)) ?_
  rintro v w4 ⟨r4, e4, p4, rfl, ht4, hP4, hf4⟩
  obtain ⟨fa, fb⟩ := fit_of (first := pl1.first) (u := pl1.u) (n := 4) (al := 4) (a := 4) (by decide +kernel)
  obtain ⟨rfl, rfl, rfl⟩ := ht4.eq (badB (by decide +kernel)) fa fb
  replace hP4 : PoolAt w4 b bu bd pl2 := hP4
  simp only [AsTup_tuple, UnC_cons, UnN_nil, AsI_int]
  have hT4 := hT3.fr hf4 hd
  refine Ret.use (f12 b) ?_
  rintro v w5 ⟨rfl, hS5, hf5, hs5⟩
  simp only [AsTup_tuple, UnC_cons, UnN_nil, AsI_int, AsP_pointer]
  refine Ret.use (f14 _) ?_
  rintro v w6 ⟨rfl, hw⟩
  obtain rfl := hw.symm
  rw [AsI_int]
  refine BIf_ne (fun h => absurd rfl h) (fun _ => ?_)
  refine Ret.use (f14 _) ?_
  rintro v w6 ⟨rfl, hw⟩
  obtain rfl := hw.symm
  rw [AsI_int]
  refine BIf_ne (fun h => absurd rfl h) (fun _ => ?_)
  refine Ret.use (f14 _) ?_
  rintro v w6 ⟨rfl, hw⟩
  obtain rfl := hw.symm
  rw [AsI_int]
  refine BIf_ne (fun h => absurd rfl h) (fun _ => ?_)
  show BIf false _ _
  rw [BIf_false]
  refine BIf_ne (fun h => absurd rfl h) (fun _ => ?_)
  refine BIf_ne (fun h => absurd rfl h) (fun _ => ?_)
  have hP5 := hP4.fr0 hf5
  have hT5 := hT4.fr0 hf5
  have l4 := hP4.st.lt; have l4' := hP4.us.lt
  obtain ⟨ws, _, hws⟩ := hP4.ws
  have l4'' := hws.lt
  have hsep : ¬ Own b bu bd w4.heap.size := by unfold Own; omega
  refine Ret.use (f26 hP5) ?_
  rintro v w6 ⟨rfl, hw⟩
  obtain rfl := hw.symm
  rw [AsI_int]
  have hfree : pl2.free = 35 := by decide +kernel
  rw [hfree]
  refine BIf_ne (fun h => absurd rfl h) (fun _ => ?_)
  have hon : ∀ x, On (none : Option Addr) x → ¬ Own b bu bd x := fun x ⟨a, h, _⟩ => by cases h
  refine Ret.use (f30 hP5 hT5 hd hS5 (fun q h => by simp at h) hsep hon) ?_
  rintro v w7 ⟨r7, e7, p7, l7, g7, c7, rfl, hst7, hP7, hS7, hf7, hon7⟩
  obtain ⟨fa, fb⟩ := fit_of (first := pl2.first) (u := pl2.u) (n := 1) (al := 1) (a := 1) (by decide +kernel)
  obtain ⟨rfl, rfl, rfl, rfl⟩ := hst7.eq_fresh fa fb
  replace hP7 : PoolAt w7 b bu bd pl3 := hP7
  replace hS7 : SlabAt w7 w4.heap.size b g7 c7 [Qr.new 17] := hS7
  simp only [AsTup_tuple, UnC_cons, UnN_nil, AsI_int]
  have hd7 : ¬ OwnS b bu bd w4.heap.size none 0 := by
    rintro (h | h | ⟨a, h, _⟩)
    · exact hd h
    · have := hT4.size; omega
    · cases h
  have hT7 := hT5.fr hf7 hd7
  have hle5 := hf5.size
  have hg7 : ∀ x, On g7 x → ¬ Own b bu bd x := by
    intro x hx
    rcases hon7 x hx with ⟨a, h, _⟩ | h
    · cases h
    · unfold Own; omega
  refine Ret.use (f30 hP7 hT7 hd hS7 (fun q h => ?_) hsep hg7) ?_
  · simp at h; subst h
    exact ⟨by decide, by decide +kernel, by decide +kernel⟩
  rintro v w8 ⟨r8, e8, p8, l8, g8, c8, rfl, hst8, hP8, hS8, hf8, hon8⟩
  obtain ⟨rfl, rfl, rfl⟩ := hst8.eq_second
  simp only [AsTup_tuple, UnC_cons, UnN_nil, AsI_int]
  refine Ret.use (f14 _) ?_
  rintro v w9 ⟨rfl, hw⟩
  obtain rfl := hw.symm
  rw [AsI_int]
  refine BIf_eq (fun _ => ?_) (fun h => absurd rfl h)
  refine Ret.use (f14 _) ?_
  rintro v w9 ⟨rfl, hw⟩
  obtain rfl := hw.symm
  rw [AsI_int]
  refine BIf_eq (fun _ => ?_) (fun h => absurd rfl h)
  refine BIf_eq (fun _ => ?_) (fun h => absurd rfl h)
  refine BIf_eq (fun _ => ?_) (fun h => absurd rfl h)
  refine Ret.use (f16 hP8 17 (by decide)) ?_
  rintro v w9 ⟨rfl, hq⟩
  rw [AsI_int]
  have hat : pl3.at_ 17 = 1 := by decide +kernel
  rw [hat]
  refine ⟨rfl, ?_⟩
  have k1 := hf1.size
  have k3 := hf3.size
  have k4 := hf4.size
  have f13 : Fr (fun x => w.heap.size ≤ x) w w4 := (hf1.mono fun _ _ h => h.elim).trans ((hf3.mono fun x _ h => by unfold Own at h; omega).trans (hf4.mono fun x _ h => by unfold Own at h; omega))
  have f5 : Fr (fun x => w.heap.size ≤ x) w w5 := f13.trans (hf5.mono fun _ _ h => h.elim)
  have f7 : Fr (fun x => w.heap.size ≤ x) w w7 := f5.trans (hf7.mono fun x _ h => by
    rcases h with h | h | ⟨a, h, _⟩
    · unfold Own at h; omega
    · omega
    · cases h)
  have f8 : Fr (fun x => w.heap.size ≤ x) w w8 := f7.trans (hf8.mono fun x _ h => by
    rcases h with h | h | h
    · unfold Own at h; omega
    · omega
    · rcases hon7 x h with ⟨a, h, _⟩ | h
      · cases h
      · omega)
  exact (f8.trans hq.fr).mono fun x hx h => by omega
end Go.Proofs.YthpodlcbikialaaDoor
