import Derived.Test.YthpodlcbikialaaDoorShAll
set_option linter.unusedVariables false
set_option linter.unusedSimpArgs false
namespace Go.Fr
/-! ## a pool, as plain mathematics: u i is how often frame i is used -/
/-- the first place from i on that is in use (busy), or free; the length, if there is none -/
def next (u : List Nat) (busy : Bool) (i : Nat) : Nat :=
  if h : i < u.length then (if decide (0 < u[i]) = busy then i else next u busy (i + 1)) else u.length
termination_by u.length - i
theorem next_end {u : List Nat} {busy : Bool} {i : Nat} (h : u.length ≤ i) : next u busy i = u.length := by
  rw [next, dif_neg (by omega)]
theorem next_hit {u : List Nat} {busy : Bool} {i : Nat} (h : i < u.length) (hb : decide (0 < u[i]) = busy) : next u busy i = i := by
  rw [next, dif_pos h, if_pos hb]
theorem next_miss {u : List Nat} {busy : Bool} {i : Nat} (h : i < u.length) (hb : decide (0 < u[i]) ≠ busy) : next u busy i = next u busy (i + 1) := by
  rw [next, dif_pos h, if_neg hb]
theorem next_skip {u : List Nat} {busy : Bool} : ∀ (d i : Nat), (∀ t, t < d → ∀ h : i + t < u.length, decide (0 < u[i + t]) ≠ busy) → next u busy i = next u busy (i + d)
  | 0, i, _ => rfl
  | d + 1, i, h => by
    by_cases hi : i < u.length
    · rw [next_miss hi (h 0 (by omega) (by omega)), next_skip d (i + 1) (fun t ht hh => by have := h (t + 1) (by omega) (by omega); simpa [Nat.add_assoc, Nat.add_comm 1 t] using this)]
      congr 1; omega
    · rw [next_end (by omega), next_end (by omega)]
theorem next_spec (u : List Nat) (busy : Bool) (i : Nat) : next u busy i ≤ u.length ∧ (i ≤ u.length → i ≤ next u busy i) ∧ (∀ h : next u busy i < u.length, decide (0 < u[next u busy i]) = busy) ∧
    (∀ j, i ≤ j → j < next u busy i → ∀ h : j < u.length, decide (0 < u[j]) ≠ busy) := by
  fun_induction next u busy i with
  | case1 i h hb => exact ⟨by omega, fun _ => Nat.le_refl _, fun _ => hb, fun j h1 h2 => by omega⟩
  | case2 i h hb ih =>
    obtain ⟨h1, h2, h3, h4⟩ := ih
    refine ⟨h1, fun _ => by have := h2 (by omega); omega, h3, fun j hj hj2 hh => ?_⟩
    by_cases e : j = i
    · subst e; exact hb
    · exact h4 j (by omega) hj2 hh
  | case3 i h => exact ⟨Nat.le_refl _, fun hi => hi, fun hh => absurd hh (by omega), fun j h1 h2 hh => by omega⟩

/-- words of 64 frames: a bit is set where a frame is used -/
structure Bits (u ws : List Nat) : Prop where
  len : ws.length = (u.length + 63) / 64
  lt : ∀ k, (h : k < ws.length) → ws[k] < 2 ^ 64
  bit : ∀ k j, (h : k < ws.length) → j < 64 → (ws[k]).testBit j = decide (0 < u.getD (64 * k + j) 0)
theorem ctz_spec {n x : Nat} (h0 : x ≠ 0) (h : x < 2 ^ n) : x.testBit (Lib.ctz n x) = true ∧ (∀ j, j < Lib.ctz n x → x.testBit j = false) ∧ Lib.ctz n x < n := by
  obtain ⟨m, hm, hk⟩ := Lib.ctzFrom_spec n x (by omega) h
  have e : Lib.ctz n x = Lib.ctzFrom n x := by simp [Lib.ctz, h0]
  rw [e]
  generalize Lib.ctzFrom n x = k at *
  subst hm
  refine ⟨?_, fun j hj => ?_, hk⟩
  · rw [Nat.testBit_two_pow_mul]; simp [Nat.testBit_zero]
  · rw [Nat.testBit_two_pow_mul]; simp; omega

theorem getD_get {u : List Nat} {i : Nat} (h : i < u.length) : u.getD i 0 = u[i] := by simp [List.getD, h]
/-- one word of the search -/
theorem next_word {u ws : List Nat} (hb : Bits u ws) {busy : Bool} {i : Nat} (hi : i < u.length) (hk : i / 64 < ws.length)
    (W : Nat) (hW : W = if busy then ws[i / 64] else 2 ^ 64 - 1 - ws[i / 64]) :
    W < 2 ^ 64 ∧ (W >>> (i % 64) = 0 → next u busy i = next u busy ((i / 64 + 1) * 64)) ∧
    (W >>> (i % 64) ≠ 0 → next u busy i = min (i + Lib.ctz 64 (W >>> (i % 64))) u.length ∧ Lib.ctz 64 (W >>> (i % 64)) < 64) := by
  have hwl := hb.lt _ hk
  have hWl : W < 2 ^ 64 := by subst hW; split <;> omega
  have hbit : ∀ j, j < 64 → W.testBit j = (decide (0 < u.getD (64 * (i / 64) + j) 0) == busy) := by
    intro j hj
    have h1 := hb.bit _ j hk hj
    subst hW
    cases busy with
    | true => simp [h1]
    | false =>
      rw [if_neg (by simp), show 2 ^ 64 - 1 - ws[i / 64] = 2 ^ 64 - (ws[i / 64] + 1) from by omega, Nat.testBit_two_pow_sub_succ hwl, h1]
      simp [hj]
  have hhigh : ∀ j, 64 ≤ j → W.testBit j = false := fun j hj => Nat.testBit_lt_two_pow (Nat.lt_of_lt_of_le hWl (Nat.pow_le_pow_right (by decide) hj))
  have hs : W >>> (i % 64) < 2 ^ 64 := Nat.lt_of_le_of_lt (Nat.shiftRight_le _ _) hWl
  have hsb : ∀ t, (W >>> (i % 64)).testBit t = W.testBit (i % 64 + t) := fun t => Nat.testBit_shiftRight ..
  have hval : ∀ t, i % 64 + t < 64 → (W >>> (i % 64)).testBit t = (decide (0 < u.getD (i + t) 0) == busy) := by
    intro t ht
    rw [hsb, hbit _ ht]
    congr 3
    congr 1
    omega
  have hlt : ∀ t, (W >>> (i % 64)).testBit t = true → i % 64 + t < 64 := by
    intro t ht
    rcases Nat.lt_or_ge (i % 64 + t) 64 with h | h
    · exact h
    · rw [hsb, hhigh _ h] at ht; cases ht
  refine ⟨hWl, fun h0 => ?_, fun h0 => ?_⟩
  · rw [next_skip (64 - i % 64) i ?_]
    · congr 1; omega
    · intro t ht hh
      have := hval t (by omega)
      rw [h0, Nat.zero_testBit, getD_get hh] at this
      intro e; rw [e] at this; simp at this
  · obtain ⟨c1, c2, c3⟩ := ctz_spec h0 hs
    generalize Lib.ctz 64 (W >>> (i % 64)) = c at *
    have hc := hlt c c1
    refine ⟨?_, c3⟩
    rw [next_skip c i ?_]
    · by_cases hin : i + c < u.length
      · rw [next_hit hin, Nat.min_eq_left (by omega)]
        have := hval c hc
        rw [c1, getD_get hin] at this
        simpa using this.symm
      · rw [next_end (by omega), Nat.min_eq_right (by omega)]
    · intro t ht hh
      have := hval t (by omega)
      rw [c2 t ht, getD_get hh] at this
      intro e; rw [e] at this; simp at this
end Go.Fr

namespace Go.Fr
theorem count_set (u : List Nat) (i n : Nat) (h : i < u.length) :
    (u.set i n).countP (· = 0) + (if u[i] = 0 then 1 else 0) = u.countP (· = 0) + (if n = 0 then 1 else 0) := by
  induction u generalizing i with
  | nil => simp at h
  | cons x r ih =>
    cases i with
    | zero => simp only [List.set_cons_zero, List.countP_cons, List.getElem_cons_zero, decide_eq_true_eq]; omega
    | succ i =>
      have := ih i (by simpa using h)
      simp only [List.set_cons_succ, List.countP_cons, List.getElem_cons_succ, decide_eq_true_eq] at *
      omega
theorem getD_set (u : List Nat) (i n j : Nat) (h : i < u.length) : (u.set i n).getD j 0 = if i = j then n else u.getD j 0 := by
  simp only [List.getD, List.getElem?_set]
  by_cases e : i = j
  · subst e; simp [h]
  · simp [e]
theorem Bits.same {u v ws : List Nat} (hb : Bits u ws) (hl : v.length = u.length) (h : ∀ j, decide (0 < v.getD j 0) = decide (0 < u.getD j 0)) : Bits v ws :=
  ⟨by rw [hb.len, hl], hb.lt, fun k j hk hj => by rw [hb.bit k j hk hj, h]⟩
theorem one_shl_testBit (s j : Nat) : (1 <<< s).testBit j = decide (s = j) := by
  rw [Nat.shiftLeft_eq, Nat.one_mul, Nat.testBit_two_pow]
theorem one_shl_lt {s : Nat} (h : s < 64) : 1 <<< s < 2 ^ 64 := by
  rw [Nat.shiftLeft_eq, Nat.one_mul]; exact Nat.pow_lt_pow_right (by decide) h
theorem Bits.setPos {u ws : List Nat} (hb : Bits u ws) {i n : Nat} (hi : i < u.length) (hk : i / 64 < ws.length) (hn : 0 < n) :
    Bits (u.set i n) (ws.set (i / 64) (ws[i / 64] ||| 1 <<< (i % 64))) := by
  refine ⟨by simp [hb.len], fun k h => ?_, fun k j h hj => ?_⟩
  · rw [List.getElem_set]
    have h0 := hb.lt k (by simpa using h)
    split
    · exact Nat.or_lt_two_pow (hb.lt _ hk) (one_shl_lt (by omega))
    · exact h0
  · rw [List.getElem_set, getD_set _ _ _ _ hi]
    have hk' : k < ws.length := by simpa using h
    have h0 := hb.bit k j hk' hj
    split
    · rename_i e
      subst e
      rw [Nat.testBit_or, h0, one_shl_testBit]
      by_cases e2 : i % 64 = j
      · rw [if_pos (by omega)]; simp [e2, hn]
      · rw [if_neg (by omega)]; simp [e2]
    · rename_i e
      rw [h0, if_neg (by omega)]
theorem Bits.setZero {u ws : List Nat} (hb : Bits u ws) {i : Nat} (hi : i < u.length) (hk : i / 64 < ws.length) :
    Bits (u.set i 0) (ws.set (i / 64) (ws[i / 64] &&& (2 ^ 64 - 1 - 1 <<< (i % 64)))) := by
  have hs : 1 <<< (i % 64) < 2 ^ 64 := one_shl_lt (by omega)
  refine ⟨by simp [hb.len], fun k h => ?_, fun k j h hj => ?_⟩
  · rw [List.getElem_set]
    have h0 := hb.lt k (by simpa using h)
    split
    · exact Nat.lt_of_le_of_lt Nat.and_le_left (hb.lt _ hk)
    · exact h0
  · rw [List.getElem_set, getD_set _ _ _ _ hi]
    have hk' : k < ws.length := by simpa using h
    have h0 := hb.bit k j hk' hj
    split
    · rename_i e
      subst e
      rw [Nat.testBit_and, h0, show 2 ^ 64 - 1 - 1 <<< (i % 64) = 2 ^ 64 - (1 <<< (i % 64) + 1) from by omega, Nat.testBit_two_pow_sub_succ hs, one_shl_testBit]
      by_cases e2 : i % 64 = j
      · rw [if_pos (by omega)]; simp [e2]
      · rw [if_neg (by omega)]; simp [e2, hj]
    · rename_i e
      rw [h0, if_neg (by omega)]
end Go.Fr

namespace Go.Fr
/-- the least multiple of al from m on -/
def up (m al : Nat) : Nat := (m + al - 1) / al * al
theorem up_le {m al : Nat} (h : 0 < al) : m ≤ up m al ∧ up m al < m + al := by
  unfold up
  have h1 := Nat.div_add_mod (m + al - 1) al
  have h2 := Nat.mod_lt (m + al - 1) h
  rw [Nat.mul_comm] at h1
  generalize (m + al - 1) / al * al = q at *
  omega
theorem up_mod (m al : Nat) : up m al % al = 0 := by unfold up; exact Nat.mul_mod_left _ _
theorem up_least {m al x : Nat} (h : 0 < al) (hx : x % al = 0) (hm : m ≤ x) : up m al ≤ x := by
  unfold up
  obtain ⟨t, rfl⟩ : ∃ t, x = t * al := ⟨x / al, by rw [Nat.div_mul_cancel (Nat.dvd_of_mod_eq_zero hx)]⟩
  apply Nat.mul_le_mul_right
  have : (m + al - 1) / al < t + 1 := by
    rw [Nat.div_lt_iff_lt_mul h, Nat.add_mul, Nat.one_mul]
    omega
  omega
/-- n free frames from place a on, the first one's number a multiple of al -/
def Fit (first : Nat) (u : List Nat) (n al a : Nat) : Prop := (first + a) % al = 0 ∧ a + n ≤ u.length ∧ ∀ x, a ≤ x → x < a + n → u.getD x 0 = 0
theorem free_at {u : List Nat} {x : Nat} (h : u.getD x 0 = 0) (hx : x < u.length) : decide (0 < u[x]) = false := by
  rw [getD_get hx] at h; simp [h]
/-- one round of the search: what it may conclude -/
theorem fit_round {first n al at0 : Nat} {u : List Nat} (hn : 1 ≤ n) (hal : 0 < al) (hno : ∀ a, a < at0 → ¬ Fit first u n al a) (hat : at0 ≤ u.length) :
    let at1 := next u false at0
    let at2 := up (first + at1) al - first
    at0 ≤ at1 ∧ at1 ≤ at2 ∧ first + at2 = up (first + at1) al ∧ (∀ a, a < at2 → ¬ Fit first u n al a) ∧
    ((at2 ≥ u.length ∨ n > u.length - at2) → ∀ a, ¬ Fit first u n al a) ∧
    (at2 < u.length → n ≤ u.length - at2 → (next u true at2 < at2 + n → next u true at2 < u.length ∧ at2 ≤ next u true at2 ∧ ∀ a, a < next u true at2 + 1 → ¬ Fit first u n al a) ∧
      (at2 + n ≤ next u true at2 → Fit first u n al at2)) := by
  intro at1 at2
  obtain ⟨s1, s2, s3, s4⟩ := next_spec u false at0
  have hup := up_le (m := first + at1) hal
  have h01 : at0 ≤ at1 := s2 hat
  have h12 : at1 ≤ at2 := by omega
  have hf : first + at2 = up (first + at1) al := by omega
  have hlt : ∀ a, a < at2 → ¬ Fit first u n al a := by
    intro a ha hfit
    by_cases h1 : a < at0
    · exact hno a h1 hfit
    · have hal1 : a < u.length := by have := hfit.2.1; omega
      have h2 : at1 ≤ a := by
        rcases Nat.lt_or_ge a at1 with h | h
        · exact absurd (free_at (hfit.2.2 a (Nat.le_refl _) (by omega)) hal1) (s4 a (by omega) h hal1)
        · exact h
      have := up_least hal hfit.1 (show first + at1 ≤ first + a by omega)
      omega
  refine ⟨h01, h12, hf, hlt, fun h a hfit => ?_, fun h1 h2 => ⟨fun h3 => ?_, fun h3 => ?_⟩⟩
  · have := hfit.2.1
    exact hlt a (by omega) hfit
  · obtain ⟨t1, t2, t3, t4⟩ := next_spec u true at2
    have h4 := t2 (by omega)
    refine ⟨by omega, h4, fun a ha hfit => ?_⟩
    by_cases h5 : a < at2
    · exact hlt a h5 hfit
    · have hb : next u true at2 < u.length := by omega
      have := t3 hb
      rw [free_at (hfit.2.2 _ (by omega) (by omega)) hb] at this
      cases this
  · obtain ⟨t1, t2, t3, t4⟩ := next_spec u true at2
    refine ⟨by rw [hf]; exact up_mod _ _, by omega, fun x hx1 hx2 => ?_⟩
    have hx : x < u.length := by omega
    have := t4 x hx1 (by omega) hx
    rw [getD_get hx]
    have h5 : ¬ 0 < u[x] := by simpa using this
    omega
end Go.Fr

namespace Go.Fr
/-- the greatest runs of free places, from a free place on (or the end) -/
def runs (u : List Nat) (a : Nat) : List (Nat × Nat) :=
  if h : a < u.length ∧ a < next u false (next u true a) then (a, next u true a - a) :: runs u (next u false (next u true a)) else []
termination_by u.length - a
theorem next_lt {u : List Nat} {a : Nat} (h : a < u.length) (h0 : u[a] = 0) : a < next u true a ∧ next u true a ≤ next u false (next u true a) ∧ next u false (next u true a) ≤ u.length := by
  obtain ⟨t1, t2, t3, t4⟩ := next_spec u true a
  obtain ⟨s1, s2, s3, s4⟩ := next_spec u false (next u true a)
  refine ⟨?_, s2 t1, s1⟩
  rcases Nat.lt_or_ge a (next u true a) with h1 | h1
  · exact h1
  · have h2 := t2 (by omega)
    have e : next u true a = a := by omega
    have := t3 (by omega)
    simp only [e] at this
    simp [h0] at this
theorem runs_cons {u : List Nat} {a : Nat} (h : a < u.length) (h0 : u[a] = 0) : runs u a = (a, next u true a - a) :: runs u (next u false (next u true a)) := by
  obtain ⟨h1, h2, _⟩ := next_lt h h0
  rw [runs, dif_pos ⟨h, by omega⟩]
theorem runs_end {u : List Nat} {a : Nat} (h : u.length ≤ a) : runs u a = [] := by
  rw [runs, dif_neg (by omega)]
theorem next_free {u : List Nat} {a : Nat} (h : next u false a < u.length) : u[next u false a] = 0 := by
  have := (next_spec u false a).2.2.1 h
  simpa using this
theorem runs_len (u : List Nat) (a : Nat) : (runs u a).length ≤ u.length - a := by
  fun_induction runs u a with
  | case1 a h ih => simp only [List.length_cons]; omega
  | case2 a h => simp
end Go.Fr

set_option linter.unusedVariables false
namespace Go.Fr
/-! ## the runs of a pool -/
def zeros (u : List Nat) : Nat := u.countP (· = 0)
theorem countP_all {l : List Nat} (h : ∀ x ∈ l, x = 0) : l.countP (· = 0) = l.length := by
  rw [List.countP_eq_length]; intro x hx; simpa using h x hx
theorem countP_none {l : List Nat} (h : ∀ x ∈ l, x ≠ 0) : l.countP (· = 0) = 0 := by
  rw [List.countP_eq_zero]; intro x hx; simpa using h x hx
theorem drop_split (u : List Nat) {a b : Nat} (h : a ≤ b) : u.drop a = (u.drop a).take (b - a) ++ u.drop b := by
  have := List.take_append_drop (b - a) (u.drop a)
  rw [List.drop_drop, show a + (b - a) = b by omega] at this
  exact this.symm
theorem mem_seg {u : List Nat} {a n x : Nat} (h : x ∈ (u.drop a).take n) : ∃ i, a ≤ i ∧ i < a + n ∧ ∃ hi : i < u.length, u[i] = x := by
  obtain ⟨j, hj, rfl⟩ := List.getElem_of_mem h
  rw [List.length_take, List.length_drop] at hj
  refine ⟨a + j, by omega, by omega, by omega, ?_⟩
  simp
theorem zeros_seg {u : List Nat} {a b : Nat} (h : a ≤ b) (hb : b ≤ u.length) (hz : ∀ i, a ≤ i → i < b → ∀ hi : i < u.length, u[i] = 0) : zeros (u.drop a) = (b - a) + zeros (u.drop b) := by
  unfold zeros
  rw [drop_split u h, List.countP_append, countP_all, List.length_take, List.length_drop]
  · omega
  · intro x hx
    obtain ⟨i, h1, h2, hi, rfl⟩ := mem_seg hx
    exact hz i h1 (by omega) hi
theorem zeros_none {u : List Nat} {a b : Nat} (h : a ≤ b) (hz : ∀ i, a ≤ i → i < b → ∀ hi : i < u.length, u[i] ≠ 0) : zeros (u.drop a) = zeros (u.drop b) := by
  unfold zeros
  rw [drop_split u h, List.countP_append, countP_none]
  · omega
  · intro x hx
    obtain ⟨i, h1, h2, hi, rfl⟩ := mem_seg hx
    exact hz i h1 (by omega) hi
theorem next_zero {u : List Nat} {a : Nat} : ∀ i, a ≤ i → i < next u true a → ∀ hi : i < u.length, u[i] = 0 := by
  intro i h1 h2 hi
  have := (next_spec u true a).2.2.2 i h1 h2 hi
  have h5 : ¬ 0 < u[i] := by simpa using this
  omega
theorem next_used {u : List Nat} {a : Nat} : ∀ i, a ≤ i → i < next u false a → ∀ hi : i < u.length, u[i] ≠ 0 := by
  intro i h1 h2 hi
  have := (next_spec u false a).2.2.2 i h1 h2 hi
  have h5 : ¬ u[i] = 0 := by simpa using this
  exact h5
theorem next_gap {u : List Nat} {a : Nat} (h : next u true a < u.length) : next u true a < next u false (next u true a) := by
  obtain ⟨t1, t2, t3, t4⟩ := next_spec u true a
  obtain ⟨s1, s2, s3, s4⟩ := next_spec u false (next u true a)
  have h1 := s2 t1
  rcases Nat.lt_or_ge (next u true a) (next u false (next u true a)) with h2 | h2
  · exact h2
  · have e : next u false (next u true a) = next u true a := by omega
    have h3 := t3 h
    have h4 := s3 (by omega)
    simp only [e] at h4
    rw [h3] at h4; cases h4
structure RunsOk (u : List Nat) (a : Nat) (R : List (Nat × Nat)) : Prop where
  each : ∀ r ∈ R, 1 ≤ r.2 ∧ a ≤ r.1 ∧ r.1 + r.2 ≤ u.length ∧ ∀ y, r.1 ≤ y → y < r.1 + r.2 → u.getD y 0 = 0
  rise : R.Pairwise fun r s => r.1 + r.2 < s.1
  sum : (R.map (·.2)).sum = zeros (u.drop a)
theorem runs_ok (u : List Nat) : ∀ (d a : Nat), u.length - a ≤ d → a ≤ u.length → (∀ h : a < u.length, u[a] = 0) → RunsOk u a (runs u a)
  | d, a, hd, ha, h0 => by
    by_cases hl : a < u.length
    · obtain ⟨n1, n2, n3⟩ := next_lt hl (h0 hl)
      rw [runs_cons hl (h0 hl)]
      cases d with
      | zero => omega
      | succ d =>
        have ih := runs_ok u d (next u false (next u true a)) (by omega) n3 (fun h => next_free h)
        have hz : ∀ y, a ≤ y → y < next u true a → u.getD y 0 = 0 := by
          intro y h1 h2
          have hy : y < u.length := by have := (next_spec u true a).1; omega
          rw [getD_get hy]; exact next_zero y h1 h2 hy
        have t1 := (next_spec u true a).1
        refine ⟨fun r hr => ?_, List.pairwise_cons.2 ⟨fun r hr => ?_, ih.rise⟩, ?_⟩
        · rcases List.mem_cons.1 hr with rfl | hr
          · exact ⟨by show 1 ≤ next u true a - a; omega, Nat.le_refl _, by show a + (next u true a - a) ≤ _; omega, fun y h1 h2 => hz y h1 (by have : y < a + (next u true a - a) := h2; omega)⟩
          · obtain ⟨e1, e2, e3, e4⟩ := ih.each r hr
            exact ⟨e1, by omega, e3, e4⟩
        · obtain ⟨e1, e2, e3, e4⟩ := ih.each r hr
          show a + (next u true a - a) < r.1
          have hlt : next u true a < u.length := by omega
          have := next_gap hlt
          omega
        · simp only [List.map_cons, List.sum_cons, ih.sum]
          rw [zeros_seg (a := a) (b := next u true a) (by omega) t1 next_zero, zeros_none (a := next u true a) n2 next_used]
    · rw [runs_end (by omega)]
      refine ⟨fun r hr => by simp at hr, .nil, ?_⟩
      rw [List.drop_of_length_le (by omega)]; rfl
theorem runs_all (u : List Nat) : RunsOk u 0 (runs u (next u false 0)) ∧ ((runs u (next u false 0)).map (·.2)).sum = zeros u := by
  obtain ⟨s1, s2, s3, s4⟩ := next_spec u false 0
  have h := runs_ok u u.length (next u false 0) (by omega) s1 fun h => next_free h
  have hz : zeros (u.drop 0) = zeros (u.drop (next u false 0)) := zeros_none (by omega) next_used
  refine ⟨⟨fun r hr => ?_, h.rise, by rw [h.sum, hz]⟩, by rw [h.sum, ← hz]; rfl⟩
  obtain ⟨e1, e2, e3, e4⟩ := h.each r hr
  exact ⟨e1, by omega, e3, e4⟩
end Go.Fr
