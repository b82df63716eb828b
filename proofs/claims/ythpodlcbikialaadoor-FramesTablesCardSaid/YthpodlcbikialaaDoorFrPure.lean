import Derived.Test.YthpodlcbikialaaDoorShNum
namespace Go.Fr
/-! ## a pool, as plain mathematics: u i is how often frame i is used -/
/-- the first place from i on that is in use (busy), or free; the length, if there is none -/
def next (u : List Nat) (busy : Bool) (i : Nat) : Nat :=
  if h : i < u.length then (if decide (0 < u[i]) = busy then i else next u busy (i + 1)) else u.length
termination_by u.length - i
theorem next_end {u : List Nat} {busy : Bool} {i : Nat} (h : u.length ≤ i) : next u busy i = u.length := by
  rw [next, dif_neg (by omega)]
theorem next_hit {u : List Nat} {busy : Bool} {i : Nat} (h : i < u.length) (hb : decide (0 < u[i]) = busy) : next u busy i = i := by
  rw [next, dif_pos h, if_pos hb]
theorem next_miss {u : List Nat} {busy : Bool} {i : Nat} (h : i < u.length) (hb : decide (0 < u[i]) ≠ busy) : next u busy i = next u busy (i + 1) := by
  rw [next, dif_pos h, if_neg hb]
theorem next_skip {u : List Nat} {busy : Bool} : ∀ (d i : Nat), (∀ t, t < d → ∀ h : i + t < u.length, decide (0 < u[i + t]) ≠ busy) → next u busy i = next u busy (i + d)
  | 0, i, _ => rfl
  | d + 1, i, h => by
    by_cases hi : i < u.length
    · rw [next_miss hi (h 0 (by omega) (by omega)), next_skip d (i + 1) (fun t ht hh => by have := h (t + 1) (by omega) (by omega); simpa [Nat.add_assoc, Nat.add_comm 1 t] using this)]
      congr 1; omega
    · rw [next_end (by omega), next_end (by omega)]
theorem next_spec (u : List Nat) (busy : Bool) (i : Nat) : next u busy i ≤ u.length ∧ (i ≤ u.length → i ≤ next u busy i) ∧ (∀ h : next u busy i < u.length, decide (0 < u[next u busy i]) = busy) ∧
    (∀ j, i ≤ j → j < next u busy i → ∀ h : j < u.length, decide (0 < u[j]) ≠ busy) := by
  fun_induction next u busy i with
  | case1 i h hb => exact ⟨by omega, fun _ => Nat.le_refl _, fun _ => hb, fun j h1 h2 => by omega⟩
  | case2 i h hb ih =>
    obtain ⟨h1, h2, h3, h4⟩ := ih
    refine ⟨h1, fun _ => by have := h2 (by omega); omega, h3, fun j hj hj2 hh => ?_⟩
    by_cases e : j = i
    · subst e; exact hb
    · exact h4 j (by omega) hj2 hh
  | case3 i h => exact ⟨Nat.le_refl _, fun hi => hi, fun hh => absurd hh (by omega), fun j h1 h2 hh => by omega⟩

/-- words of 64 frames: a bit is set where a frame is used -/
structure Bits (u ws : List Nat) : Prop where
  len : ws.length = (u.length + 63) / 64
  lt : ∀ k, (h : k < ws.length) → ws[k] < 2 ^ 64
  bit : ∀ k j, (h : k < ws.length) → j < 64 → (ws[k]).testBit j = decide (0 < u.getD (64 * k + j) 0)
theorem ctz_spec {n x : Nat} (h0 : x ≠ 0) (h : x < 2 ^ n) : x.testBit (Lib.ctz n x) = true ∧ (∀ j, j < Lib.ctz n x → x.testBit j = false) ∧ Lib.ctz n x < n := by
  obtain ⟨m, hm, hk⟩ := Lib.ctzFrom_spec n x (by omega) h
  have e : Lib.ctz n x = Lib.ctzFrom n x := by simp [Lib.ctz, h0]
  rw [e]
  generalize Lib.ctzFrom n x = k at *
  subst hm
  refine ⟨?_, fun j hj => ?_, hk⟩
  · rw [Nat.testBit_two_pow_mul]; simp [Nat.testBit_zero]
  · rw [Nat.testBit_two_pow_mul]; simp; omega

theorem getD_get {u : List Nat} {i : Nat} (h : i < u.length) : u.getD i 0 = u[i] := by simp [List.getD, h]
/-- one word of the search -/
theorem next_word {u ws : List Nat} (hb : Bits u ws) {busy : Bool} {i : Nat} (hi : i < u.length) (hk : i / 64 < ws.length)
    (W : Nat) (hW : W = if busy then ws[i / 64] else 2 ^ 64 - 1 - ws[i / 64]) :
    W < 2 ^ 64 ∧ (W >>> (i % 64) = 0 → next u busy i = next u busy ((i / 64 + 1) * 64)) ∧
    (W >>> (i % 64) ≠ 0 → next u busy i = min (i + Lib.ctz 64 (W >>> (i % 64))) u.length ∧ Lib.ctz 64 (W >>> (i % 64)) < 64) := by
  have hwl := hb.lt _ hk
  have hWl : W < 2 ^ 64 := by subst hW; split <;> omega
  have hbit : ∀ j, j < 64 → W.testBit j = (decide (0 < u.getD (64 * (i / 64) + j) 0) == busy) := by
    intro j hj
    have h1 := hb.bit _ j hk hj
    subst hW
    cases busy with
    | true => simp [h1]
    | false =>
      rw [if_neg (by simp), show 2 ^ 64 - 1 - ws[i / 64] = 2 ^ 64 - (ws[i / 64] + 1) from by omega, Nat.testBit_two_pow_sub_succ hwl, h1]
      simp [hj]
  have hhigh : ∀ j, 64 ≤ j → W.testBit j = false := fun j hj => Nat.testBit_lt_two_pow (Nat.lt_of_lt_of_le hWl (Nat.pow_le_pow_right (by decide) hj))
  have hs : W >>> (i % 64) < 2 ^ 64 := Nat.lt_of_le_of_lt (Nat.shiftRight_le _ _) hWl
  have hsb : ∀ t, (W >>> (i % 64)).testBit t = W.testBit (i % 64 + t) := fun t => Nat.testBit_shiftRight ..
  have hval : ∀ t, i % 64 + t < 64 → (W >>> (i % 64)).testBit t = (decide (0 < u.getD (i + t) 0) == busy) := by
    intro t ht
    rw [hsb, hbit _ ht]
    congr 3
    congr 1
    omega
  have hlt : ∀ t, (W >>> (i % 64)).testBit t = true → i % 64 + t < 64 := by
    intro t ht
    rcases Nat.lt_or_ge (i % 64 + t) 64 with h | h
    · exact h
    · rw [hsb, hhigh _ h] at ht; cases ht
  refine ⟨hWl, fun h0 => ?_, fun h0 => ?_⟩
  · rw [next_skip (64 - i % 64) i ?_]
    · congr 1; omega
    · intro t ht hh
      have := hval t (by omega)
      rw [h0, Nat.zero_testBit, getD_get hh] at this
      intro e; rw [e] at this; simp at this
  · obtain ⟨c1, c2, c3⟩ := ctz_spec h0 hs
    generalize Lib.ctz 64 (W >>> (i % 64)) = c at *
    have hc := hlt c c1
    refine ⟨?_, c3⟩
    rw [next_skip c i ?_]
    · by_cases hin : i + c < u.length
      · rw [next_hit hin, Nat.min_eq_left (by omega)]
        have := hval c hc
        rw [c1, getD_get hin] at this
        simpa using this.symm
      · rw [next_end (by omega), Nat.min_eq_right (by omega)]
    · intro t ht hh
      have := hval t (by omega)
      rw [c2 t ht, getD_get hh] at this
      intro e; rw [e] at this; simp at this
end Go.Fr
