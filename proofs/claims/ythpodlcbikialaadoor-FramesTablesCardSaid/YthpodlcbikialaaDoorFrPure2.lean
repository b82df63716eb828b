import Derived.Test.YthpodlcbikialaaDoorFrPure
namespace Go.Fr
theorem count_set (u : List Nat) (i n : Nat) (h : i < u.length) :
    (u.set i n).countP (· = 0) + (if u[i] = 0 then 1 else 0) = u.countP (· = 0) + (if n = 0 then 1 else 0) := by
  induction u generalizing i with
  | nil => simp at h
  | cons x r ih =>
    cases i with
    | zero => simp only [List.set_cons_zero, List.countP_cons, List.getElem_cons_zero, decide_eq_true_eq]; omega
    | succ i =>
      have := ih i (by simpa using h)
      simp only [List.set_cons_succ, List.countP_cons, List.getElem_cons_succ, decide_eq_true_eq] at *
      omega
theorem getD_set (u : List Nat) (i n j : Nat) (h : i < u.length) : (u.set i n).getD j 0 = if i = j then n else u.getD j 0 := by
  simp only [List.getD, List.getElem?_set]
  by_cases e : i = j
  · subst e; simp [h]
  · simp [e]
theorem Bits.same {u v ws : List Nat} (hb : Bits u ws) (hl : v.length = u.length) (h : ∀ j, decide (0 < v.getD j 0) = decide (0 < u.getD j 0)) : Bits v ws :=
  ⟨by rw [hb.len, hl], hb.lt, fun k j hk hj => by rw [hb.bit k j hk hj, h]⟩
theorem one_shl_testBit (s j : Nat) : (1 <<< s).testBit j = decide (s = j) := by
  rw [Nat.shiftLeft_eq, Nat.one_mul, Nat.testBit_two_pow]
theorem one_shl_lt {s : Nat} (h : s < 64) : 1 <<< s < 2 ^ 64 := by
  rw [Nat.shiftLeft_eq, Nat.one_mul]; exact Nat.pow_lt_pow_right (by decide) h
theorem Bits.setPos {u ws : List Nat} (hb : Bits u ws) {i n : Nat} (hi : i < u.length) (hk : i / 64 < ws.length) (hn : 0 < n) :
    Bits (u.set i n) (ws.set (i / 64) (ws[i / 64] ||| 1 <<< (i % 64))) := by
  refine ⟨by simp [hb.len], fun k h => ?_, fun k j h hj => ?_⟩
  · rw [List.getElem_set]
    have h0 := hb.lt k (by simpa using h)
    split
    · exact Nat.or_lt_two_pow (hb.lt _ hk) (one_shl_lt (by omega))
    · exact h0
  · rw [List.getElem_set, getD_set _ _ _ _ hi]
    have hk' : k < ws.length := by simpa using h
    have h0 := hb.bit k j hk' hj
    split
    · rename_i e
      subst e
      rw [Nat.testBit_or, h0, one_shl_testBit]
      by_cases e2 : i % 64 = j
      · rw [if_pos (by omega)]; simp [e2, hn]
      · rw [if_neg (by omega)]; simp [e2]
    · rename_i e
      rw [h0, if_neg (by omega)]
theorem Bits.setZero {u ws : List Nat} (hb : Bits u ws) {i : Nat} (hi : i < u.length) (hk : i / 64 < ws.length) :
    Bits (u.set i 0) (ws.set (i / 64) (ws[i / 64] &&& (2 ^ 64 - 1 - 1 <<< (i % 64)))) := by
  have hs : 1 <<< (i % 64) < 2 ^ 64 := one_shl_lt (by omega)
  refine ⟨by simp [hb.len], fun k h => ?_, fun k j h hj => ?_⟩
  · rw [List.getElem_set]
    have h0 := hb.lt k (by simpa using h)
    split
    · exact Nat.lt_of_le_of_lt Nat.and_le_left (hb.lt _ hk)
    · exact h0
  · rw [List.getElem_set, getD_set _ _ _ _ hi]
    have hk' : k < ws.length := by simpa using h
    have h0 := hb.bit k j hk' hj
    split
    · rename_i e
      subst e
      rw [Nat.testBit_and, h0, show 2 ^ 64 - 1 - 1 <<< (i % 64) = 2 ^ 64 - (1 <<< (i % 64) + 1) from by omega, Nat.testBit_two_pow_sub_succ hs, one_shl_testBit]
      by_cases e2 : i % 64 = j
      · rw [if_pos (by omega)]; simp [e2]
      · rw [if_neg (by omega)]; simp [e2, hj]
    · rename_i e
      rw [h0, if_neg (by omega)]
end Go.Fr
