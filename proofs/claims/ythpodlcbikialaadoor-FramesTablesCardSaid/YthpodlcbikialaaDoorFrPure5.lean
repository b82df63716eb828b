import Derived.Test.YthpodlcbikialaaDoorFrPure4
set_option linter.unusedVariables false
namespace Go.Fr
/-! ## the runs of a pool -/
def zeros (u : List Nat) : Nat := u.countP (· = 0)
theorem countP_all {l : List Nat} (h : ∀ x ∈ l, x = 0) : l.countP (· = 0) = l.length := by
  rw [List.countP_eq_length]; intro x hx; simpa using h x hx
theorem countP_none {l : List Nat} (h : ∀ x ∈ l, x ≠ 0) : l.countP (· = 0) = 0 := by
  rw [List.countP_eq_zero]; intro x hx; simpa using h x hx
theorem drop_split (u : List Nat) {a b : Nat} (h : a ≤ b) : u.drop a = (u.drop a).take (b - a) ++ u.drop b := by
  have := List.take_append_drop (b - a) (u.drop a)
  rw [List.drop_drop, show a + (b - a) = b by omega] at this
  exact this.symm
theorem mem_seg {u : List Nat} {a n x : Nat} (h : x ∈ (u.drop a).take n) : ∃ i, a ≤ i ∧ i < a + n ∧ ∃ hi : i < u.length, u[i] = x := by
  obtain ⟨j, hj, rfl⟩ := List.getElem_of_mem h
  rw [List.length_take, List.length_drop] at hj
  refine ⟨a + j, by omega, by omega, by omega, ?_⟩
  simp
theorem zeros_seg {u : List Nat} {a b : Nat} (h : a ≤ b) (hb : b ≤ u.length) (hz : ∀ i, a ≤ i → i < b → ∀ hi : i < u.length, u[i] = 0) : zeros (u.drop a) = (b - a) + zeros (u.drop b) := by
  unfold zeros
  rw [drop_split u h, List.countP_append, countP_all, List.length_take, List.length_drop]
  · omega
  · intro x hx
    obtain ⟨i, h1, h2, hi, rfl⟩ := mem_seg hx
    exact hz i h1 (by omega) hi
theorem zeros_none {u : List Nat} {a b : Nat} (h : a ≤ b) (hz : ∀ i, a ≤ i → i < b → ∀ hi : i < u.length, u[i] ≠ 0) : zeros (u.drop a) = zeros (u.drop b) := by
  unfold zeros
  rw [drop_split u h, List.countP_append, countP_none]
  · omega
  · intro x hx
    obtain ⟨i, h1, h2, hi, rfl⟩ := mem_seg hx
    exact hz i h1 (by omega) hi
theorem next_zero {u : List Nat} {a : Nat} : ∀ i, a ≤ i → i < next u true a → ∀ hi : i < u.length, u[i] = 0 := by
  intro i h1 h2 hi
  have := (next_spec u true a).2.2.2 i h1 h2 hi
  have h5 : ¬ 0 < u[i] := by simpa using this
  omega
theorem next_used {u : List Nat} {a : Nat} : ∀ i, a ≤ i → i < next u false a → ∀ hi : i < u.length, u[i] ≠ 0 := by
  intro i h1 h2 hi
  have := (next_spec u false a).2.2.2 i h1 h2 hi
  have h5 : ¬ u[i] = 0 := by simpa using this
  exact h5
theorem next_gap {u : List Nat} {a : Nat} (h : next u true a < u.length) : next u true a < next u false (next u true a) := by
  obtain ⟨t1, t2, t3, t4⟩ := next_spec u true a
  obtain ⟨s1, s2, s3, s4⟩ := next_spec u false (next u true a)
  have h1 := s2 t1
  rcases Nat.lt_or_ge (next u true a) (next u false (next u true a)) with h2 | h2
  · exact h2
  · have e : next u false (next u true a) = next u true a := by omega
    have h3 := t3 h
    have h4 := s3 (by omega)
    simp only [e] at h4
    rw [h3] at h4; cases h4
structure RunsOk (u : List Nat) (a : Nat) (R : List (Nat × Nat)) : Prop where
  each : ∀ r ∈ R, 1 ≤ r.2 ∧ a ≤ r.1 ∧ r.1 + r.2 ≤ u.length ∧ ∀ y, r.1 ≤ y → y < r.1 + r.2 → u.getD y 0 = 0
  rise : R.Pairwise fun r s => r.1 + r.2 < s.1
  sum : (R.map (·.2)).sum = zeros (u.drop a)
theorem runs_ok (u : List Nat) : ∀ (d a : Nat), u.length - a ≤ d → a ≤ u.length → (∀ h : a < u.length, u[a] = 0) → RunsOk u a (runs u a)
  | d, a, hd, ha, h0 => by
    by_cases hl : a < u.length
    · obtain ⟨n1, n2, n3⟩ := next_lt hl (h0 hl)
      rw [runs_cons hl (h0 hl)]
      cases d with
      | zero => omega
      | succ d =>
        have ih := runs_ok u d (next u false (next u true a)) (by omega) n3 (fun h => next_free h)
        have hz : ∀ y, a ≤ y → y < next u true a → u.getD y 0 = 0 := by
          intro y h1 h2
          have hy : y < u.length := by have := (next_spec u true a).1; omega
          rw [getD_get hy]; exact next_zero y h1 h2 hy
        have t1 := (next_spec u true a).1
        refine ⟨fun r hr => ?_, List.pairwise_cons.2 ⟨fun r hr => ?_, ih.rise⟩, ?_⟩
        · rcases List.mem_cons.1 hr with rfl | hr
          · exact ⟨by show 1 ≤ next u true a - a; omega, Nat.le_refl _, by show a + (next u true a - a) ≤ _; omega, fun y h1 h2 => hz y h1 (by have : y < a + (next u true a - a) := h2; omega)⟩
          · obtain ⟨e1, e2, e3, e4⟩ := ih.each r hr
            exact ⟨e1, by omega, e3, e4⟩
        · obtain ⟨e1, e2, e3, e4⟩ := ih.each r hr
          show a + (next u true a - a) < r.1
          have hlt : next u true a < u.length := by omega
          have := next_gap hlt
          omega
        · simp only [List.map_cons, List.sum_cons, ih.sum]
          rw [zeros_seg (a := a) (b := next u true a) (by omega) t1 next_zero, zeros_none (a := next u true a) n2 next_used]
    · rw [runs_end (by omega)]
      refine ⟨fun r hr => by simp at hr, .nil, ?_⟩
      rw [List.drop_of_length_le (by omega)]; rfl
theorem runs_all (u : List Nat) : RunsOk u 0 (runs u (next u false 0)) ∧ ((runs u (next u false 0)).map (·.2)).sum = zeros u := by
  obtain ⟨s1, s2, s3, s4⟩ := next_spec u false 0
  have h := runs_ok u u.length (next u false 0) (by omega) s1 fun h => next_free h
  have hz : zeros (u.drop 0) = zeros (u.drop (next u false 0)) := zeros_none (by omega) next_used
  refine ⟨⟨fun r hr => ?_, h.rise, by rw [h.sum, hz]⟩, by rw [h.sum, ← hz]; rfl⟩
  obtain ⟨e1, e2, e3, e4⟩ := h.each r hr
  exact ⟨e1, by omega, e3, e4⟩
end Go.Fr
