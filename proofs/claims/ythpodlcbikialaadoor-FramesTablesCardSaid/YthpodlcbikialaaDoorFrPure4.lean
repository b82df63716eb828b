import Derived.Test.YthpodlcbikialaaDoorFrPure3
namespace Go.Fr
/-- the greatest runs of free places, from a free place on (or the end) -/
def runs (u : List Nat) (a : Nat) : List (Nat × Nat) :=
  if h : a < u.length ∧ a < next u false (next u true a) then (a, next u true a - a) :: runs u (next u false (next u true a)) else []
termination_by u.length - a
theorem next_lt {u : List Nat} {a : Nat} (h : a < u.length) (h0 : u[a] = 0) : a < next u true a ∧ next u true a ≤ next u false (next u true a) ∧ next u false (next u true a) ≤ u.length := by
  obtain ⟨t1, t2, t3, t4⟩ := next_spec u true a
  obtain ⟨s1, s2, s3, s4⟩ := next_spec u false (next u true a)
  refine ⟨?_, s2 t1, s1⟩
  rcases Nat.lt_or_ge a (next u true a) with h1 | h1
  · exact h1
  · have h2 := t2 (by omega)
    have e : next u true a = a := by omega
    have := t3 (by omega)
    simp only [e] at this
    simp [h0] at this
theorem runs_cons {u : List Nat} {a : Nat} (h : a < u.length) (h0 : u[a] = 0) : runs u a = (a, next u true a - a) :: runs u (next u false (next u true a)) := by
  obtain ⟨h1, h2, _⟩ := next_lt h h0
  rw [runs, dif_pos ⟨h, by omega⟩]
theorem runs_end {u : List Nat} {a : Nat} (h : u.length ≤ a) : runs u a = [] := by
  rw [runs, dif_neg (by omega)]
theorem next_free {u : List Nat} {a : Nat} (h : next u false a < u.length) : u[next u false a] = 0 := by
  have := (next_spec u false a).2.2.1 h
  simpa using this
theorem runs_len (u : List Nat) (a : Nat) : (runs u a).length ≤ u.length - a := by
  fun_induction runs u a with
  | case1 a h ih => simp only [List.length_cons]; omega
  | case2 a h => simp
end Go.Fr
