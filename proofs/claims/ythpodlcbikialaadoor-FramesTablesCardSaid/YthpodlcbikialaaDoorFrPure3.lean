import Derived.Test.YthpodlcbikialaaDoorFrPure2
namespace Go.Fr
/-- the least multiple of al from m on -/
def up (m al : Nat) : Nat := (m + al - 1) / al * al
theorem up_le {m al : Nat} (h : 0 < al) : m ≤ up m al ∧ up m al < m + al := by
  unfold up
  have h1 := Nat.div_add_mod (m + al - 1) al
  have h2 := Nat.mod_lt (m + al - 1) h
  rw [Nat.mul_comm] at h1
  generalize (m + al - 1) / al * al = q at *
  omega
theorem up_mod (m al : Nat) : up m al % al = 0 := by unfold up; exact Nat.mul_mod_left _ _
theorem up_least {m al x : Nat} (h : 0 < al) (hx : x % al = 0) (hm : m ≤ x) : up m al ≤ x := by
  unfold up
  obtain ⟨t, rfl⟩ : ∃ t, x = t * al := ⟨x / al, by rw [Nat.div_mul_cancel (Nat.dvd_of_mod_eq_zero hx)]⟩
  apply Nat.mul_le_mul_right
  have : (m + al - 1) / al < t + 1 := by
    rw [Nat.div_lt_iff_lt_mul h, Nat.add_mul, Nat.one_mul]
    omega
  omega
/-- n free frames from place a on, the first one's number a multiple of al -/
def Fit (first : Nat) (u : List Nat) (n al a : Nat) : Prop := (first + a) % al = 0 ∧ a + n ≤ u.length ∧ ∀ x, a ≤ x → x < a + n → u.getD x 0 = 0
theorem free_at {u : List Nat} {x : Nat} (h : u.getD x 0 = 0) (hx : x < u.length) : decide (0 < u[x]) = false := by
  rw [getD_get hx] at h; simp [h]
/-- one round of the search: what it may conclude -/
theorem fit_round {first n al at0 : Nat} {u : List Nat} (hn : 1 ≤ n) (hal : 0 < al) (hno : ∀ a, a < at0 → ¬ Fit first u n al a) (hat : at0 ≤ u.length) :
    let at1 := next u false at0
    let at2 := up (first + at1) al - first
    at0 ≤ at1 ∧ at1 ≤ at2 ∧ first + at2 = up (first + at1) al ∧ (∀ a, a < at2 → ¬ Fit first u n al a) ∧
    ((at2 ≥ u.length ∨ n > u.length - at2) → ∀ a, ¬ Fit first u n al a) ∧
    (at2 < u.length → n ≤ u.length - at2 → (next u true at2 < at2 + n → next u true at2 < u.length ∧ at2 ≤ next u true at2 ∧ ∀ a, a < next u true at2 + 1 → ¬ Fit first u n al a) ∧
      (at2 + n ≤ next u true at2 → Fit first u n al at2)) := by
  intro at1 at2
  obtain ⟨s1, s2, s3, s4⟩ := next_spec u false at0
  have hup := up_le (m := first + at1) hal
  have h01 : at0 ≤ at1 := s2 hat
  have h12 : at1 ≤ at2 := by omega
  have hf : first + at2 = up (first + at1) al := by omega
  have hlt : ∀ a, a < at2 → ¬ Fit first u n al a := by
    intro a ha hfit
    by_cases h1 : a < at0
    · exact hno a h1 hfit
    · have hal1 : a < u.length := by have := hfit.2.1; omega
      have h2 : at1 ≤ a := by
        rcases Nat.lt_or_ge a at1 with h | h
        · exact absurd (free_at (hfit.2.2 a (Nat.le_refl _) (by omega)) hal1) (s4 a (by omega) h hal1)
        · exact h
      have := up_least hal hfit.1 (show first + at1 ≤ first + a by omega)
      omega
  refine ⟨h01, h12, hf, hlt, fun h a hfit => ?_, fun h1 h2 => ⟨fun h3 => ?_, fun h3 => ?_⟩⟩
  · have := hfit.2.1
    exact hlt a (by omega) hfit
  · obtain ⟨t1, t2, t3, t4⟩ := next_spec u true at2
    have h4 := t2 (by omega)
    refine ⟨by omega, h4, fun a ha hfit => ?_⟩
    by_cases h5 : a < at2
    · exact hlt a h5 hfit
    · have hb : next u true at2 < u.length := by omega
      have := t3 hb
      rw [free_at (hfit.2.2 _ (by omega) (by omega)) hb] at this
      cases this
  · obtain ⟨t1, t2, t3, t4⟩ := next_spec u true at2
    refine ⟨by rw [hf]; exact up_mod _ _, by omega, fun x hx1 hx2 => ?_⟩
    have hx : x < u.length := by omega
    have := t4 x hx1 (by omega) hx
    rw [getD_get hx]
    have h5 : ¬ 0 < u[x] := by simpa using this
    omega
end Go.Fr
