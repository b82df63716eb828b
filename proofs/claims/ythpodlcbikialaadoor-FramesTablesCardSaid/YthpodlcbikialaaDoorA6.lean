import Derived.Test.YthpodlcbikialaaDoorA5
set_option linter.unusedVariables false
set_option linter.unusedSimpArgs false
namespace Go.Proofs.YthpodlcbikialaaDoor
open Go Go.Sh Go.Fr
/-- what 'run' says where it finds no fault -/
theorem run_ok {p : Pool} {first n : Int} (h : (p.run first n).2 = 0) : 1 ≤ n ∧ (p.first : Int) ≤ first ∧ first + n ≤ p.first + p.u.length ∧ (p.run first n).1 = (first - p.first).toNat ∧
    (∀ x, (first - p.first).toNat ≤ x → x < (first - p.first).toNat + n.toNat → 0 < p.u.getD x 0) := by
  unfold Pool.run at *
  split at h
  · cases h
  rename_i h0
  split at h
  · cases h
  rename_i h1
  split at h
  · cases h
  rename_i h2
  rw [if_neg h0, if_neg h1, if_neg h2]
  refine ⟨by omega, by omega, by omega, rfl, fun x hx hx2 => ?_⟩
  obtain ⟨s1, s2, s3, s4⟩ := next_spec p.u false (first - p.first).toNat
  have hlt : x < p.u.length := by omega
  have := s4 x hx (by omega) hlt
  rw [getD_get hlt]
  have h3 : ¬ p.u[x] = 0 := by simpa using this
  omega
theorem own_trans {b bu bd : Nat} {w w1 w2 : World} (h : Fr (Own b bu bd) w w1) (k : Fr (Own b bu bd) w1 w2) : Fr (Own b bu bd) w w2 := h.trans k
theorem turn_ok {p : Pool} (hp : p.Ok) (k : Nat) (f : Nat → Nat) (j : Nat) (hf : ∀ x, k ≤ x → x < k + j → f (p.u.getD x 0) ≤ 255) (h : k + j ≤ p.u.length) : (⟨p.first, turn p.u k f j⟩ : Pool).Ok := by
  refine ⟨by simpa [turn_len] using hp.le, by simpa [turn_len] using hp.n, fun x hx => ?_⟩
  obtain ⟨i, hi, rfl⟩ := List.getElem_of_mem hx
  have := turn_get p.u k f i j h
  rw [getD_get hi] at this
  simp only at this ⊢
  rw [this]
  split
  · rename_i h2; exact hf i h2.1 h2.2
  · have hi' : i < p.u.length := by simpa [turn_len] using hi
    rw [getD_get hi']; exact hp.u _ (List.getElem_mem hi')
def Pool.turned (p : Pool) (k : Nat) (f : Nat → Nat) (j : Nat) : Pool := ⟨p.first, turn p.u k f j⟩

theorem f25 {w : World} {b bu bd : Nat} {p : Pool} (hP : PoolAt w b bu bd p) (hT : Tz w) (hd : ¬ Own b bu bd 0) (first n : Int) (hf : -9223372036854775808 ≤ first ∧ first ≤ 9223372036854775807) (hn : n ≤ 9223372036854775807) :
    Ret prog 25 #[.pointer (some ⟨b, 0, none⟩), .int .i64 first, .int .i64 n] w fun v w' =>
      ((p.run first n).2 ≠ 0 ∧ v = .tuple #[.int .i64 0, .int .i64 ((p.run first n).2 : Nat)] ∧ Qt w w') ∨
      ((p.run first n).2 = 0 ∧ v = .tuple #[.int .i64 (((p.turned (first - p.first).toNat (· - 1) n.toNat).free : Int) - p.free), .int .i64 0] ∧ PoolAt w' b bu bd (p.turned (first - p.first).toNat (· - 1) n.toNat) ∧ Fr (Own b bu bd) w w') := by
  have hN := hP.ok.n
  have hL := hP.ok.le
  refine F25_of _ _ _ _ _ ?_
  unfold F25
  refine Ret.use (f51 hP hT first n hf hn) ?_
  rintro v w1 ⟨rfl, hq⟩
  simp only [AsTup_tuple, UnC_cons, AsI_int, UnN_nil]
  by_cases h0 : (p.run first n).2 = 0
  · have hb : (((p.run first n).2 : Int) != (0 : Int)) = false := by rw [h0]; rfl
    rw [hb, BIf_false]
    obtain ⟨r1, r2, r3, r4, r5⟩ := run_ok h0
    obtain ⟨k, hk⟩ : ∃ k : Nat, first - (p.first : Int) = k := ⟨(first - p.first).toNat, by omega⟩
    obtain ⟨m, rfl⟩ : ∃ m : Nat, n = m := ⟨n.toNat, by omega⟩
    have hkN : (first - (p.first : Int)).toNat = k := by omega
    have hmN : ((m : Int)).toNat = m := rfl
    simp only [hkN, hmN] at r4 r5 ⊢
    rw [r4]
    have hP1 := hP.qt hq
    simp only [at0_mk, Nat.zero_add]
    refine hP1.st.ld rfl ?_
    simp only [AsI_int]
    refine Loop.by (fun s w' => ∃ j : Nat, s = [.int .i64 (j : Int)] ∧ j ≤ m ∧ PoolAt w' b bu bd (p.turned k (· - 1) j) ∧ Fr (Own b bu bd) w w') (fun s _ => match s with | [.int _ j] => m - j.toNat | _ => 0)
      ⟨0, rfl, by omega, hP1, hq.fr⟩ ?_
    rintro _ w2 ⟨j, rfl, hj, hP2, hf2⟩
    simp only [UnC_cons, AsI_int, UnN_nil]
    have hlen : (p.turned k (· - 1) j).u.length = p.u.length := turn_len _ _ _ _
    by_cases hjm : j < m
    · rw [decide_eq_true (show (j : Int) < (m : Int) by omega), BIf_true]
      refine hP2.st.ld rfl ?_
      simp only [AsSl_slice, NilP_some]
      have hkj : k + j < p.u.length := by rw [hlen] at *; omega
      have hkj2 : k + j < (p.turned k (· - 1) j).u.length := by omega
      rw [w64 (n := (k : Int) + (j : Int)) (by omega) (by omega), show (k : Int) + (j : Int) = ((k + j : Nat) : Int) from by omega]
      refine ⟨by omega, by omega, ?_⟩
      simp only [at0_mk, Int.toNat_natCast, Nat.mul_one, Nat.zero_add]
      refine hP2.us.ld (u8s_get hkj2) ?_
      simp only [AsI_int]
      have hval : (p.turned k (· - 1) j).u[k + j] = p.u.getD (k + j) 0 := by
        rw [← getD_get hkj2]
        show (turn p.u k (· - 1) j).getD (k + j) 0 = _
        rw [turn_get _ _ _ _ _ (by omega), if_neg (by omega)]
      have hpos := r5 (k + j) (by omega) (by omega)
      have hle : p.u.getD (k + j) 0 ≤ 255 := by rw [getD_get hkj]; exact hP.ok.u _ (List.getElem_mem hkj)
      rw [hval, wu8 (by omega) (by omega), show ((p.u.getD (k + j) 0 : Nat) : Int) - 1 = ((p.u.getD (k + j) 0 - 1 : Nat) : Int) from by omega]
      refine Ret.use (f50 hP2 (k + j) (p.u.getD (k + j) 0 - 1) hkj2 (by omega)) ?_
      rintro v w3 ⟨rfl, hP3, hf3⟩
      simp only [AsTup_tuple, UnN_nil]
      rw [w64 (n := (j : Int) + 1) (by omega) (by omega)]
      exact ⟨⟨j + 1, rfl, by omega, hP3, hf2.trans hf3⟩, by show m - ((j : Int) + 1).toNat < m - (j : Int).toNat; omega⟩
    · rw [decide_eq_false (show ¬ (j : Int) < (m : Int) by omega), BIf_false]
      obtain rfl : j = m := by omega
      refine hP2.st.ld rfl ?_
      simp only [AsI_int]
      have c1 : p.free ≤ p.u.length := List.countP_le_length
      have c2 : (p.turned k (· - 1) j).free ≤ p.u.length := by rw [← hlen]; exact List.countP_le_length
      rw [w64 (by omega) (by omega)]
      exact .inr ⟨h0, by trivial, hP2, hf2⟩
  · have hb : (((p.run first n).2 : Int) != (0 : Int)) = true := bne_iff_ne.2 (by omega)
    rw [hb, BIf_true]
    exact .inl ⟨h0, by trivial, hq⟩
end Go.Proofs.YthpodlcbikialaaDoor
