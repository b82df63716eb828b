import Derived.Test.YthpodlcbikialaaDoorA6
set_option linter.unusedVariables false
set_option linter.unusedSimpArgs false
namespace Go.Proofs.YthpodlcbikialaaDoor
open Go Go.Sh Go.Fr
/-- has one of the n frames from place k on 255 uses? -/
def Pool.full (p : Pool) (k n : Nat) : Prop := ∃ x, k ≤ x ∧ x < k + n ∧ p.u.getD x 0 = 255
def Pool.shareErr (p : Pool) (first n : Int) (e : Nat) : Prop :=
  if (p.run first n).2 ≠ 0 then e = (p.run first n).2 else (e = 44 ∧ p.full (first - p.first).toNat n.toNat) ∨ (e = 0 ∧ ¬ p.full (first - p.first).toNat n.toNat)
theorem f47 {w : World} {b bu bd : Nat} {p : Pool} (hP : PoolAt w b bu bd p) (hT : Tz w) (first n : Int) (hf : -9223372036854775808 ≤ first ∧ first ≤ 9223372036854775807) (hn : n ≤ 9223372036854775807) :
    Ret prog 47 #[.pointer (some ⟨b, 0, none⟩), .int .i64 first, .int .i64 n] w fun v w' => ∃ e : Nat, v = .int .i64 (e : Int) ∧ p.shareErr first n e ∧
      ((e ≠ 0 ∧ Qt w w') ∨ (e = 0 ∧ PoolAt w' b bu bd (p.turned (first - p.first).toNat (· + 1) n.toNat) ∧ Fr (Own b bu bd) w w')) := by
  have hN := hP.ok.n
  have hL := hP.ok.le
  refine F47_of _ _ _ _ _ ?_
  unfold F47
  refine Ret.use (f51 hP hT first n hf hn) ?_
  rintro v w1 ⟨rfl, hq⟩
  simp only [AsTup_tuple, UnC_cons, AsI_int, UnN_nil]
  by_cases h0 : (p.run first n).2 = 0
  · have hb : (((p.run first n).2 : Int) != (0 : Int)) = false := by rw [h0]; rfl
    rw [hb, BIf_false]
    obtain ⟨r1, r2, r3, r4, r5⟩ := run_ok h0
    obtain ⟨k, hk⟩ : ∃ k : Nat, first - (p.first : Int) = k := ⟨(first - p.first).toNat, by omega⟩
    obtain ⟨m, rfl⟩ : ∃ m : Nat, n = m := ⟨n.toNat, by omega⟩
    have hkN : (first - (p.first : Int)).toNat = k := by omega
    have hmN : ((m : Int)).toNat = m := rfl
    simp only [Pool.shareErr, if_neg (show ¬ (p.run first m).2 ≠ 0 by omega)]
    simp only [hkN, hmN] at r4 r5 ⊢
    rw [r4]
    have hP1 := hP.qt hq
    simp only [at0_mk, Nat.zero_add]
    refine hP1.st.ld rfl ?_
    simp only [AsSl_slice]
    rw [w64 (n := (k : Int) + (m : Int)) (by omega) (by omega), show (k : Int) + (m : Int) = ((k + m : Nat) : Int) from by omega]
    refine ⟨by omega, by omega, by omega, by omega, ?_⟩
    have hkm0 : ((k + m : Nat) : Int).toNat = k + m := rfl
    have hk0 : ((k : Nat) : Int).toNat = k := rfl
    simp only [hkm0, hk0]
    have hsl : slAddr (some ⟨bu, 0, none⟩) k p.u.length 1 = some ⟨bu, k, none⟩ := by
      unfold slAddr; rw [if_neg (by omega)]; simp [at0_mk]
    have hkm : k + m - k = m := by omega
    simp only [hsl, hkm, NilP_some]
    refine Loop.by (fun s w' => ∃ j : Nat, s = [.int .i64 (j : Int), .int .i64 0] ∧ j ≤ m ∧ w' = w1 ∧ (∀ x, k ≤ x → x < k + j → p.u.getD x 0 ≠ 255)) (fun s _ => match s with | [.int _ j, _] => m - j.toNat | _ => 0)
      ⟨0, rfl, by omega, rfl, fun x h1 h2 => by omega⟩ ?_
    rintro _ _ ⟨j, rfl, hj, rfl, hno⟩
    simp only [UnC_cons, AsI_int, UnN_nil]
    by_cases hjm : j < m
    · rw [decide_eq_true (show (j : Int) < (m : Int) by omega), BIf_true]
      refine ⟨by omega, by omega, ?_⟩
      have hkj : k + j < p.u.length := by omega
      simp only [at0_mk, Int.toNat_natCast, Nat.mul_one]
      refine hP1.us.ld (u8s_get hkj) ?_
      simp only [AsI_int]
      by_cases h255 : p.u[k + j] = 255
      · rw [show (((p.u[k + j] : Nat) : Int) == (255 : Int)) = true from beq_iff_eq.2 (by omega), BIf_true]
        exact ⟨44, rfl, .inl ⟨by trivial, k + j, by omega, by omega, by rw [getD_get hkj]; exact h255⟩, .inl ⟨by omega, hq⟩⟩
      · rw [show (((p.u[k + j] : Nat) : Int) == (255 : Int)) = false from beq_eq_false_iff_ne.2 (by omega), BIf_false, w64 (n := (j : Int) + 1) (by omega) (by omega)]
        refine ⟨⟨j + 1, rfl, by omega, by trivial, fun x h1 h2 => ?_⟩, by show m - ((j : Int) + 1).toNat < m - (j : Int).toNat; omega⟩
        by_cases e : x = k + j
        · subst e; rw [getD_get hkj]; exact h255
        · exact hno x h1 (by omega)
    · rw [decide_eq_false (show ¬ (j : Int) < (m : Int) by omega), BIf_false]
      obtain rfl : j = m := by omega
      have hnf : ¬ p.full k j := fun ⟨x, h1, h2, h3⟩ => hno x h1 h2 h3
      refine Loop.by (fun s w' => ∃ i : Nat, s = [.int .i64 (i : Int)] ∧ i ≤ j ∧ PoolAt w' b bu bd (p.turned k (· + 1) i) ∧ Fr (Own b bu bd) w w') (fun s _ => match s with | [.int _ i] => j - i.toNat | _ => 0)
        ⟨0, rfl, by omega, hP1, hq.fr⟩ ?_
      rintro _ w2 ⟨i, rfl, hi, hP2, hf2⟩
      simp only [UnC_cons, AsI_int, UnN_nil]
      have hlen : (p.turned k (· + 1) i).u.length = p.u.length := turn_len _ _ _ _
      by_cases him : i < j
      · rw [decide_eq_true (show (i : Int) < (j : Int) by omega), BIf_true]
        refine hP2.st.ld rfl ?_
        simp only [AsSl_slice, NilP_some]
        have hki : k + i < p.u.length := by omega
        have hki2 : k + i < (p.turned k (· + 1) i).u.length := by omega
        rw [w64 (n := (k : Int) + (i : Int)) (by omega) (by omega), show (k : Int) + (i : Int) = ((k + i : Nat) : Int) from by omega]
        refine ⟨by omega, by omega, ?_⟩
        simp only [at0_mk, Int.toNat_natCast, Nat.mul_one, Nat.zero_add]
        refine hP2.us.ld (u8s_get hki2) ?_
        simp only [AsI_int]
        have hval : (p.turned k (· + 1) i).u[k + i] = p.u.getD (k + i) 0 := by
          rw [← getD_get hki2]
          show (turn p.u k (· + 1) i).getD (k + i) 0 = _
          rw [turn_get _ _ _ _ _ (by omega), if_neg (by omega)]
        have hle : p.u.getD (k + i) 0 ≤ 255 := by rw [getD_get hki]; exact hP.ok.u _ (List.getElem_mem hki)
        have hne := hno (k + i) (by omega) (by omega)
        rw [hval, wu8 (by omega) (by omega), show ((p.u.getD (k + i) 0 : Nat) : Int) + 1 = ((p.u.getD (k + i) 0 + 1 : Nat) : Int) from by omega]
        refine Ret.use (f50 hP2 (k + i) (p.u.getD (k + i) 0 + 1) hki2 (by omega)) ?_
        rintro v w3 ⟨rfl, hP3, hf3⟩
        simp only [AsTup_tuple, UnN_nil]
        rw [w64 (n := (i : Int) + 1) (by omega) (by omega)]
        exact ⟨⟨i + 1, rfl, by omega, hP3, hf2.trans hf3⟩, by show j - ((i : Int) + 1).toNat < j - (i : Int).toNat; omega⟩
      · rw [decide_eq_false (show ¬ (i : Int) < (j : Int) by omega), BIf_false]
        obtain rfl : i = j := by omega
        exact ⟨0, rfl, .inr ⟨rfl, hnf⟩, .inr ⟨rfl, hP2, hf2⟩⟩
  · have hb : (((p.run first n).2 : Int) != (0 : Int)) = true := bne_iff_ne.2 (by omega)
    rw [hb, BIf_true]
    exact ⟨_, rfl, by simp only [Pool.shareErr]; rw [if_pos h0]; trivial, .inl ⟨h0, hq⟩⟩
end Go.Proofs.YthpodlcbikialaaDoor
