import Derived.Test.YthpodlcbikialaaDoorA2
import Derived.Test.YthpodlcbikialaaDoorA3
set_option linter.unusedVariables false
set_option linter.unusedSimpArgs false
namespace Go.Proofs.YthpodlcbikialaaDoor
open Go Go.Sh Go.Fr

theorem f48 {w : World} (a : Nat) (h : a < 4097) : Ret prog 48 #[.int .u64 (a : Int)] w fun v w' => (∃ c : Int, v = .int .i64 c ∧ (c != 1) = !pow2B a) ∧ w' = w := by
  have h68 : Ret prog 68 #[.int .u64 (a : Int)] w fun v w' => (∃ c : Int, v = .int .i64 c ∧ (c != 1) = !pow2B a) ∧ w' = w := by
    refine F68_of _ _ _ ?_
    have := f68_all w a h
    unfold F68 at this ⊢
    dsimp only [isOne] at this
    refine ⟨⟨_, rfl, ?_⟩, rfl⟩
    rw [← this]
    rw [bne, Bool.not_inj_iff]
    rw [Bool.eq_iff_iff]
    simp
  refine F48_of _ _ _ ?_
  unfold F48
  refine Ret.use h68 ?_
  rintro v w' ⟨⟨c, rfl, hc⟩, rfl⟩
  simp only [AsI_int]
  exact ⟨⟨c, rfl, hc⟩, by trivial⟩

/-- uses of a frame -/
def Pool.at_ (p : Pool) (f : Int) : Nat := if f < p.first then 0 else p.u.getD (f - p.first).toNat 0
theorem f16 {w : World} {b bu bd : Nat} {p : Pool} (hP : PoolAt w b bu bd p) (f : Int) (hf : -9223372036854775808 ≤ f ∧ f ≤ 9223372036854775807) :
    Ret prog 16 #[.pointer (some ⟨b, 0, none⟩), .int .i64 f] w fun v w' => v = .int .i64 (p.at_ f : Nat) ∧ Qt w w' := by
  have hN := hP.ok.n
  have hL := hP.ok.le
  refine F16_of _ _ _ _ ?_
  unfold F16
  simp only [at0_mk, Nat.zero_add]
  refine hP.st.drew.ld rfl ?_
  simp only [AsI_int]
  by_cases h1 : f < p.first
  · rw [decide_eq_true h1, BIf_true]
    exact ⟨by simp [Pool.at_, h1], (Qt.refl w).drew⟩
  · rw [decide_eq_false h1, BIf_false]
    refine hP.st.drew.ld rfl ?_
    simp only [AsI_int]
    refine hP.st.drew.ld rfl ?_
    simp only [AsI_int]
    rw [w64 (n := (p.first : Int) + (p.u.length : Int)) (by omega) (by omega)]
    by_cases h2 : f ≥ (p.first : Int) + p.u.length
    · rw [decide_eq_true h2, BIf_true]
      refine ⟨?_, (Qt.refl w).drew⟩
      simp only [Pool.at_, if_neg h1]
      have : p.u.length ≤ (f - p.first).toNat := by omega
      generalize (f - (p.first : Int)).toNat = k at *
      simp [List.getD, this]
    · rw [decide_eq_false h2, BIf_false]
      refine hP.st.drew.drew.ld rfl ?_
      simp only [AsSl_slice]
      refine hP.st.drew.drew.ld rfl ?_
      simp only [AsI_int, NilP_some]
      rw [w64 (n := f - (p.first : Int)) (by omega) (by omega)]
      refine ⟨by omega, by omega, ?_⟩
      simp only [at0_mk, Nat.mul_one, Nat.zero_add]
      have hlt : (f - (p.first : Int)).toNat < p.u.length := by omega
      refine hP.us.drew.drew.ld (u8s_get hlt) ?_
      simp only [AsI_int]
      have hx := hP.ok.u _ (List.getElem_mem hlt)
      rw [w64 (by omega) (by omega)]
      refine ⟨?_, (Qt.refl w).drew.drew⟩
      simp only [Pool.at_, if_neg h1, getD_get hlt]
theorem f26 {w : World} {b bu bd : Nat} {p : Pool} (hP : PoolAt w b bu bd p) :
    Ret prog 26 #[.pointer (some ⟨b, 0, none⟩)] w fun v w' => v = .int .i64 (p.free : Nat) ∧ w' = w := by
  refine F26_of _ _ _ ?_
  unfold F26
  simp only [at0_mk, Nat.zero_add]
  refine hP.st.ld rfl ?_
  simp only [AsI_int]
  exact ⟨by trivial, by trivial⟩
theorem f29 {w : World} {b bu bd : Nat} {p : Pool} (hP : PoolAt w b bu bd p) :
    Ret prog 29 #[.pointer (some ⟨b, 0, none⟩)] w fun v w' => v = .agg #[.int .i64 p.first, .int .i64 p.u.length] ∧ Fr (fun _ => False) w w' := by
  refine F29_of _ _ _ ?_
  unfold F29
  simp only [at0_mk, Nat.zero_add]
  refine New.mk fun w1 hn hf hs => ?_
  have hst := hP.st.fr hf (fun h => h)
  refine hst.drew.ld rfl ?_
  simp only [AsI_int]
  refine hst.drew.ld rfl ?_
  simp only [AsI_int]
  refine hn.drew.st (by simp) rfl fun w2 hn2 hf2 _ => ?_
  simp only [at0_mk, Nat.zero_add]
  refine hn2.st (by simp) rfl fun w3 hn3 hf3 _ => ?_
  refine hn3.ld rfl ?_
  simp only [AsI_int]
  refine hn3.ld rfl ?_
  simp only [AsI_int]
  refine ⟨by trivial, ?_⟩
  have h2 : Fr (fun x => x = w.heap.size) w w3 := ((hf.mono fun _ _ h => h.elim).trans hf2.of_drew).trans hf3
  exact h2.mono fun x hx h => by omega

/-- the answer of 'run': the place, and an error -/
def Pool.run (p : Pool) (first n : Int) : Nat × Nat :=
  if n < 1 then (0, 41) else if first < p.first ∨ first ≥ p.first + p.u.length ∨ n > p.first + p.u.length - first then (0, 40)
  else if (next p.u false (first - p.first).toNat : Int) < first - p.first + n then (0, 43) else ((first - p.first).toNat, 0)
theorem f51 {w : World} {b bu bd : Nat} {p : Pool} (hP : PoolAt w b bu bd p) (hT : Tz w) (first n : Int) (hf : -9223372036854775808 ≤ first ∧ first ≤ 9223372036854775807) (hn : n ≤ 9223372036854775807) :
    Ret prog 51 #[.pointer (some ⟨b, 0, none⟩), .int .i64 first, .int .i64 n] w fun v w' => v = .tuple #[.int .i64 ((p.run first n).1 : Nat), .int .i64 ((p.run first n).2 : Nat)] ∧ Qt w w' := by
  have hN := hP.ok.n
  have hL := hP.ok.le
  refine F51_of _ _ _ _ _ ?_
  unfold F51
  simp only [at0_mk, Nat.zero_add]
  by_cases h0 : n < 1
  · rw [decide_eq_true h0, BIf_true]; exact ⟨by simp [Pool.run, h0], Qt.refl w⟩
  rw [decide_eq_false h0, BIf_false]
  refine hP.st.drew.ld rfl ?_
  simp only [AsI_int]
  by_cases h1 : first < p.first
  · rw [decide_eq_true h1, BIf_true]; exact ⟨by simp [Pool.run, h0, h1], (Qt.refl w).drew⟩
  rw [decide_eq_false h1, BIf_false]
  refine hP.st.drew.ld rfl ?_
  simp only [AsI_int]
  refine hP.st.drew.ld rfl ?_
  simp only [AsI_int]
  rw [w64 (n := (p.first : Int) + (p.u.length : Int)) (by omega) (by omega)]
  by_cases h2 : first ≥ (p.first : Int) + p.u.length
  · rw [decide_eq_true h2, BIf_true]; exact ⟨by simp [Pool.run, h0, h2], (Qt.refl w).drew⟩
  rw [decide_eq_false h2, BIf_false]
  refine hP.st.drew.ld rfl ?_
  simp only [AsI_int]
  refine hP.st.drew.ld rfl ?_
  simp only [AsI_int]
  rw [w64 (n := (p.first : Int) + (p.u.length : Int)) (by omega) (by omega), w64 (n := (p.first : Int) + (p.u.length : Int) - first) (by omega) (by omega)]
  by_cases h3 : n > (p.first : Int) + p.u.length - first
  · rw [decide_eq_true h3, BIf_true]; exact ⟨by simp [Pool.run, h0, h3], (Qt.refl w).drew⟩
  rw [decide_eq_false h3, BIf_false]
  refine hP.st.drew.ld rfl ?_
  simp only [AsI_int]
  obtain ⟨k, hk⟩ : ∃ k : Nat, first - (p.first : Int) = k := ⟨(first - p.first).toNat, by omega⟩
  rw [w64 (n := first - (p.first : Int)) (by omega) (by omega), hk, w64 (n := (k : Int) + n) (by omega) (by omega)]
  refine Ret.use (f49 (hP.qt (Qt.refl w).drew) (hT.qt (Qt.refl w).drew) k (by omega) false) ?_
  rintro v w1 ⟨rfl, hq⟩
  simp only [AsI_int]
  have hr : p.run first n = if (next p.u false k : Int) < (k : Int) + n then (0, 43) else (k, 0) := by
    simp only [Pool.run, if_neg h0, if_neg (show ¬ (first < p.first ∨ first ≥ p.first + p.u.length ∨ n > p.first + p.u.length - first) by omega), hk, Int.toNat_natCast]
  by_cases h4 : (next p.u false k : Int) < (k : Int) + n
  · rw [decide_eq_true h4, BIf_true, hr, if_pos h4]; exact ⟨rfl, hq.of_drew⟩
  · rw [decide_eq_false h4, BIf_false, hr, if_neg h4]; exact ⟨rfl, hq.of_drew⟩
end Go.Proofs.YthpodlcbikialaaDoor
