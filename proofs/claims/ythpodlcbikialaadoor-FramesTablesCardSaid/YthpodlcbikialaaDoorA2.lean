import Derived.Test.YthpodlcbikialaaDoorA1
import Derived.Test.YthpodlcbikialaaDoorFrPure2
set_option linter.unusedVariables false
namespace Go.Proofs.YthpodlcbikialaaDoor
open Go Go.Sh Go.Fr
/-- the blocks of a pool -/
def Own (b bu bd : Nat) (x : Nat) : Prop := x = b ∨ x = bu ∨ x = bd
def stCells (first n : Nat) (bu bd : Nat) (free : Nat) : List Value :=
  [.int .i64 first, .int .i64 n, .slice (some ⟨bu, 0, none⟩) n n, .slice (some ⟨bd, 0, none⟩) ((n + 63) / 64) ((n + 63) / 64), .int .i64 free]
/-- between the steps of 'use' -/
structure Mid (w0 w : World) (b bu bd : Nat) (p : Pool) (u : List Nat) (free : Nat) : Prop where
  st : Has w b (stCells p.first p.u.length bu bd free)
  us : Has w bu (u8s p.u)
  ws : ∃ ws, Bits u ws ∧ Has w bd (u64s ws)
  fr : Fr (Own b bu bd) w0 w
theorem u64s_set {ws : List Nat} {k x : Nat} : (u64s ws).set k (.int .u64 (x : Nat)) = u64s (ws.set k x) := by simp [u64s, List.map_set]
theorem u8s_set {ws : List Nat} {k x : Nat} : (u8s ws).set k (.int .u8 (x : Nat)) = u8s (ws.set k x) := by simp [u8s, List.map_set]
theorem u64s_len {ws : List Nat} : (u64s ws).length = ws.length := by simp [u64s]
theorem u8s_len {ws : List Nat} : (u8s ws).length = ws.length := by simp [u8s]

theorem f50 {w : World} {b bu bd : Nat} {p : Pool} (hP : PoolAt w b bu bd p) (i n : Nat) (hi : i < p.u.length) (hn : n ≤ 255) :
    Ret prog 50 #[.pointer (some ⟨b, 0, none⟩), .int .i64 (i : Int), .int .u8 (n : Int)] w fun v w' => v = .tuple #[] ∧ PoolAt w' b bu bd ⟨p.first, p.u.set i n⟩ ∧ Fr (Own b bu bd) w w' := by
  have hN := hP.ok.n
  obtain ⟨ne1, ne2, ne3⟩ := hP.ne
  have e1 : IntKind.i64.wrap ((i : Int).tdiv 64) = ((i / 64 : Nat) : Int) := by rw [IntWalk.i64_quo _ _ ⟨by omega, by omega, by omega⟩]; omega
  have e2 : (i : Int).tmod 64 = ((i % 64 : Nat) : Int) := by rw [IntWalk.rem_in _ _ (by omega)]; omega
  have hsh : shlI .u64 (1 : Int) ((i % 64 : Nat) : Int) = ((1 <<< (i % 64) : Nat) : Int) := shlI_u64 (a := 1) (by omega) (one_shl_lt (by omega))
  have hsl : 1 <<< (i % 64) < 2 ^ 64 := one_shl_lt (by omega)
  have hc := count_set p.u i n hi
  have hle : p.u.countP (· = 0) ≤ p.u.length := List.countP_le_length
  have hle2 : (p.u.set i n).countP (· = 0) ≤ p.u.length := by have := List.countP_le_length (l := p.u.set i n) (p := fun x => decide (x = 0)); simpa using this
  refine F50_of _ _ _ _ _ ?_
  unfold F50
  simp only [at0_mk, Nat.zero_add, e1, e2, hsh]
  have h0 : Mid w w b bu bd p p.u p.free := ⟨hP.st, hP.us, hP.ws, Fr.refl _ _⟩
  refine Join.at (fun s w' => s = [] ∧ Mid w w' b bu bd p (if p.u[i] = 0 ∧ 0 < n then p.u.set i n else p.u) (if p.u[i] = 0 ∧ 0 < n then p.free - 1 else p.free)) ?_ ?_
  · refine hP.st.ld rfl ?_
    simp only [AsSl_slice, NilP_some]
    refine ⟨by omega, by omega, ?_⟩
    simp only [at0_mk, Int.toNat_natCast, Nat.mul_one, Nat.zero_add]
    refine hP.us.ld (u8s_get hi) ?_
    simp only [AsI_int]
    by_cases hz : p.u[i] = 0
    · have hb1 : (((p.u[i] : Nat) : Int) == (0 : Int)) = true := beq_iff_eq.2 (by omega)
      rw [hb1, BIf_true]
      by_cases hn0 : 0 < n
      · rw [if_pos ⟨hz, hn0⟩, if_pos ⟨hz, hn0⟩, decide_eq_true (show (n : Int) > 0 by omega), BIf_true]
        refine hP.st.ld rfl ?_
        simp only [AsI_int]
        have hfree : 1 ≤ p.free := by unfold Pool.free; rw [if_pos hz, if_neg (by omega)] at hc; omega
        have e3 : IntKind.i64.wrap ((p.free : Int) - 1) = ((p.free - 1 : Nat) : Int) := by rw [w64 (by unfold Pool.free; omega) (by unfold Pool.free; omega)]; omega
        rw [e3]
        refine hP.st.st (by simp [poolCells]) rfl fun w1 hw1 hf1 _ => ?_
        obtain ⟨ws, hb, hws⟩ := hP.ws
        have hkw : i / 64 < ws.length := by rw [hb.len]; omega
        have hws1 := hws.fr hf1 (Ne.symm ne2)
        have hus1 := hP.us.fr hf1 (Ne.symm ne1)
        refine hw1.drew.ld rfl ?_
        simp only [AsSl_slice, NilP_some]
        refine ⟨by omega, by have := hb.len; omega, ?_⟩
        simp only [at0_mk, Int.toNat_natCast, Nat.mul_one, Nat.zero_add]
        refine hws1.drew.ld (u64s_get hkw) ?_
        simp only [AsI_int]
        refine NN.mk (by omega) ?_
        refine ⟨by omega, by have := hb.len; omega, ?_⟩
        rw [orI_u64 (hb.lt _ hkw) hsl]
        refine hws1.drew.st (by rw [u64s_len]; exact hkw) rfl fun w2 hw2 hf2 _ => ?_
        rw [u64s_set] at hw2
        have hf2' := hf2.of_drew
        exact ⟨by trivial, hw1.fr hf2' ne2, hus1.fr hf2' ne3, ⟨_, hb.setPos hi hkw hn0, hw2⟩,
          (hf1.mono fun _ _ h => .inl h).trans (hf2'.mono fun _ _ h => .inr (.inr h))⟩
      · rw [if_neg (by omega), if_neg (by omega), decide_eq_false (show ¬ (n : Int) > 0 by omega), BIf_false]
        exact ⟨by trivial, h0⟩
    · have hb1 : (((p.u[i] : Nat) : Int) == (0 : Int)) = false := beq_eq_false_iff_ne.2 (by omega)
      rw [hb1, BIf_false, if_neg (by omega), if_neg (by omega)]
      exact ⟨by trivial, h0⟩
  · rintro _ w1 ⟨rfl, m1⟩
    simp only [UnN_nil]
    refine Join.at (fun s w' => s = [] ∧ Mid w w' b bu bd p (p.u.set i n) ((p.u.set i n).countP (· = 0))) ?_ ?_
    · refine m1.st.ld rfl ?_
      simp only [AsSl_slice, NilP_some]
      refine ⟨by omega, by omega, ?_⟩
      simp only [at0_mk, Int.toNat_natCast, Nat.mul_one, Nat.zero_add]
      refine m1.us.ld (u8s_get hi) ?_
      simp only [AsI_int]
      by_cases hz : p.u[i] = 0
      · rw [decide_eq_false (show ¬ ((p.u[i] : Nat) : Int) > 0 by omega), BIf_false]
        rw [if_pos hz] at hc
        by_cases hn0 : 0 < n
        · rw [if_neg (by omega)] at hc
          rw [if_pos ⟨hz, hn0⟩, if_pos ⟨hz, hn0⟩] at m1
          have : (p.u.set i n).countP (· = 0) = p.free - 1 := by unfold Pool.free; omega
          rw [this]; exact ⟨by trivial, m1⟩
        · rw [if_pos (by omega)] at hc
          rw [if_neg (by omega), if_neg (by omega)] at m1
          have h1 : (p.u.set i n).countP (· = 0) = p.free := by unfold Pool.free; omega
          have h2 : p.u.set i n = p.u := by
            have : n = p.u[i] := by omega
            rw [this]; exact List.set_getElem_self hi
          rw [h1, h2]; exact ⟨by trivial, m1⟩
      · rw [decide_eq_true (show ((p.u[i] : Nat) : Int) > 0 by omega), BIf_true]
        rw [if_neg hz] at hc
        rw [if_neg (by omega), if_neg (by omega)] at m1
        by_cases hn0 : n = 0
        · rw [if_pos hn0] at hc
          have hb1 : ((n : Int) == (0 : Int)) = true := beq_iff_eq.2 (by omega)
          rw [hb1, BIf_true]
          refine m1.st.ld rfl ?_
          simp only [AsI_int]
          have e3 : IntKind.i64.wrap ((p.free : Int) + 1) = (((p.u.set i n).countP (· = 0) : Nat) : Int) := by
            rw [w64 (by unfold Pool.free; omega) (by unfold Pool.free; omega)]; unfold Pool.free; omega
          rw [e3]
          refine m1.st.st (by simp [stCells]) rfl fun w2 hw1 hf1 _ => ?_
          obtain ⟨ws, hb, hws⟩ := m1.ws
          have hkw : i / 64 < ws.length := by rw [hb.len]; omega
          have hws1 := hws.fr hf1 (Ne.symm ne2)
          have hus1 := m1.us.fr hf1 (Ne.symm ne1)
          refine hw1.drew.ld rfl ?_
          simp only [AsSl_slice, NilP_some]
          refine ⟨by omega, by have := hb.len; omega, ?_⟩
          simp only [at0_mk, Int.toNat_natCast, Nat.mul_one, Nat.zero_add]
          refine hws1.drew.ld (u64s_get hkw) ?_
          simp only [AsI_int]
          refine NN.mk (by omega) ?_
          refine ⟨by omega, by have := hb.len; omega, ?_⟩
          rw [andNotI_u64 (hb.lt _ hkw) hsl]
          refine hws1.drew.st (by rw [u64s_len]; exact hkw) rfl fun w3 hw2 hf2 _ => ?_
          rw [u64s_set] at hw2
          have hf2' := hf2.of_drew
          subst hn0
          exact ⟨by trivial, hw1.fr hf2' ne2, hus1.fr hf2' ne3, ⟨_, hb.setZero hi hkw, hw2⟩,
            m1.fr.trans ((hf1.mono fun _ _ h => .inl h).trans (hf2'.mono fun _ _ h => .inr (.inr h)))⟩
        · rw [if_neg hn0] at hc
          have hb1 : ((n : Int) == (0 : Int)) = false := beq_eq_false_iff_ne.2 (by omega)
          rw [hb1, BIf_false]
          have h1 : (p.u.set i n).countP (· = 0) = p.free := by unfold Pool.free; omega
          rw [h1]
          obtain ⟨ws, hb, hws⟩ := m1.ws
          refine ⟨by trivial, m1.st, m1.us, ⟨ws, hb.same (by simp) fun j => ?_, hws⟩, m1.fr⟩
          rw [getD_set _ _ _ _ hi]
          split
          · rename_i e; subst e; rw [getD_get hi]; simp; omega
          · rfl
    · rintro _ w2 ⟨rfl, m2⟩
      simp only [UnN_nil]
      refine m2.st.ld rfl ?_
      simp only [AsSl_slice, NilP_some]
      refine ⟨by omega, by omega, ?_⟩
      simp only [at0_mk, Int.toNat_natCast, Nat.mul_one, Nat.zero_add]
      refine m2.us.st (by rw [u8s_len]; exact hi) rfl fun w3 hw3 hf3 _ => ?_
      rw [u8s_set] at hw3
      obtain ⟨ws, hb, hws⟩ := m2.ws
      refine ⟨by trivial, ⟨?_, hw3, ⟨ws, hb, hws.fr hf3 (Ne.symm ne3)⟩, hP.ne, ⟨by simpa using hP.ok.le, by simpa using hP.ok.n, fun x hx => ?_⟩⟩, m2.fr.trans (hf3.mono fun _ _ h => .inr (.inl h))⟩
      · have := m2.st.fr hf3 ne1
        simpa [stCells, poolCells, Pool.free] using this
      · rcases List.mem_or_eq_of_mem_set hx with h | h
        · exact hP.ok.u x h
        · omega
end Go.Proofs.YthpodlcbikialaaDoor
