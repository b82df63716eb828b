import Derived.Test.YthpodlcbikialaaDoorG1
import Derived.Test.YthpodlcbikialaaDoorFrPures
import Derived.Test.YthpodlcbikialaaDoorShMems
set_option linter.unusedVariables false
set_option linter.unusedSimpArgs false
set_option linter.unusedVariables false
namespace Go.Proofs.YthpodlcbikialaaDoor
open Go Go.Sh Go.Fr

/-! ## the pool in memory -/
structure Pool where
  first : Nat
  u : List Nat
def Pool.n (p : Pool) : Nat := p.u.length
def Pool.free (p : Pool) : Nat := p.u.countP (· = 0)
structure Pool.Ok (p : Pool) : Prop where
  le : p.first + p.u.length ≤ 268435456
  n : p.u.length ≤ 1048576
  u : ∀ x ∈ p.u, x ≤ 255
def poolCells (p : Pool) (bu bd : Nat) : List Value :=
  [.int .i64 p.first, .int .i64 p.u.length, .slice (some ⟨bu, 0, none⟩) p.u.length p.u.length, .slice (some ⟨bd, 0, none⟩) ((p.u.length + 63) / 64) ((p.u.length + 63) / 64), .int .i64 p.free]
def u8s (u : List Nat) : List Value := u.map fun n => Value.int .u8 (n : Nat)
def u64s (u : List Nat) : List Value := u.map fun n => Value.int .u64 (n : Nat)
structure PoolAt (w : World) (b bu bd : Nat) (p : Pool) : Prop where
  st : Has w b (poolCells p bu bd)
  us : Has w bu (u8s p.u)
  ws : ∃ ws, Bits p.u ws ∧ Has w bd (u64s ws)
  ne : b ≠ bu ∧ b ≠ bd ∧ bu ≠ bd
  ok : p.Ok
theorem PoolAt.qt {w w' : World} {b bu bd : Nat} {p : Pool} (h : PoolAt w b bu bd p) (q : Qt w w') : PoolAt w' b bu bd p :=
  ⟨h.st.qt q, h.us.qt q, let ⟨ws, h1, h2⟩ := h.ws; ⟨ws, h1, h2.qt q⟩, h.ne, h.ok⟩
theorem PoolAt.fr {S : Nat → Prop} {w w' : World} {b bu bd : Nat} {p : Pool} (h : PoolAt w b bu bd p) (q : Fr S w w') (h1 : ¬ S b) (h2 : ¬ S bu) (h3 : ¬ S bd) : PoolAt w' b bu bd p :=
  ⟨h.st.fr q h1, h.us.fr q h2, let ⟨ws, h1, h2⟩ := h.ws; ⟨ws, h1, h2.fr q h3⟩, h.ne, h.ok⟩
/-- the table of math/bits -/
structure Tz (w : World) : Prop where
  size : 0 < w.heap.size
  cell : ∀ k, k < 64 → w.cell? ⟨0, k, none⟩ = some (.int .u8 (Lib.deBruijn64tab.getD k 0 : Nat))
theorem Tz.of_block {w w' : World} (h : Tz w) (h0 : w'.heap[0]? = w.heap[0]?) : Tz w' := by
  have hs : 0 < w'.heap.size := by
    rcases Nat.eq_zero_or_pos w'.heap.size with h1 | h1
    · rw [Array.getElem?_eq_none (by omega), Array.getElem?_eq_getElem h.size] at h0; cases h0
    · exact h1
  exact ⟨hs, fun k hk => by rw [← h.cell k hk]; simp [World.cell?, h0]⟩
theorem Tz.qt {w w' : World} (h : Tz w) (q : Qt w w') : Tz w' := h.of_block (by rw [q.heap])
theorem Tz.fr {S : Nat → Prop} {w w' : World} (h : Tz w) (q : Fr S w w') (h0 : ¬ S 0) : Tz w' := h.of_block (q.block 0 h.size h0)

theorem u64s_get {ws : List Nat} {k : Nat} (h : k < ws.length) : (u64s ws)[k]? = some (.int .u64 (ws[k] : Nat)) := by simp [u64s, h]
theorem u8s_get {ws : List Nat} {k : Nat} (h : k < ws.length) : (u8s ws)[k]? = some (.int .u8 (ws[k] : Nat)) := by simp [u8s, h]

theorem tz_num (x : Nat) (h0 : x ≠ 0) (h : x < 2 ^ 64) :
    shrI IntKind.u64 (IntKind.u64.wrap (andI IntKind.u64 (x : Int) (IntKind.u64.wrap ((0 : Int) - (x : Int))) * (285870213051353865 : Int))) (58 : Int) = ((2 ^ Lib.ctz 64 x * 285870213051353865 % 18446744073709551616 / 288230376151711744 : Nat) : Int) := by
  have h1 : IntKind.u64.wrap ((0 : Int) - (x : Int)) = ((2 ^ 64 - x : Nat) : Int) := by
    rw [IntKind.wrap_u64]; omega
  obtain ⟨h2, h3⟩ := Lib.lowest_bit 64 x h0 h
  rw [h1, andI_u64 h (by omega), h2]
  have h4 : IntKind.u64.wrap (((2 ^ Lib.ctz 64 x : Nat) : Int) * (285870213051353865 : Int)) = ((2 ^ Lib.ctz 64 x * 285870213051353865 % 18446744073709551616 : Nat) : Int) := by
    generalize 2 ^ Lib.ctz 64 x = y
    rw [IntKind.wrap_u64]
    omega
  rw [h4, show (58 : Int) = ((58 : Nat) : Int) from rfl, shrI_nat (by decide), Nat.shiftRight_eq_div_pow]
theorem f69 {w : World} (hT : Tz w) (x : Nat) (h : x < 2 ^ 64) : Ret prog 69 #[.int .u64 (x : Int)] w fun v w' => v = .int .i64 (Lib.ctz 64 x : Nat) ∧ Qt w w' := by
  refine F69_of _ _ _ ?_
  unfold F69
  by_cases h0 : x = 0
  · subst h0
    exact ⟨by simp [Lib.ctz], Qt.refl w⟩
  · have hne : ((x : Int) == (0 : Int)) = false := by simpa using h0
    rw [hne, BIf_false, tz_num x h0 h]
    obtain ⟨_, hk⟩ := Lib.lowest_bit 64 x h0 h
    obtain ⟨h1, h2⟩ := Lib.deBruijn64_at _ hk
    generalize 2 ^ Lib.ctz 64 x * 285870213051353865 % 18446744073709551616 / 288230376151711744 = i at *
    refine ⟨by omega, by omega, ?_⟩
    rw [at0_mk, Int.toNat_natCast, Nat.mul_one, Nat.zero_add]
    refine ⟨_, hT.cell i h1, ?_⟩
    simp only [h2, AsI_int]
    rw [w64 (by omega) (by omega)]
    exact ⟨rfl, Qt.refl w⟩

theorem f49 {w : World} {b bu bd : Nat} {p : Pool} (hP : PoolAt w b bu bd p) (hT : Tz w) (i : Nat) (hi : i ≤ 2 ^ 40) (busy : Bool) :
    Ret prog 49 #[.pointer (some ⟨b, 0, none⟩), .int .i64 (i : Int), .bool busy] w fun v w' => v = .int .i64 (next p.u busy i : Nat) ∧ Qt w w' := by
  have hn := hP.ok.n
  refine F49_of _ _ _ _ _ ?_
  unfold F49
  refine Loop.by (fun s w' => ∃ k : Nat, s = [.int .i64 0, .int .i64 (k : Int)] ∧ k ≤ 2 ^ 41 ∧ next p.u busy k = next p.u busy i ∧ Qt w w')
    (fun s _ => match s with | [_, .int _ k] => p.u.length - k.toNat | _ => 0) ⟨i, rfl, by omega, rfl, Qt.refl w⟩ ?_
  rintro _ w1 ⟨k, rfl, hk, hnx, hq⟩
  have hP1 := hP.qt hq
  simp only [UnC_cons, UnN_nil, AsI_int, at0_mk, Nat.zero_add]
  refine hP1.st.ld rfl ?_
  simp only [AsI_int]
  by_cases hlt : k < p.u.length
  · have hd : decide ((k : Int) < (p.u.length : Int)) = true := by simpa using hlt
    rw [hd, BIf_true]
    refine hP1.st.ld rfl ?_
    simp only [AsSl_slice, NilP_some]
    obtain ⟨ws, hb, hws⟩ := hP1.ws
    have hkw : k / 64 < ws.length := by rw [hb.len]; omega
    have e1 : IntKind.i64.wrap ((k : Int).tdiv 64) = ((k / 64 : Nat) : Int) := by rw [IntWalk.i64_quo _ _ ⟨by omega, by omega, by omega⟩]; omega
    have e2 : (k : Int).tmod 64 = ((k % 64 : Nat) : Int) := by rw [IntWalk.rem_in _ _ (by omega)]; omega
    rw [e1, e2]
    refine ⟨by omega, by have := hb.len; omega, ?_⟩
    simp only [Int.toNat_natCast, Nat.mul_one, at0_mk, Nat.zero_add]
    refine hws.ld (u64s_get hkw) ?_
    simp only [AsI_int]
    have hwl := hb.lt _ hkw
    refine Join.at (fun s w' => s = [.int .u64 ((if busy then ws[k / 64] else 2 ^ 64 - 1 - ws[k / 64] : Nat) : Int)] ∧ w' = w1) ?_ ?_
    · cases busy with
      | true => refine ⟨?_, ?_⟩ <;> simp
      | false => rw [Bool.not_false, BIf_true, notI_u64 hwl]; refine ⟨?_, ?_⟩ <;> simp
    · rintro _ _ ⟨rfl, rfl⟩
      simp only [UnC_cons, UnN_nil, AsI_int]
      obtain ⟨hWl, hz, hnz⟩ := next_word hb hlt hkw _ rfl (busy := busy)
      generalize (if busy = true then ws[k / 64] else 2 ^ 64 - 1 - ws[k / 64]) = W at *
      refine NN.mk (by omega) ?_
      rw [shrI_nat (by show k % 64 ≤ 64; omega)]
      have hsl : W >>> (k % 64) < 2 ^ 64 := Nat.lt_of_le_of_lt (Nat.shiftRight_le _ _) hWl
      by_cases h0 : W >>> (k % 64) = 0
      · have hz' := hz h0
        have hd2 : (((W >>> (k % 64) : Nat) : Int) != (0 : Int)) = false := by rw [h0]; rfl
        rw [hd2, BIf_false]
        have e3 : IntKind.i64.wrap (IntKind.i64.wrap (((k / 64 : Nat) : Int) + 1) * 64) = (((k / 64 + 1) * 64 : Nat) : Int) := by
          rw [w64 (n := ((k / 64 : Nat) : Int) + 1) (by omega) (by omega), w64 (by omega) (by omega)]; omega
        rw [e3]
        refine ⟨⟨_, rfl, by omega, by rw [← hz']; exact hnx, hq⟩, ?_⟩
        simp only [Int.toNat_natCast]
        omega
      · obtain ⟨h1, h2⟩ := hnz h0
        have hd2 : (((W >>> (k % 64) : Nat) : Int) != (0 : Int)) = true := bne_iff_ne.2 (by omega)
        rw [hd2, BIf_true]
        refine hP1.st.drew.ld rfl ?_
        simp only [AsI_int]
        refine Ret.use (f69 ((hT.qt hq).qt (Qt.refl _).drew) _ hsl) ?_
        rintro v w2 ⟨rfl, hq2⟩
        simp only [AsI_int]
        refine ⟨?_, ?_, hq.trans hq2.of_drew⟩
        · rw [(hP1.st.qt hq2.of_drew).cell]; rfl
        · rw [← hnx, h1, w64 (by omega) (by omega)]
          congr 1
          generalize Lib.ctz 64 (W >>> (k % 64)) = c at *
          rw [Nat.min_def]
          split <;> split <;> omega
  · have hd : decide ((k : Int) < (p.u.length : Int)) = false := by simpa using hlt
    rw [hd, BIf_false]
    refine hP1.st.ld rfl ?_
    simp only [AsI_int]
    exact ⟨by rw [← hnx, next_end (by omega)], hq⟩
end Go.Proofs.YthpodlcbikialaaDoor

set_option linter.unusedVariables false
namespace Go.Proofs.YthpodlcbikialaaDoor
open Go Go.Sh Go.Fr
/-- the blocks of a pool -/
def Own (b bu bd : Nat) (x : Nat) : Prop := x = b ∨ x = bu ∨ x = bd
def stCells (first n : Nat) (bu bd : Nat) (free : Nat) : List Value :=
  [.int .i64 first, .int .i64 n, .slice (some ⟨bu, 0, none⟩) n n, .slice (some ⟨bd, 0, none⟩) ((n + 63) / 64) ((n + 63) / 64), .int .i64 free]
/-- between the steps of 'use' -/
structure Mid (w0 w : World) (b bu bd : Nat) (p : Pool) (u : List Nat) (free : Nat) : Prop where
  st : Has w b (stCells p.first p.u.length bu bd free)
  us : Has w bu (u8s p.u)
  ws : ∃ ws, Bits u ws ∧ Has w bd (u64s ws)
  fr : Fr (Own b bu bd) w0 w
theorem u64s_set {ws : List Nat} {k x : Nat} : (u64s ws).set k (.int .u64 (x : Nat)) = u64s (ws.set k x) := by simp [u64s, List.map_set]
theorem u8s_set {ws : List Nat} {k x : Nat} : (u8s ws).set k (.int .u8 (x : Nat)) = u8s (ws.set k x) := by simp [u8s, List.map_set]
theorem u64s_len {ws : List Nat} : (u64s ws).length = ws.length := by simp [u64s]
theorem u8s_len {ws : List Nat} : (u8s ws).length = ws.length := by simp [u8s]

theorem f50 {w : World} {b bu bd : Nat} {p : Pool} (hP : PoolAt w b bu bd p) (i n : Nat) (hi : i < p.u.length) (hn : n ≤ 255) :
    Ret prog 50 #[.pointer (some ⟨b, 0, none⟩), .int .i64 (i : Int), .int .u8 (n : Int)] w fun v w' => v = .tuple #[] ∧ PoolAt w' b bu bd ⟨p.first, p.u.set i n⟩ ∧ Fr (Own b bu bd) w w' := by
  have hN := hP.ok.n
  obtain ⟨ne1, ne2, ne3⟩ := hP.ne
  have e1 : IntKind.i64.wrap ((i : Int).tdiv 64) = ((i / 64 : Nat) : Int) := by rw [IntWalk.i64_quo _ _ ⟨by omega, by omega, by omega⟩]; omega
  have e2 : (i : Int).tmod 64 = ((i % 64 : Nat) : Int) := by rw [IntWalk.rem_in _ _ (by omega)]; omega
  have hsh : shlI .u64 (1 : Int) ((i % 64 : Nat) : Int) = ((1 <<< (i % 64) : Nat) : Int) := shlI_u64 (a := 1) (by omega) (one_shl_lt (by omega))
  have hsl : 1 <<< (i % 64) < 2 ^ 64 := one_shl_lt (by omega)
  have hc := count_set p.u i n hi
  have hle : p.u.countP (· = 0) ≤ p.u.length := List.countP_le_length
  have hle2 : (p.u.set i n).countP (· = 0) ≤ p.u.length := by have := List.countP_le_length (l := p.u.set i n) (p := fun x => decide (x = 0)); simpa using this
  refine F50_of _ _ _ _ _ ?_
  unfold F50
  simp only [at0_mk, Nat.zero_add, e1, e2, hsh]
  have h0 : Mid w w b bu bd p p.u p.free := ⟨hP.st, hP.us, hP.ws, Fr.refl _ _⟩
  refine Join.at (fun s w' => s = [] ∧ Mid w w' b bu bd p (if p.u[i] = 0 ∧ 0 < n then p.u.set i n else p.u) (if p.u[i] = 0 ∧ 0 < n then p.free - 1 else p.free)) ?_ ?_
  · refine hP.st.ld rfl ?_
    simp only [AsSl_slice, NilP_some]
    refine ⟨by omega, by omega, ?_⟩
    simp only [at0_mk, Int.toNat_natCast, Nat.mul_one, Nat.zero_add]
    refine hP.us.ld (u8s_get hi) ?_
    simp only [AsI_int]
    by_cases hz : p.u[i] = 0
    · have hb1 : (((p.u[i] : Nat) : Int) == (0 : Int)) = true := beq_iff_eq.2 (by omega)
      rw [hb1, BIf_true]
      by_cases hn0 : 0 < n
      · rw [if_pos ⟨hz, hn0⟩, if_pos ⟨hz, hn0⟩, decide_eq_true (show (n : Int) > 0 by omega), BIf_true]
        refine hP.st.ld rfl ?_
        simp only [AsI_int]
        have hfree : 1 ≤ p.free := by unfold Pool.free; rw [if_pos hz, if_neg (by omega)] at hc; omega
        have e3 : IntKind.i64.wrap ((p.free : Int) - 1) = ((p.free - 1 : Nat) : Int) := by rw [w64 (by unfold Pool.free; omega) (by unfold Pool.free; omega)]; omega
        rw [e3]
        refine hP.st.st (by simp [poolCells]) rfl fun w1 hw1 hf1 _ => ?_
        obtain ⟨ws, hb, hws⟩ := hP.ws
        have hkw : i / 64 < ws.length := by rw [hb.len]; omega
        have hws1 := hws.fr hf1 (Ne.symm ne2)
        have hus1 := hP.us.fr hf1 (Ne.symm ne1)
        refine hw1.drew.ld rfl ?_
        simp only [AsSl_slice, NilP_some]
        refine ⟨by omega, by have := hb.len; omega, ?_⟩
        simp only [at0_mk, Int.toNat_natCast, Nat.mul_one, Nat.zero_add]
        refine hws1.drew.ld (u64s_get hkw) ?_
        simp only [AsI_int]
        refine NN.mk (by omega) ?_
        refine ⟨by omega, by have := hb.len; omega, ?_⟩
        rw [orI_u64 (hb.lt _ hkw) hsl]
        refine hws1.drew.st (by rw [u64s_len]; exact hkw) rfl fun w2 hw2 hf2 _ => ?_
        rw [u64s_set] at hw2
        have hf2' := hf2.of_drew
        exact ⟨by trivial, hw1.fr hf2' ne2, hus1.fr hf2' ne3, ⟨_, hb.setPos hi hkw hn0, hw2⟩,
          (hf1.mono fun _ _ h => .inl h).trans (hf2'.mono fun _ _ h => .inr (.inr h))⟩
      · rw [if_neg (by omega), if_neg (by omega), decide_eq_false (show ¬ (n : Int) > 0 by omega), BIf_false]
        exact ⟨by trivial, h0⟩
    · have hb1 : (((p.u[i] : Nat) : Int) == (0 : Int)) = false := beq_eq_false_iff_ne.2 (by omega)
      rw [hb1, BIf_false, if_neg (by omega), if_neg (by omega)]
      exact ⟨by trivial, h0⟩
  · rintro _ w1 ⟨rfl, m1⟩
    simp only [UnN_nil]
    refine Join.at (fun s w' => s = [] ∧ Mid w w' b bu bd p (p.u.set i n) ((p.u.set i n).countP (· = 0))) ?_ ?_
    · refine m1.st.ld rfl ?_
      simp only [AsSl_slice, NilP_some]
      refine ⟨by omega, by omega, ?_⟩
      simp only [at0_mk, Int.toNat_natCast, Nat.mul_one, Nat.zero_add]
      refine m1.us.ld (u8s_get hi) ?_
      simp only [AsI_int]
      by_cases hz : p.u[i] = 0
      · rw [decide_eq_false (show ¬ ((p.u[i] : Nat) : Int) > 0 by omega), BIf_false]
        rw [if_pos hz] at hc
        by_cases hn0 : 0 < n
        · rw [if_neg (by omega)] at hc
          rw [if_pos ⟨hz, hn0⟩, if_pos ⟨hz, hn0⟩] at m1
          have : (p.u.set i n).countP (· = 0) = p.free - 1 := by unfold Pool.free; omega
          rw [this]; exact ⟨by trivial, m1⟩
        · rw [if_pos (by omega)] at hc
          rw [if_neg (by omega), if_neg (by omega)] at m1
          have h1 : (p.u.set i n).countP (· = 0) = p.free := by unfold Pool.free; omega
          have h2 : p.u.set i n = p.u := by
            have : n = p.u[i] := by omega
            rw [this]; exact List.set_getElem_self hi
          rw [h1, h2]; exact ⟨by trivial, m1⟩
      · rw [decide_eq_true (show ((p.u[i] : Nat) : Int) > 0 by omega), BIf_true]
        rw [if_neg hz] at hc
        rw [if_neg (by omega), if_neg (by omega)] at m1
        by_cases hn0 : n = 0
        · rw [if_pos hn0] at hc
          have hb1 : ((n : Int) == (0 : Int)) = true := beq_iff_eq.2 (by omega)
          rw [hb1, BIf_true]
          refine m1.st.ld rfl ?_
          simp only [AsI_int]
          have e3 : IntKind.i64.wrap ((p.free : Int) + 1) = (((p.u.set i n).countP (· = 0) : Nat) : Int) := by
            rw [w64 (by unfold Pool.free; omega) (by unfold Pool.free; omega)]; unfold Pool.free; omega
          rw [e3]
          refine m1.st.st (by simp [stCells]) rfl fun w2 hw1 hf1 _ => ?_
          obtain ⟨ws, hb, hws⟩ := m1.ws
          have hkw : i / 64 < ws.length := by rw [hb.len]; omega
          have hws1 := hws.fr hf1 (Ne.symm ne2)
          have hus1 := m1.us.fr hf1 (Ne.symm ne1)
          refine hw1.drew.ld rfl ?_
          simp only [AsSl_slice, NilP_some]
          refine ⟨by omega, by have := hb.len; omega, ?_⟩
          simp only [at0_mk, Int.toNat_natCast, Nat.mul_one, Nat.zero_add]
          refine hws1.drew.ld (u64s_get hkw) ?_
          simp only [AsI_int]
          refine NN.mk (by omega) ?_
          refine ⟨by omega, by have := hb.len; omega, ?_⟩
          rw [andNotI_u64 (hb.lt _ hkw) hsl]
          refine hws1.drew.st (by rw [u64s_len]; exact hkw) rfl fun w3 hw2 hf2 _ => ?_
          rw [u64s_set] at hw2
          have hf2' := hf2.of_drew
          subst hn0
          exact ⟨by trivial, hw1.fr hf2' ne2, hus1.fr hf2' ne3, ⟨_, hb.setZero hi hkw, hw2⟩,
            m1.fr.trans ((hf1.mono fun _ _ h => .inl h).trans (hf2'.mono fun _ _ h => .inr (.inr h)))⟩
        · rw [if_neg hn0] at hc
          have hb1 : ((n : Int) == (0 : Int)) = false := beq_eq_false_iff_ne.2 (by omega)
          rw [hb1, BIf_false]
          have h1 : (p.u.set i n).countP (· = 0) = p.free := by unfold Pool.free; omega
          rw [h1]
          obtain ⟨ws, hb, hws⟩ := m1.ws
          refine ⟨by trivial, m1.st, m1.us, ⟨ws, hb.same (by simp) fun j => ?_, hws⟩, m1.fr⟩
          rw [getD_set _ _ _ _ hi]
          split
          · rename_i e; subst e; rw [getD_get hi]; simp; omega
          · rfl
    · rintro _ w2 ⟨rfl, m2⟩
      simp only [UnN_nil]
      refine m2.st.ld rfl ?_
      simp only [AsSl_slice, NilP_some]
      refine ⟨by omega, by omega, ?_⟩
      simp only [at0_mk, Int.toNat_natCast, Nat.mul_one, Nat.zero_add]
      refine m2.us.st (by rw [u8s_len]; exact hi) rfl fun w3 hw3 hf3 _ => ?_
      rw [u8s_set] at hw3
      obtain ⟨ws, hb, hws⟩ := m2.ws
      refine ⟨by trivial, ⟨?_, hw3, ⟨ws, hb, hws.fr hf3 (Ne.symm ne3)⟩, hP.ne, ⟨by simpa using hP.ok.le, by simpa using hP.ok.n, fun x hx => ?_⟩⟩, m2.fr.trans (hf3.mono fun _ _ h => .inr (.inl h))⟩
      · have := m2.st.fr hf3 ne1
        simpa [stCells, poolCells, Pool.free] using this
      · rcases List.mem_or_eq_of_mem_set hx with h | h
        · exact hP.ok.u x h
        · omega
end Go.Proofs.YthpodlcbikialaaDoor

set_option linter.unusedVariables false
set_option linter.unusedSimpArgs false
namespace Go.Proofs.YthpodlcbikialaaDoor
open Go Go.Sh
def isOne (v : Value) : Bool := match v with | .int .i64 x => decide (x = 1) | _ => false
def pow2B (x : Nat) : Bool := [1, 2, 4, 8, 16, 32, 64, 128, 256, 512, 1024, 2048, 4096].contains x
set_option maxRecDepth 100000 in
theorem f68_all (w : World) : ∀ x : Nat, x < 4097 → F68 (x : Int) w fun v _ => isOne v = pow2B x := by
  unfold F68
  dsimp only
  clear w
  decide +kernel
end Go.Proofs.YthpodlcbikialaaDoor

set_option linter.unusedVariables false
set_option linter.unusedSimpArgs false
namespace Go.Proofs.YthpodlcbikialaaDoor
open Go Go.Sh Go.Fr

theorem f48 {w : World} (a : Nat) (h : a < 4097) : Ret prog 48 #[.int .u64 (a : Int)] w fun v w' => (∃ c : Int, v = .int .i64 c ∧ (c != 1) = !pow2B a) ∧ w' = w := by
  have h68 : Ret prog 68 #[.int .u64 (a : Int)] w fun v w' => (∃ c : Int, v = .int .i64 c ∧ (c != 1) = !pow2B a) ∧ w' = w := by
    refine F68_of _ _ _ ?_
    have := f68_all w a h
    unfold F68 at this ⊢
    dsimp only [isOne] at this
    refine ⟨⟨_, rfl, ?_⟩, rfl⟩
    rw [← this]
    rw [bne, Bool.not_inj_iff]
    rw [Bool.eq_iff_iff]
    simp
  refine F48_of _ _ _ ?_
  unfold F48
  refine Ret.use h68 ?_
  rintro v w' ⟨⟨c, rfl, hc⟩, rfl⟩
  simp only [AsI_int]
  exact ⟨⟨c, rfl, hc⟩, by trivial⟩

/-- uses of a frame -/
def Pool.at_ (p : Pool) (f : Int) : Nat := if f < p.first then 0 else p.u.getD (f - p.first).toNat 0
theorem f16 {w : World} {b bu bd : Nat} {p : Pool} (hP : PoolAt w b bu bd p) (f : Int) (hf : -9223372036854775808 ≤ f ∧ f ≤ 9223372036854775807) :
    Ret prog 16 #[.pointer (some ⟨b, 0, none⟩), .int .i64 f] w fun v w' => v = .int .i64 (p.at_ f : Nat) ∧ Qt w w' := by
  have hN := hP.ok.n
  have hL := hP.ok.le
  refine F16_of _ _ _ _ ?_
  unfold F16
  simp only [at0_mk, Nat.zero_add]
  refine hP.st.drew.ld rfl ?_
  simp only [AsI_int]
  by_cases h1 : f < p.first
  · rw [decide_eq_true h1, BIf_true]
    exact ⟨by simp [Pool.at_, h1], (Qt.refl w).drew⟩
  · rw [decide_eq_false h1, BIf_false]
    refine hP.st.drew.ld rfl ?_
    simp only [AsI_int]
    refine hP.st.drew.ld rfl ?_
    simp only [AsI_int]
    rw [w64 (n := (p.first : Int) + (p.u.length : Int)) (by omega) (by omega)]
    by_cases h2 : f ≥ (p.first : Int) + p.u.length
    · rw [decide_eq_true h2, BIf_true]
      refine ⟨?_, (Qt.refl w).drew⟩
      simp only [Pool.at_, if_neg h1]
      have : p.u.length ≤ (f - p.first).toNat := by omega
      generalize (f - (p.first : Int)).toNat = k at *
      simp [List.getD, this]
    · rw [decide_eq_false h2, BIf_false]
      refine hP.st.drew.drew.ld rfl ?_
      simp only [AsSl_slice]
      refine hP.st.drew.drew.ld rfl ?_
      simp only [AsI_int, NilP_some]
      rw [w64 (n := f - (p.first : Int)) (by omega) (by omega)]
      refine ⟨by omega, by omega, ?_⟩
      simp only [at0_mk, Nat.mul_one, Nat.zero_add]
      have hlt : (f - (p.first : Int)).toNat < p.u.length := by omega
      refine hP.us.drew.drew.ld (u8s_get hlt) ?_
      simp only [AsI_int]
      have hx := hP.ok.u _ (List.getElem_mem hlt)
      rw [w64 (by omega) (by omega)]
      refine ⟨?_, (Qt.refl w).drew.drew⟩
      simp only [Pool.at_, if_neg h1, getD_get hlt]
theorem f26 {w : World} {b bu bd : Nat} {p : Pool} (hP : PoolAt w b bu bd p) :
    Ret prog 26 #[.pointer (some ⟨b, 0, none⟩)] w fun v w' => v = .int .i64 (p.free : Nat) ∧ w' = w := by
  refine F26_of _ _ _ ?_
  unfold F26
  simp only [at0_mk, Nat.zero_add]
  refine hP.st.ld rfl ?_
  simp only [AsI_int]
  exact ⟨by trivial, by trivial⟩
theorem f29 {w : World} {b bu bd : Nat} {p : Pool} (hP : PoolAt w b bu bd p) :
    Ret prog 29 #[.pointer (some ⟨b, 0, none⟩)] w fun v w' => v = .agg #[.int .i64 p.first, .int .i64 p.u.length] ∧ Fr (fun _ => False) w w' := by
  refine F29_of _ _ _ ?_
  unfold F29
  simp only [at0_mk, Nat.zero_add]
  refine New.mk fun w1 hn hf hs => ?_
  have hst := hP.st.fr hf (fun h => h)
  refine hst.drew.ld rfl ?_
  simp only [AsI_int]
  refine hst.drew.ld rfl ?_
  simp only [AsI_int]
  refine hn.drew.st (by simp) rfl fun w2 hn2 hf2 _ => ?_
  simp only [at0_mk, Nat.zero_add]
  refine hn2.st (by simp) rfl fun w3 hn3 hf3 _ => ?_
  refine hn3.ld rfl ?_
  simp only [AsI_int]
  refine hn3.ld rfl ?_
  simp only [AsI_int]
  refine ⟨by trivial, ?_⟩
  have h2 : Fr (fun x => x = w.heap.size) w w3 := ((hf.mono fun _ _ h => h.elim).trans hf2.of_drew).trans hf3
  exact h2.mono fun x hx h => by omega

/-- the answer of 'run': the place, and an error -/
def Pool.run (p : Pool) (first n : Int) : Nat × Nat :=
  if n < 1 then (0, 41) else if first < p.first ∨ first ≥ p.first + p.u.length ∨ n > p.first + p.u.length - first then (0, 40)
  else if (next p.u false (first - p.first).toNat : Int) < first - p.first + n then (0, 43) else ((first - p.first).toNat, 0)
theorem f51 {w : World} {b bu bd : Nat} {p : Pool} (hP : PoolAt w b bu bd p) (hT : Tz w) (first n : Int) (hf : -9223372036854775808 ≤ first ∧ first ≤ 9223372036854775807) (hn : n ≤ 9223372036854775807) :
    Ret prog 51 #[.pointer (some ⟨b, 0, none⟩), .int .i64 first, .int .i64 n] w fun v w' => v = .tuple #[.int .i64 ((p.run first n).1 : Nat), .int .i64 ((p.run first n).2 : Nat)] ∧ Qt w w' := by
  have hN := hP.ok.n
  have hL := hP.ok.le
  refine F51_of _ _ _ _ _ ?_
  unfold F51
  simp only [at0_mk, Nat.zero_add]
  by_cases h0 : n < 1
  · rw [decide_eq_true h0, BIf_true]; exact ⟨by simp [Pool.run, h0], Qt.refl w⟩
  rw [decide_eq_false h0, BIf_false]
  refine hP.st.drew.ld rfl ?_
  simp only [AsI_int]
  by_cases h1 : first < p.first
  · rw [decide_eq_true h1, BIf_true]; exact ⟨by simp [Pool.run, h0, h1], (Qt.refl w).drew⟩
  rw [decide_eq_false h1, BIf_false]
  refine hP.st.drew.ld rfl ?_
  simp only [AsI_int]
  refine hP.st.drew.ld rfl ?_
  simp only [AsI_int]
  rw [w64 (n := (p.first : Int) + (p.u.length : Int)) (by omega) (by omega)]
  by_cases h2 : first ≥ (p.first : Int) + p.u.length
  · rw [decide_eq_true h2, BIf_true]; exact ⟨by simp [Pool.run, h0, h2], (Qt.refl w).drew⟩
  rw [decide_eq_false h2, BIf_false]
  refine hP.st.drew.ld rfl ?_
  simp only [AsI_int]
  refine hP.st.drew.ld rfl ?_
  simp only [AsI_int]
  rw [w64 (n := (p.first : Int) + (p.u.length : Int)) (by omega) (by omega), w64 (n := (p.first : Int) + (p.u.length : Int) - first) (by omega) (by omega)]
  by_cases h3 : n > (p.first : Int) + p.u.length - first
  · rw [decide_eq_true h3, BIf_true]; exact ⟨by simp [Pool.run, h0, h3], (Qt.refl w).drew⟩
  rw [decide_eq_false h3, BIf_false]
  refine hP.st.drew.ld rfl ?_
  simp only [AsI_int]
  obtain ⟨k, hk⟩ : ∃ k : Nat, first - (p.first : Int) = k := ⟨(first - p.first).toNat, by omega⟩
  rw [w64 (n := first - (p.first : Int)) (by omega) (by omega), hk, w64 (n := (k : Int) + n) (by omega) (by omega)]
  refine Ret.use (f49 (hP.qt (Qt.refl w).drew) (hT.qt (Qt.refl w).drew) k (by omega) false) ?_
  rintro v w1 ⟨rfl, hq⟩
  simp only [AsI_int]
  have hr : p.run first n = if (next p.u false k : Int) < (k : Int) + n then (0, 43) else (k, 0) := by
    simp only [Pool.run, if_neg h0, if_neg (show ¬ (first < p.first ∨ first ≥ p.first + p.u.length ∨ n > p.first + p.u.length - first) by omega), hk, Int.toNat_natCast]
  by_cases h4 : (next p.u false k : Int) < (k : Int) + n
  · rw [decide_eq_true h4, BIf_true, hr, if_pos h4]; exact ⟨rfl, hq.of_drew⟩
  · rw [decide_eq_false h4, BIf_false, hr, if_neg h4]; exact ⟨rfl, hq.of_drew⟩
end Go.Proofs.YthpodlcbikialaaDoor

set_option linter.unusedVariables false
set_option linter.unusedSimpArgs false
namespace Go.Proofs.YthpodlcbikialaaDoor
open Go Go.Sh Go.Fr
theorem und66 : prog.underlying 66 = some (.slice 5) := by kernel_rfl
theorem inf5 : (prog.info? 5).map (fun i => (i.zero, i.size, i.bytes)) = some (some (.int .u8 0), 1, 1) := by kernel_rfl
theorem und81 : prog.underlying 81 = some (.slice 101) := by kernel_rfl
theorem inf101 : (prog.info? 101).map (fun i => (i.zero, i.size, i.bytes)) = some (some (.int .u64 0), 1, 8) := by kernel_rfl
def newPool (first n : Nat) : Pool := ⟨first, List.replicate n 0⟩
theorem Bits.zero (n : Nat) : Bits (List.replicate n 0) (List.replicate ((n + 63) / 64) 0) := by
  refine ⟨by simp, fun k h => by simp, fun k j h hj => ?_⟩
  rw [List.getElem_replicate, Nat.zero_testBit]
  have : (List.replicate n 0).getD (64 * k + j) 0 = 0 := by
    simp only [List.getD, List.getElem?_replicate]; split <;> rfl
  rw [this]; rfl
theorem newPool_ok {first n : Nat} (h1 : n ≤ 1048576) (h2 : first + n ≤ 268435456) : (newPool first n).Ok :=
  ⟨by simpa [newPool] using h2, by simpa [newPool] using h1, fun x hx => by simp [newPool] at hx; omega⟩
theorem newPool_free (first n : Nat) : (newPool first n).free = n := by simp [newPool, Pool.free, List.countP_replicate]
/-- the answer of New: an error, or the pool -/
def newErr (first n : Int) : Nat := if n < 0 ∨ n > 1048576 then 41 else if first < 0 ∨ first > 268435456 - n then 40 else 0
theorem f41 {w : World} (first n : Int) (hf : -9223372036854775808 ≤ first ∧ first ≤ 9223372036854775807) :
    Ret prog 41 #[.int .i64 first, .int .i64 n] w fun v w' =>
      (newErr first n ≠ 0 ∧ v = .tuple #[.pointer none, .int .i64 (newErr first n : Nat)] ∧ Qt w w') ∨
      (newErr first n = 0 ∧ 0 ≤ first ∧ 0 ≤ n ∧ n ≤ 1048576 ∧ first + n ≤ 268435456 ∧ ∃ b bu bd, v = .tuple #[.pointer (some ⟨b, 0, none⟩), .int .i64 0] ∧ PoolAt w' b bu bd (newPool first.toNat n.toNat) ∧ Fr (fun _ => False) w w' ∧
        w.heap.size ≤ b ∧ w.heap.size ≤ bu ∧ w.heap.size ≤ bd) := by
  refine F41_of _ _ _ _ ?_
  unfold F41
  by_cases h1 : n < 0
  · rw [decide_eq_true h1, BIf_true]; exact .inl ⟨by simp [newErr, h1], by simp [newErr, h1], Qt.refl w⟩
  rw [decide_eq_false h1, BIf_false]
  by_cases h2 : n > 1048576
  · rw [decide_eq_true h2, BIf_true]; exact .inl ⟨by simp [newErr, h2], by simp [newErr, h2], Qt.refl w⟩
  rw [decide_eq_false h2, BIf_false]
  have hg : ¬ (n < 0 ∨ n > 1048576) := by omega
  by_cases h3 : first < 0
  · rw [decide_eq_true h3, BIf_true]; exact .inl ⟨by simp [newErr, if_neg hg, h3], by simp [newErr, if_neg hg, h3], Qt.refl w⟩
  rw [decide_eq_false h3, BIf_false, w64 (n := (268435456 : Int) - n) (by omega) (by omega)]
  by_cases h4 : first > 268435456 - n
  · rw [decide_eq_true h4, BIf_true]; exact .inl ⟨by simp [newErr, if_neg hg, h4], by simp [newErr, if_neg hg, h4], Qt.refl w⟩
  rw [decide_eq_false h4, BIf_false]
  obtain ⟨k, rfl⟩ : ∃ k : Nat, n = k := ⟨n.toNat, by omega⟩
  obtain ⟨a, rfl⟩ : ∃ k : Nat, first = k := ⟨first.toNat, by omega⟩
  have e1 : IntKind.i64.wrap ((IntKind.i64.wrap ((k : Int) + 63)).tdiv 64) = (((k + 63) / 64 : Nat) : Int) := by
    rw [w64 (n := (k : Int) + 63) (by omega) (by omega), IntWalk.i64_quo _ _ ⟨by omega, by omega, by omega⟩]; omega
  simp only [e1]
  have hzero : newErr (a : Int) (k : Int) = 0 := by simp only [newErr, if_neg hg]; rw [if_neg (by omega)]
  have hcells : ∀ bu bd : Nat, [Value.int .i64 (a : Int), .int .i64 (k : Int), .slice (some ⟨bu, 0, none⟩) k k, .slice (some ⟨bd, 0, none⟩) ((k + 63) / 64) ((k + 63) / 64), .int .i64 (k : Int)] = poolCells (newPool a k) bu bd := by
    intro bu bd; simp [poolCells, newPool_free]; simp [newPool]
  have hu8 : u8s (newPool a k).u = List.replicate k (.int .u8 0) := by simp [u8s, newPool]
  have hu64 : u64s (List.replicate ((k + 63) / 64) 0) = List.replicate ((k + 63) / 64) (.int .u64 0) := by simp [u64s]
  refine ⟨?_, ?_⟩
  · refine RunV.make 66 5 _ 1 k und66 inf5 rfl (by omega) (by omega) fun w1 hu hf1 hs1 => ?_
    simp only [AsSl_slice]
    refine RunV.make 81 101 _ 8 ((k + 63) / 64) und81 inf101 rfl (by omega) (by omega) fun w2 hd hf2 hs2 => ?_
    simp only [AsSl_slice]
    refine New.mk fun w3 hp hf3 hs3 => ?_
    have hu2 := (hu.fr hf2 (fun h => h)).fr hf3 (fun h => h)
    have hd2 := hd.fr hf3 (fun h => h)
    refine .inr ⟨hzero, by omega, by omega, by omega, by omega, w2.heap.size, w.drew.heap.size, w1.heap.size, rfl, ⟨?_, ?_, ⟨_, Bits.zero k, ?_⟩, ?_, ?_⟩, ((hf1.trans hf2).trans hf3).of_drew, ?_, ?_, ?_⟩
    · rw [Int.toNat_natCast, Int.toNat_natCast, ← hcells]; exact hp
    · rw [Int.toNat_natCast, Int.toNat_natCast, hu8]; exact hu2
    · rw [hu64]; exact hd2
    · have h5 : w.drew.heap.size = w.heap.size := rfl
      omega
    · simp only [Int.toNat_natCast]; exact newPool_ok (by omega) (by omega)
    · have h5 : w.drew.heap.size = w.heap.size := rfl
      omega
    · exact Nat.le_refl _
    · have h5 : w.drew.heap.size = w.heap.size := rfl
      omega
  · refine RunV.make 81 101 _ 8 ((k + 63) / 64) und81 inf101 rfl (by omega) (by omega) fun w1 hd hf1 hs1 => ?_
    simp only [AsSl_slice]
    refine RunV.make 66 5 _ 1 k und66 inf5 rfl (by omega) (by omega) fun w2 hu hf2 hs2 => ?_
    simp only [AsSl_slice]
    refine New.mk fun w3 hp hf3 hs3 => ?_
    have hd2 := (hd.fr hf2 (fun h => h)).fr hf3 (fun h => h)
    have hu2 := hu.fr hf3 (fun h => h)
    refine .inr ⟨hzero, by omega, by omega, by omega, by omega, w2.heap.size, w1.heap.size, w.drew.heap.size, rfl, ⟨?_, ?_, ⟨_, Bits.zero k, ?_⟩, ?_, ?_⟩, ((hf1.trans hf2).trans hf3).of_drew, ?_, ?_, ?_⟩
    · rw [Int.toNat_natCast, Int.toNat_natCast, ← hcells]; exact hp
    · rw [Int.toNat_natCast, Int.toNat_natCast, hu8]; exact hu2
    · rw [hu64]; exact hd2
    · have h5 : w.drew.heap.size = w.heap.size := rfl
      omega
    · simp only [Int.toNat_natCast]; exact newPool_ok (by omega) (by omega)
    · have h5 : w.drew.heap.size = w.heap.size := rfl
      omega
    · have h5 : w.drew.heap.size = w.heap.size := rfl
      omega
    · exact Nat.le_refl _

/-- one use more, or less, for the first j of n frames from place k on -/
def turn (u : List Nat) (k : Nat) (f : Nat → Nat) : Nat → List Nat
  | 0 => u
  | j + 1 => (turn u k f j).set (k + j) (f (u.getD (k + j) 0))
theorem turn_len (u : List Nat) (k : Nat) (f : Nat → Nat) : ∀ j, (turn u k f j).length = u.length
  | 0 => rfl
  | j + 1 => by simp [turn, turn_len u k f j]
theorem turn_get (u : List Nat) (k : Nat) (f : Nat → Nat) (x : Nat) : ∀ j, k + j ≤ u.length → (turn u k f j).getD x 0 = if k ≤ x ∧ x < k + j then f (u.getD x 0) else u.getD x 0
  | 0, _ => by rw [if_neg (by omega)]; rfl
  | j + 1, h => by
    rw [turn, getD_set _ _ _ _ (by rw [turn_len]; omega), turn_get u k f x j (by omega)]
    by_cases e : k + j = x
    · subst e; rw [if_pos rfl, if_pos (by omega)]
    · rw [if_neg e]
      by_cases h2 : k ≤ x ∧ x < k + j
      · rw [if_pos h2, if_pos (by omega)]
      · rw [if_neg h2, if_neg (by omega)]
end Go.Proofs.YthpodlcbikialaaDoor

set_option linter.unusedVariables false
set_option linter.unusedSimpArgs false
namespace Go.Proofs.YthpodlcbikialaaDoor
open Go Go.Sh Go.Fr
/-- what 'run' says where it finds no fault -/
theorem run_ok {p : Pool} {first n : Int} (h : (p.run first n).2 = 0) : 1 ≤ n ∧ (p.first : Int) ≤ first ∧ first + n ≤ p.first + p.u.length ∧ (p.run first n).1 = (first - p.first).toNat ∧
    (∀ x, (first - p.first).toNat ≤ x → x < (first - p.first).toNat + n.toNat → 0 < p.u.getD x 0) := by
  unfold Pool.run at *
  split at h
  · cases h
  rename_i h0
  split at h
  · cases h
  rename_i h1
  split at h
  · cases h
  rename_i h2
  rw [if_neg h0, if_neg h1, if_neg h2]
  refine ⟨by omega, by omega, by omega, rfl, fun x hx hx2 => ?_⟩
  obtain ⟨s1, s2, s3, s4⟩ := next_spec p.u false (first - p.first).toNat
  have hlt : x < p.u.length := by omega
  have := s4 x hx (by omega) hlt
  rw [getD_get hlt]
  have h3 : ¬ p.u[x] = 0 := by simpa using this
  omega
theorem own_trans {b bu bd : Nat} {w w1 w2 : World} (h : Fr (Own b bu bd) w w1) (k : Fr (Own b bu bd) w1 w2) : Fr (Own b bu bd) w w2 := h.trans k
theorem turn_ok {p : Pool} (hp : p.Ok) (k : Nat) (f : Nat → Nat) (j : Nat) (hf : ∀ x, k ≤ x → x < k + j → f (p.u.getD x 0) ≤ 255) (h : k + j ≤ p.u.length) : (⟨p.first, turn p.u k f j⟩ : Pool).Ok := by
  refine ⟨by simpa [turn_len] using hp.le, by simpa [turn_len] using hp.n, fun x hx => ?_⟩
  obtain ⟨i, hi, rfl⟩ := List.getElem_of_mem hx
  have := turn_get p.u k f i j h
  rw [getD_get hi] at this
  simp only at this ⊢
  rw [this]
  split
  · rename_i h2; exact hf i h2.1 h2.2
  · have hi' : i < p.u.length := by simpa [turn_len] using hi
    rw [getD_get hi']; exact hp.u _ (List.getElem_mem hi')
def Pool.turned (p : Pool) (k : Nat) (f : Nat → Nat) (j : Nat) : Pool := ⟨p.first, turn p.u k f j⟩

theorem f25 {w : World} {b bu bd : Nat} {p : Pool} (hP : PoolAt w b bu bd p) (hT : Tz w) (hd : ¬ Own b bu bd 0) (first n : Int) (hf : -9223372036854775808 ≤ first ∧ first ≤ 9223372036854775807) (hn : n ≤ 9223372036854775807) :
    Ret prog 25 #[.pointer (some ⟨b, 0, none⟩), .int .i64 first, .int .i64 n] w fun v w' =>
      ((p.run first n).2 ≠ 0 ∧ v = .tuple #[.int .i64 0, .int .i64 ((p.run first n).2 : Nat)] ∧ Qt w w') ∨
      ((p.run first n).2 = 0 ∧ v = .tuple #[.int .i64 (((p.turned (first - p.first).toNat (· - 1) n.toNat).free : Int) - p.free), .int .i64 0] ∧ PoolAt w' b bu bd (p.turned (first - p.first).toNat (· - 1) n.toNat) ∧ Fr (Own b bu bd) w w') := by
  have hN := hP.ok.n
  have hL := hP.ok.le
  refine F25_of _ _ _ _ _ ?_
  unfold F25
  refine Ret.use (f51 hP hT first n hf hn) ?_
  rintro v w1 ⟨rfl, hq⟩
  simp only [AsTup_tuple, UnC_cons, AsI_int, UnN_nil]
  by_cases h0 : (p.run first n).2 = 0
  · have hb : (((p.run first n).2 : Int) != (0 : Int)) = false := by rw [h0]; rfl
    rw [hb, BIf_false]
    obtain ⟨r1, r2, r3, r4, r5⟩ := run_ok h0
    obtain ⟨k, hk⟩ : ∃ k : Nat, first - (p.first : Int) = k := ⟨(first - p.first).toNat, by omega⟩
    obtain ⟨m, rfl⟩ : ∃ m : Nat, n = m := ⟨n.toNat, by omega⟩
    have hkN : (first - (p.first : Int)).toNat = k := by omega
    have hmN : ((m : Int)).toNat = m := rfl
    simp only [hkN, hmN] at r4 r5 ⊢
    rw [r4]
    have hP1 := hP.qt hq
    simp only [at0_mk, Nat.zero_add]
    refine hP1.st.ld rfl ?_
    simp only [AsI_int]
    refine Loop.by (fun s w' => ∃ j : Nat, s = [.int .i64 (j : Int)] ∧ j ≤ m ∧ PoolAt w' b bu bd (p.turned k (· - 1) j) ∧ Fr (Own b bu bd) w w') (fun s _ => match s with | [.int _ j] => m - j.toNat | _ => 0)
      ⟨0, rfl, by omega, hP1, hq.fr⟩ ?_
    rintro _ w2 ⟨j, rfl, hj, hP2, hf2⟩
    simp only [UnC_cons, AsI_int, UnN_nil]
    have hlen : (p.turned k (· - 1) j).u.length = p.u.length := turn_len _ _ _ _
    by_cases hjm : j < m
    · rw [decide_eq_true (show (j : Int) < (m : Int) by omega), BIf_true]
      refine hP2.st.ld rfl ?_
      simp only [AsSl_slice, NilP_some]
      have hkj : k + j < p.u.length := by rw [hlen] at *; omega
      have hkj2 : k + j < (p.turned k (· - 1) j).u.length := by omega
      rw [w64 (n := (k : Int) + (j : Int)) (by omega) (by omega), show (k : Int) + (j : Int) = ((k + j : Nat) : Int) from by omega]
      refine ⟨by omega, by omega, ?_⟩
      simp only [at0_mk, Int.toNat_natCast, Nat.mul_one, Nat.zero_add]
      refine hP2.us.ld (u8s_get hkj2) ?_
      simp only [AsI_int]
      have hval : (p.turned k (· - 1) j).u[k + j] = p.u.getD (k + j) 0 := by
        rw [← getD_get hkj2]
        show (turn p.u k (· - 1) j).getD (k + j) 0 = _
        rw [turn_get _ _ _ _ _ (by omega), if_neg (by omega)]
      have hpos := r5 (k + j) (by omega) (by omega)
      have hle : p.u.getD (k + j) 0 ≤ 255 := by rw [getD_get hkj]; exact hP.ok.u _ (List.getElem_mem hkj)
      rw [hval, wu8 (by omega) (by omega), show ((p.u.getD (k + j) 0 : Nat) : Int) - 1 = ((p.u.getD (k + j) 0 - 1 : Nat) : Int) from by omega]
      refine Ret.use (f50 hP2 (k + j) (p.u.getD (k + j) 0 - 1) hkj2 (by omega)) ?_
      rintro v w3 ⟨rfl, hP3, hf3⟩
      simp only [AsTup_tuple, UnN_nil]
      rw [w64 (n := (j : Int) + 1) (by omega) (by omega)]
      exact ⟨⟨j + 1, rfl, by omega, hP3, hf2.trans hf3⟩, by show m - ((j : Int) + 1).toNat < m - (j : Int).toNat; omega⟩
    · rw [decide_eq_false (show ¬ (j : Int) < (m : Int) by omega), BIf_false]
      obtain rfl : j = m := by omega
      refine hP2.st.ld rfl ?_
      simp only [AsI_int]
      have c1 : p.free ≤ p.u.length := List.countP_le_length
      have c2 : (p.turned k (· - 1) j).free ≤ p.u.length := by rw [← hlen]; exact List.countP_le_length
      rw [w64 (by omega) (by omega)]
      exact .inr ⟨h0, by trivial, hP2, hf2⟩
  · have hb : (((p.run first n).2 : Int) != (0 : Int)) = true := bne_iff_ne.2 (by omega)
    rw [hb, BIf_true]
    exact .inl ⟨h0, by trivial, hq⟩
end Go.Proofs.YthpodlcbikialaaDoor

set_option linter.unusedVariables false
set_option linter.unusedSimpArgs false
namespace Go.Proofs.YthpodlcbikialaaDoor
open Go Go.Sh Go.Fr
/-- has one of the n frames from place k on 255 uses? -/
def Pool.full (p : Pool) (k n : Nat) : Prop := ∃ x, k ≤ x ∧ x < k + n ∧ p.u.getD x 0 = 255
def Pool.shareErr (p : Pool) (first n : Int) (e : Nat) : Prop :=
  if (p.run first n).2 ≠ 0 then e = (p.run first n).2 else (e = 44 ∧ p.full (first - p.first).toNat n.toNat) ∨ (e = 0 ∧ ¬ p.full (first - p.first).toNat n.toNat)
theorem f47 {w : World} {b bu bd : Nat} {p : Pool} (hP : PoolAt w b bu bd p) (hT : Tz w) (first n : Int) (hf : -9223372036854775808 ≤ first ∧ first ≤ 9223372036854775807) (hn : n ≤ 9223372036854775807) :
    Ret prog 47 #[.pointer (some ⟨b, 0, none⟩), .int .i64 first, .int .i64 n] w fun v w' => ∃ e : Nat, v = .int .i64 (e : Int) ∧ p.shareErr first n e ∧
      ((e ≠ 0 ∧ Qt w w') ∨ (e = 0 ∧ PoolAt w' b bu bd (p.turned (first - p.first).toNat (· + 1) n.toNat) ∧ Fr (Own b bu bd) w w')) := by
  have hN := hP.ok.n
  have hL := hP.ok.le
  refine F47_of _ _ _ _ _ ?_
  unfold F47
  refine Ret.use (f51 hP hT first n hf hn) ?_
  rintro v w1 ⟨rfl, hq⟩
  simp only [AsTup_tuple, UnC_cons, AsI_int, UnN_nil]
  by_cases h0 : (p.run first n).2 = 0
  · have hb : (((p.run first n).2 : Int) != (0 : Int)) = false := by rw [h0]; rfl
    rw [hb, BIf_false]
    obtain ⟨r1, r2, r3, r4, r5⟩ := run_ok h0
    obtain ⟨k, hk⟩ : ∃ k : Nat, first - (p.first : Int) = k := ⟨(first - p.first).toNat, by omega⟩
    obtain ⟨m, rfl⟩ : ∃ m : Nat, n = m := ⟨n.toNat, by omega⟩
    have hkN : (first - (p.first : Int)).toNat = k := by omega
    have hmN : ((m : Int)).toNat = m := rfl
    simp only [Pool.shareErr, if_neg (show ¬ (p.run first m).2 ≠ 0 by omega)]
    simp only [hkN, hmN] at r4 r5 ⊢
    rw [r4]
    have hP1 := hP.qt hq
    simp only [at0_mk, Nat.zero_add]
    refine hP1.st.ld rfl ?_
    simp only [AsSl_slice]
    rw [w64 (n := (k : Int) + (m : Int)) (by omega) (by omega), show (k : Int) + (m : Int) = ((k + m : Nat) : Int) from by omega]
    refine ⟨by omega, by omega, by omega, by omega, ?_⟩
    have hkm0 : ((k + m : Nat) : Int).toNat = k + m := rfl
    have hk0 : ((k : Nat) : Int).toNat = k := rfl
    simp only [hkm0, hk0]
    have hsl : slAddr (some ⟨bu, 0, none⟩) k p.u.length 1 = some ⟨bu, k, none⟩ := by
      unfold slAddr; rw [if_neg (by omega)]; simp [at0_mk]
    have hkm : k + m - k = m := by omega
    simp only [hsl, hkm, NilP_some]
    refine Loop.by (fun s w' => ∃ j : Nat, s = [.int .i64 (j : Int), .int .i64 0] ∧ j ≤ m ∧ w' = w1 ∧ (∀ x, k ≤ x → x < k + j → p.u.getD x 0 ≠ 255)) (fun s _ => match s with | [.int _ j, _] => m - j.toNat | _ => 0)
      ⟨0, rfl, by omega, rfl, fun x h1 h2 => by omega⟩ ?_
    rintro _ _ ⟨j, rfl, hj, rfl, hno⟩
    simp only [UnC_cons, AsI_int, UnN_nil]
    by_cases hjm : j < m
    · rw [decide_eq_true (show (j : Int) < (m : Int) by omega), BIf_true]
      refine ⟨by omega, by omega, ?_⟩
      have hkj : k + j < p.u.length := by omega
      simp only [at0_mk, Int.toNat_natCast, Nat.mul_one]
      refine hP1.us.ld (u8s_get hkj) ?_
      simp only [AsI_int]
      by_cases h255 : p.u[k + j] = 255
      · rw [show (((p.u[k + j] : Nat) : Int) == (255 : Int)) = true from beq_iff_eq.2 (by omega), BIf_true]
        exact ⟨44, rfl, .inl ⟨by trivial, k + j, by omega, by omega, by rw [getD_get hkj]; exact h255⟩, .inl ⟨by omega, hq⟩⟩
      · rw [show (((p.u[k + j] : Nat) : Int) == (255 : Int)) = false from beq_eq_false_iff_ne.2 (by omega), BIf_false, w64 (n := (j : Int) + 1) (by omega) (by omega)]
        refine ⟨⟨j + 1, rfl, by omega, by trivial, fun x h1 h2 => ?_⟩, by show m - ((j : Int) + 1).toNat < m - (j : Int).toNat; omega⟩
        by_cases e : x = k + j
        · subst e; rw [getD_get hkj]; exact h255
        · exact hno x h1 (by omega)
    · rw [decide_eq_false (show ¬ (j : Int) < (m : Int) by omega), BIf_false]
      obtain rfl : j = m := by omega
      have hnf : ¬ p.full k j := fun ⟨x, h1, h2, h3⟩ => hno x h1 h2 h3
      refine Loop.by (fun s w' => ∃ i : Nat, s = [.int .i64 (i : Int)] ∧ i ≤ j ∧ PoolAt w' b bu bd (p.turned k (· + 1) i) ∧ Fr (Own b bu bd) w w') (fun s _ => match s with | [.int _ i] => j - i.toNat | _ => 0)
        ⟨0, rfl, by omega, hP1, hq.fr⟩ ?_
      rintro _ w2 ⟨i, rfl, hi, hP2, hf2⟩
      simp only [UnC_cons, AsI_int, UnN_nil]
      have hlen : (p.turned k (· + 1) i).u.length = p.u.length := turn_len _ _ _ _
      by_cases him : i < j
      · rw [decide_eq_true (show (i : Int) < (j : Int) by omega), BIf_true]
        refine hP2.st.ld rfl ?_
        simp only [AsSl_slice, NilP_some]
        have hki : k + i < p.u.length := by omega
        have hki2 : k + i < (p.turned k (· + 1) i).u.length := by omega
        rw [w64 (n := (k : Int) + (i : Int)) (by omega) (by omega), show (k : Int) + (i : Int) = ((k + i : Nat) : Int) from by omega]
        refine ⟨by omega, by omega, ?_⟩
        simp only [at0_mk, Int.toNat_natCast, Nat.mul_one, Nat.zero_add]
        refine hP2.us.ld (u8s_get hki2) ?_
        simp only [AsI_int]
        have hval : (p.turned k (· + 1) i).u[k + i] = p.u.getD (k + i) 0 := by
          rw [← getD_get hki2]
          show (turn p.u k (· + 1) i).getD (k + i) 0 = _
          rw [turn_get _ _ _ _ _ (by omega), if_neg (by omega)]
        have hle : p.u.getD (k + i) 0 ≤ 255 := by rw [getD_get hki]; exact hP.ok.u _ (List.getElem_mem hki)
        have hne := hno (k + i) (by omega) (by omega)
        rw [hval, wu8 (by omega) (by omega), show ((p.u.getD (k + i) 0 : Nat) : Int) + 1 = ((p.u.getD (k + i) 0 + 1 : Nat) : Int) from by omega]
        refine Ret.use (f50 hP2 (k + i) (p.u.getD (k + i) 0 + 1) hki2 (by omega)) ?_
        rintro v w3 ⟨rfl, hP3, hf3⟩
        simp only [AsTup_tuple, UnN_nil]
        rw [w64 (n := (i : Int) + 1) (by omega) (by omega)]
        exact ⟨⟨i + 1, rfl, by omega, hP3, hf2.trans hf3⟩, by show j - ((i : Int) + 1).toNat < j - (i : Int).toNat; omega⟩
      · rw [decide_eq_false (show ¬ (i : Int) < (j : Int) by omega), BIf_false]
        obtain rfl : i = j := by omega
        exact ⟨0, rfl, .inr ⟨rfl, hnf⟩, .inr ⟨rfl, hP2, hf2⟩⟩
  · have hb : (((p.run first n).2 : Int) != (0 : Int)) = true := bne_iff_ne.2 (by omega)
    rw [hb, BIf_true]
    exact ⟨_, rfl, by simp only [Pool.shareErr]; rw [if_pos h0]; trivial, .inl ⟨h0, hq⟩⟩
end Go.Proofs.YthpodlcbikialaaDoor

set_option linter.unusedVariables false
set_option linter.unusedSimpArgs false
namespace Go.Proofs.YthpodlcbikialaaDoor
open Go Go.Sh Go.Fr
def badTake (n al : Int) : Prop := n < 1 ∨ al < 1 ∨ al > 4096 ∨ pow2B al.toNat = false
/-- what Take answers -/
def TakeR (p : Pool) (n al : Int) (b bu bd : Nat) (w : World) (v : Value) (w' : World) : Prop :=
  (badTake n al ∧ v = .tuple #[.int .i64 0, .int .i64 41] ∧ Qt w w') ∨
  (¬ badTake n al ∧ (∀ a, ¬ Fit p.first p.u n.toNat al.toNat a) ∧ v = .tuple #[.int .i64 0, .int .i64 42] ∧ Qt w w') ∨
  (¬ badTake n al ∧ ∃ a, Fit p.first p.u n.toNat al.toNat a ∧ (∀ a', a' < a → ¬ Fit p.first p.u n.toNat al.toNat a') ∧ v = .tuple #[.int .i64 (p.first + a : Nat), .int .i64 0] ∧
    PoolAt w' b bu bd (p.turned a (fun _ => 1) n.toNat) ∧ Fr (Own b bu bd) w w')
theorem f23 {w : World} {b bu bd : Nat} {p : Pool} (hP : PoolAt w b bu bd p) (hT : Tz w) (hd : ¬ Own b bu bd 0) (n al : Int) (hn : n ≤ 9223372036854775807) :
    Ret prog 23 #[.pointer (some ⟨b, 0, none⟩), .int .i64 n, .int .i64 al] w (TakeR p n al b bu bd w) := by
  have hN := hP.ok.n
  have hL := hP.ok.le
  refine F23_of _ _ _ _ _ ?_
  unfold F23
  by_cases h1 : n < 1
  · rw [decide_eq_true h1, BIf_true]; exact .inl ⟨.inl h1, rfl, Qt.refl w⟩
  rw [decide_eq_false h1, BIf_false]
  by_cases h2 : al < 1
  · rw [decide_eq_true h2, BIf_true]; exact .inl ⟨.inr (.inl h2), rfl, Qt.refl w⟩
  rw [decide_eq_false h2, BIf_false]
  by_cases h3 : al > 4096
  · rw [decide_eq_true h3, BIf_true]; exact .inl ⟨.inr (.inr (.inl h3)), rfl, Qt.refl w⟩
  rw [decide_eq_false h3, BIf_false, wu64 (n := al) (by omega) (by omega)]
  obtain ⟨l, rfl⟩ : ∃ l : Nat, al = l := ⟨al.toNat, by omega⟩
  obtain ⟨m, rfl⟩ : ∃ m : Nat, n = m := ⟨n.toNat, by omega⟩
  refine Ret.use (f48 l (by omega)) ?_
  rintro _ w1 ⟨⟨c, rfl, hc⟩, hw⟩
  obtain rfl := hw.symm
  simp only [AsI_int]
  rw [hc]
  cases h4 : pow2B l with
  | false =>
    rw [Bool.not_false, BIf_true]; exact .inl ⟨.inr (.inr (.inr h4)), rfl, Qt.refl _⟩
  | true =>
  have hgood : ¬ badTake (m : Int) (l : Int) := by
    rintro (h | h | h | h)
    · omega
    · omega
    · omega
    · rw [Int.toNat_natCast, h4] at h; cases h
  rw [Bool.not_true, BIf_false]
  simp only [at0_mk, Nat.zero_add]
  have hl : 0 < l := by omega
  have hl2 : l ≤ 4096 := by omega
  refine Loop.by (fun s w' => ∃ a : Nat, s = [.int .i64 (a : Int), .int .i64 0, .int .i64 0] ∧ a ≤ p.u.length ∧ (∀ a', a' < a → ¬ Fit p.first p.u m l a') ∧ Qt w w')
    (fun s _ => match s with | [.int _ a, _, _] => p.u.length + 1 - a.toNat | _ => 0) ⟨0, rfl, by omega, fun a' h => by omega, Qt.refl w⟩ ?_
  rintro _ w2 ⟨a, rfl, ha, hno, hq⟩
  simp only [UnC_cons, AsI_int, UnN_nil]
  obtain ⟨r1, r2, r3, r4, r5, r6⟩ := fit_round (first := p.first) (n := m) (al := l) (by omega) hl hno ha
  refine Ret.use (f49 (hP.qt hq) (hT.qt hq) a (by omega) false) ?_
  rintro _ w3 ⟨rfl, hq3⟩
  have hq := hq.trans hq3
  have hP3 := hP.qt hq
  have ha1 : next p.u false a ≤ p.u.length := (next_spec p.u false a).1
  generalize next p.u false a = a1 at *
  simp only [AsI_int]
  refine hP3.st.ld rfl ?_
  simp only [AsI_int]
  refine NZ.mk (by omega) ?_
  refine hP3.st.ld rfl ?_
  simp only [AsI_int]
  refine hP3.st.ld rfl ?_
  simp only [AsI_int]
  have hup := up_le (m := p.first + a1) hl
  have e1 : IntKind.i64.wrap (IntKind.i64.wrap ((IntKind.i64.wrap (IntKind.i64.wrap (IntKind.i64.wrap ((p.first : Int) + (a1 : Int)) + (l : Int)) - 1)).tdiv (l : Int)) * (l : Int)) = ((up (p.first + a1) l : Nat) : Int) := by
    have hdiv : (((p.first : Int) + (a1 : Int) + (l : Int) - 1) / (l : Int)) = (((p.first + a1 + l - 1) / l : Nat) : Int) := by
      rw [Int.natCast_ediv]; congr 1; omega
    have hle : (p.first + a1 + l - 1) / l ≤ p.first + a1 + l - 1 := Nat.div_le_self _ _
    rw [w64 (n := (p.first : Int) + (a1 : Int)) (by omega) (by omega), w64 (n := (p.first : Int) + (a1 : Int) + (l : Int)) (by omega) (by omega),
      w64 (n := (p.first : Int) + (a1 : Int) + (l : Int) - 1) (by omega) (by omega), IntWalk.i64_quo _ _ ⟨by omega, by omega, by omega⟩, hdiv,
      show (((p.first + a1 + l - 1) / l : Nat) : Int) * (l : Int) = ((up (p.first + a1) l : Nat) : Int) from by unfold up; push_cast; rfl]
    exact w64 (by omega) (by omega)
  simp only [e1]
  have e2 : IntKind.i64.wrap (((up (p.first + a1) l : Nat) : Int) - (p.first : Int)) = ((up (p.first + a1) l - p.first : Nat) : Int) := by rw [w64 (by omega) (by omega)]; omega
  simp only [e2]
  clear e1 e2
  generalize up (p.first + a1) l - p.first = a2 at *
  rw [← r3]
  by_cases h5 : a2 ≥ p.u.length
  · rw [decide_eq_true (show (a2 : Int) ≥ (p.u.length : Int) by omega), BIf_true]
    exact .inr (.inl ⟨hgood, r5 (.inl h5), rfl, hq⟩)
  rw [decide_eq_false (show ¬ (a2 : Int) ≥ (p.u.length : Int) by omega), BIf_false]
  refine hP3.st.ld rfl ?_
  simp only [AsI_int]
  rw [w64 (n := (p.u.length : Int) - (a2 : Int)) (by omega) (by omega)]
  by_cases h6 : m > p.u.length - a2
  · rw [decide_eq_true (show (m : Int) > (p.u.length : Int) - (a2 : Int) by omega), BIf_true]
    exact .inr (.inl ⟨hgood, r5 (.inr h6), rfl, hq⟩)
  rw [decide_eq_false (show ¬ (m : Int) > (p.u.length : Int) - (a2 : Int) by omega), BIf_false]
  obtain ⟨r7, r8⟩ := r6 (by omega) (by omega)
  refine Ret.use (f49 hP3 (hT.qt hq) a2 (by omega) true) ?_
  rintro _ w4 ⟨rfl, hq4⟩
  have hq4 := hq.trans hq4
  generalize next p.u true a2 = bz at *
  simp only [AsI_int]
  rw [w64 (n := (a2 : Int) + (m : Int)) (by omega) (by omega)]
  by_cases h7 : bz < a2 + m
  · rw [decide_eq_true (show (bz : Int) < (a2 : Int) + (m : Int) by omega), BIf_true]
    obtain ⟨r9, r10, r11⟩ := r7 h7
    rw [w64 (n := (bz : Int) + 1) (by omega) (by omega)]
    refine ⟨⟨bz + 1, rfl, by omega, r11, hq4⟩, ?_⟩
    show p.u.length + 1 - ((bz : Int) + 1).toNat < p.u.length + 1 - (a : Int).toNat
    omega
  rw [decide_eq_false (show ¬ (bz : Int) < (a2 : Int) + (m : Int) by omega), BIf_false]
  refine Loop.by (fun s w' => ∃ i : Nat, s = [.int .i64 (i : Int)] ∧ i ≤ m ∧ PoolAt w' b bu bd (p.turned a2 (fun _ => 1) i) ∧ Fr (Own b bu bd) w w') (fun s _ => match s with | [.int _ i] => m - i.toNat | _ => 0)
    ⟨0, rfl, by omega, hP.qt hq4, hq4.fr⟩ ?_
  rintro _ w5 ⟨i, rfl, hi, hP5, hf5⟩
  simp only [UnC_cons, AsI_int, UnN_nil]
  have hlen : (p.turned a2 (fun _ => 1) i).u.length = p.u.length := turn_len _ _ _ _
  by_cases him : i < m
  · rw [decide_eq_true (show (i : Int) < (m : Int) by omega), BIf_true, w64 (n := (a2 : Int) + (i : Int)) (by omega) (by omega), show (a2 : Int) + (i : Int) = ((a2 + i : Nat) : Int) from by omega]
    refine Ret.use (f50 hP5 (a2 + i) 1 (by omega) (by omega)) ?_
    rintro v w6 ⟨rfl, hP6, hf6⟩
    simp only [AsTup_tuple, UnN_nil]
    rw [w64 (n := (i : Int) + 1) (by omega) (by omega)]
    exact ⟨⟨i + 1, rfl, by omega, hP6, hf5.trans hf6⟩, by show m - ((i : Int) + 1).toNat < m - (i : Int).toNat; omega⟩
  · rw [decide_eq_false (show ¬ (i : Int) < (m : Int) by omega), BIf_false]
    obtain rfl : i = m := by omega
    exact .inr (.inr ⟨hgood, a2, r8 (by omega), r4, rfl, hP5, hf5⟩)
end Go.Proofs.YthpodlcbikialaaDoor

set_option linter.unusedVariables false
set_option linter.unusedSimpArgs false
namespace Go.Proofs.YthpodlcbikialaaDoor
open Go Go.Sh Go.Fr

theorem PoolAt.fr0 {w w' : World} {b bu bd : Nat} {p : Pool} (h : PoolAt w b bu bd p) (q : Fr0 w w') : PoolAt w' b bu bd p := h.fr q (fun h => h) (fun h => h) (fun h => h)
theorem Tz.fr0 {w w' : World} (h : Tz w) (q : Fr0 w w') : Tz w' := h.fr q (fun h => h)
theorem E55 : ElemT prog 55 58 (.agg #[.int .i64 0, .int .i64 0]) 2 16 := ⟨by kernel_rfl, by kernel_rfl, rfl, by decide⟩
theorem E38 : ElemT prog 38 3 (.int .i64 0) 1 8 := ⟨by kernel_rfl, by kernel_rfl, rfl, by decide⟩
def Pool.runs (p : Pool) : List (Nat × Nat) := Fr.runs p.u (next p.u false 0)
def runCells (first : Nat) (l : List (Nat × Nat)) : List Value := l.flatMap fun r => [.int .i64 ((first + r.1 : Nat) : Int), .int .i64 ((r.2 : Nat) : Int)]
theorem f28 {w : World} {b bu bd : Nat} {p : Pool} (hP : PoolAt w b bu bd p) (hT : Tz w) :
    Ret prog 28 #[.pointer (some ⟨b, 0, none⟩)] w fun v w' => ∃ q c, v = .slice q p.runs.length c ∧ Sl w' w.heap.size 58 2 q p.runs.length c (runCells p.first p.runs) ∧ Fr (fun _ => False) w w' := by
  have hN := hP.ok.n
  have hL := hP.ok.le
  refine F28_of _ _ _ ?_
  unfold F28
  refine Ret.use (f49 hP hT 0 (by omega) false) ?_
  rintro v w1 ⟨rfl, hq⟩
  rw [AsI_int]
  refine Loop.by (fun s w' => ∃ (k : Nat) (q : Option Addr) (c : Nat) (done : List (Nat × Nat)), s = [.int .i64 (k : Int), .slice q done.length c] ∧ k ≤ p.u.length ∧ (∀ h : k < p.u.length, p.u[k] = 0) ∧
      done ++ Fr.runs p.u k = p.runs ∧ Sl w' w.heap.size 58 2 q done.length c (runCells p.first done) ∧ Fr (fun _ => False) w w')
    (fun s _ => match s with | [.int _ k, _] => p.u.length - k.toNat | _ => 0)
    ⟨next p.u false 0, none, 0, [], rfl, (next_spec _ _ _).1, fun h => next_free h, rfl, Sl.nil _ _ _ _, hq.fr⟩ ?_
  rintro _ w2 ⟨k, q, c, done, rfl, hk, hz, hdone, hsl, hf⟩
  simp only [UnC_cons, UnN_nil, AsI_int, AsSl_slice, at0_mk, Nat.zero_add]
  have hP2 := hP.fr0 hf
  have hT2 := hT.fr0 hf
  refine hP2.st.ld rfl ?_
  rw [AsI_int]
  refine BIf_cases (fun hlt => ?_) (fun hge => ?_)
  · have hkl : k < p.u.length := by omega
    obtain ⟨n1, n2, n3⟩ := next_lt hkl (hz hkl)
    have hrl := runs_len p.u k
    have htot : p.runs.length ≤ p.u.length := Nat.le_trans (runs_len _ _) (by omega)
    rw [runs_cons hkl (hz hkl)] at hdone
    have hdl : done.length + 1 ≤ p.u.length := by
      have := congrArg List.length hdone
      simp at this; omega
    refine Ret.use (f49 hP2 hT2 k (by omega) true) ?_
    rintro v w3 ⟨rfl, hq3⟩
    rw [AsI_int]
    have hP3 := hP2.qt hq3
    refine hP3.st.ld rfl ?_
    rw [AsI_int, w64 (n := (p.first : Int) + (k : Int)) (by omega) (by omega), w64 (n := ((next p.u true k : Nat) : Int) - (k : Int)) (by have := (next_spec p.u true k).1; omega) (by have := (next_spec p.u true k).1; omega)]
    refine push_sl E55 (by decide) (hsl.qt hq3) (by have := hf.size; rw [hq3.heap]; exact this) rfl (by intro u hu; simp [Value.cells] at hu; rcases hu with rfl | rfl <;> rfl) (by simp only [maxLen]; omega) (by omega) ?_
    intro p' c' w4 hsl4 hf4 hon4
    rw [AsSl_slice]
    have hf40 : Fr (fun _ => False) w w4 := (hf.trans hq3.fr).own hf4 (fun b hb hlt => by have := (hsl.lt b hb).1; omega)
    refine Ret.use (f49 (hP.fr0 hf40) (hT.fr0 hf40) (next p.u true k) (by have := (next_spec p.u true k).1; omega) false) ?_
    rintro v w5 ⟨rfl, hq5⟩
    rw [AsI_int]
    refine ⟨⟨next p.u false (next p.u true k), p', c', done ++ [(k, next p.u true k - k)], by simp, n3, fun h => next_free h, by simpa using hdone, ?_, hf40.trans hq5.fr⟩, ?_⟩
    · have e : runCells p.first (done ++ [(k, next p.u true k - k)]) = runCells p.first done ++ [.int .i64 ((p.first : Int) + (k : Int)), .int .i64 (((next p.u true k : Nat) : Int) - (k : Int))] := by
        simp [runCells, List.flatMap_append]
        omega
      rw [e, List.length_append]
      exact hsl4.qt hq5
    · simp only [Int.toNat_natCast]; omega
  · have hkl : k = p.u.length := by omega
    rw [runs_end (by omega), List.append_nil] at hdone
    subst hdone
    exact ⟨q, c, rfl, hsl, hf⟩
end Go.Proofs.YthpodlcbikialaaDoor
