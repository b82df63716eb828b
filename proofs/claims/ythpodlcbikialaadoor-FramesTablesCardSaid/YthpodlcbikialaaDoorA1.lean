import Derived.Test.YthpodlcbikialaaDoorG1
import Derived.Test.YthpodlcbikialaaDoorFrPure
set_option linter.unusedVariables false
namespace Go.Proofs.YthpodlcbikialaaDoor
open Go Go.Sh Go.Fr

/-! ## the pool in memory -/
structure Pool where
  first : Nat
  u : List Nat
def Pool.n (p : Pool) : Nat := p.u.length
def Pool.free (p : Pool) : Nat := p.u.countP (· = 0)
structure Pool.Ok (p : Pool) : Prop where
  le : p.first + p.u.length ≤ 268435456
  n : p.u.length ≤ 1048576
  u : ∀ x ∈ p.u, x ≤ 255
def poolCells (p : Pool) (bu bd : Nat) : List Value :=
  [.int .i64 p.first, .int .i64 p.u.length, .slice (some ⟨bu, 0, none⟩) p.u.length p.u.length, .slice (some ⟨bd, 0, none⟩) ((p.u.length + 63) / 64) ((p.u.length + 63) / 64), .int .i64 p.free]
def u8s (u : List Nat) : List Value := u.map fun n => Value.int .u8 (n : Nat)
def u64s (u : List Nat) : List Value := u.map fun n => Value.int .u64 (n : Nat)
structure PoolAt (w : World) (b bu bd : Nat) (p : Pool) : Prop where
  st : Has w b (poolCells p bu bd)
  us : Has w bu (u8s p.u)
  ws : ∃ ws, Bits p.u ws ∧ Has w bd (u64s ws)
  ne : b ≠ bu ∧ b ≠ bd ∧ bu ≠ bd
  ok : p.Ok
theorem PoolAt.qt {w w' : World} {b bu bd : Nat} {p : Pool} (h : PoolAt w b bu bd p) (q : Qt w w') : PoolAt w' b bu bd p :=
  ⟨h.st.qt q, h.us.qt q, let ⟨ws, h1, h2⟩ := h.ws; ⟨ws, h1, h2.qt q⟩, h.ne, h.ok⟩
theorem PoolAt.fr {S : Nat → Prop} {w w' : World} {b bu bd : Nat} {p : Pool} (h : PoolAt w b bu bd p) (q : Fr S w w') (h1 : ¬ S b) (h2 : ¬ S bu) (h3 : ¬ S bd) : PoolAt w' b bu bd p :=
  ⟨h.st.fr q h1, h.us.fr q h2, let ⟨ws, h1, h2⟩ := h.ws; ⟨ws, h1, h2.fr q h3⟩, h.ne, h.ok⟩
/-- the table of math/bits -/
structure Tz (w : World) : Prop where
  size : 0 < w.heap.size
  cell : ∀ k, k < 64 → w.cell? ⟨0, k, none⟩ = some (.int .u8 (Lib.deBruijn64tab.getD k 0 : Nat))
theorem Tz.of_block {w w' : World} (h : Tz w) (h0 : w'.heap[0]? = w.heap[0]?) : Tz w' := by
  have hs : 0 < w'.heap.size := by
    rcases Nat.eq_zero_or_pos w'.heap.size with h1 | h1
    · rw [Array.getElem?_eq_none (by omega), Array.getElem?_eq_getElem h.size] at h0; cases h0
    · exact h1
  exact ⟨hs, fun k hk => by rw [← h.cell k hk]; simp [World.cell?, h0]⟩
theorem Tz.qt {w w' : World} (h : Tz w) (q : Qt w w') : Tz w' := h.of_block (by rw [q.heap])
theorem Tz.fr {S : Nat → Prop} {w w' : World} (h : Tz w) (q : Fr S w w') (h0 : ¬ S 0) : Tz w' := h.of_block (q.block 0 h.size h0)

theorem u64s_get {ws : List Nat} {k : Nat} (h : k < ws.length) : (u64s ws)[k]? = some (.int .u64 (ws[k] : Nat)) := by simp [u64s, h]
theorem u8s_get {ws : List Nat} {k : Nat} (h : k < ws.length) : (u8s ws)[k]? = some (.int .u8 (ws[k] : Nat)) := by simp [u8s, h]

theorem tz_num (x : Nat) (h0 : x ≠ 0) (h : x < 2 ^ 64) :
    shrI IntKind.u64 (IntKind.u64.wrap (andI IntKind.u64 (x : Int) (IntKind.u64.wrap ((0 : Int) - (x : Int))) * (285870213051353865 : Int))) (58 : Int) = ((2 ^ Lib.ctz 64 x * 285870213051353865 % 18446744073709551616 / 288230376151711744 : Nat) : Int) := by
  have h1 : IntKind.u64.wrap ((0 : Int) - (x : Int)) = ((2 ^ 64 - x : Nat) : Int) := by
    rw [IntKind.wrap_u64]; omega
  obtain ⟨h2, h3⟩ := Lib.lowest_bit 64 x h0 h
  rw [h1, andI_u64 h (by omega), h2]
  have h4 : IntKind.u64.wrap (((2 ^ Lib.ctz 64 x : Nat) : Int) * (285870213051353865 : Int)) = ((2 ^ Lib.ctz 64 x * 285870213051353865 % 18446744073709551616 : Nat) : Int) := by
    generalize 2 ^ Lib.ctz 64 x = y
    rw [IntKind.wrap_u64]
    omega
  rw [h4, show (58 : Int) = ((58 : Nat) : Int) from rfl, shrI_nat (by decide), Nat.shiftRight_eq_div_pow]
theorem f69 {w : World} (hT : Tz w) (x : Nat) (h : x < 2 ^ 64) : Ret prog 69 #[.int .u64 (x : Int)] w fun v w' => v = .int .i64 (Lib.ctz 64 x : Nat) ∧ Qt w w' := by
  refine F69_of _ _ _ ?_
  unfold F69
  by_cases h0 : x = 0
  · subst h0
    exact ⟨by simp [Lib.ctz], Qt.refl w⟩
  · have hne : ((x : Int) == (0 : Int)) = false := by simpa using h0
    rw [hne, BIf_false, tz_num x h0 h]
    obtain ⟨_, hk⟩ := Lib.lowest_bit 64 x h0 h
    obtain ⟨h1, h2⟩ := Lib.deBruijn64_at _ hk
    generalize 2 ^ Lib.ctz 64 x * 285870213051353865 % 18446744073709551616 / 288230376151711744 = i at *
    refine ⟨by omega, by omega, ?_⟩
    rw [at0_mk, Int.toNat_natCast, Nat.mul_one, Nat.zero_add]
    refine ⟨_, hT.cell i h1, ?_⟩
    simp only [h2, AsI_int]
    rw [w64 (by omega) (by omega)]
    exact ⟨rfl, Qt.refl w⟩

theorem f49 {w : World} {b bu bd : Nat} {p : Pool} (hP : PoolAt w b bu bd p) (hT : Tz w) (i : Nat) (hi : i ≤ 2 ^ 40) (busy : Bool) :
    Ret prog 49 #[.pointer (some ⟨b, 0, none⟩), .int .i64 (i : Int), .bool busy] w fun v w' => v = .int .i64 (next p.u busy i : Nat) ∧ Qt w w' := by
  have hn := hP.ok.n
  refine F49_of _ _ _ _ _ ?_
  unfold F49
  refine Loop.by (fun s w' => ∃ k : Nat, s = [.int .i64 0, .int .i64 (k : Int)] ∧ k ≤ 2 ^ 41 ∧ next p.u busy k = next p.u busy i ∧ Qt w w')
    (fun s _ => match s with | [_, .int _ k] => p.u.length - k.toNat | _ => 0) ⟨i, rfl, by omega, rfl, Qt.refl w⟩ ?_
  rintro _ w1 ⟨k, rfl, hk, hnx, hq⟩
  have hP1 := hP.qt hq
  simp only [UnC_cons, UnN_nil, AsI_int, at0_mk, Nat.zero_add]
  refine hP1.st.ld rfl ?_
  simp only [AsI_int]
  by_cases hlt : k < p.u.length
  · have hd : decide ((k : Int) < (p.u.length : Int)) = true := by simpa using hlt
    rw [hd, BIf_true]
    refine hP1.st.ld rfl ?_
    simp only [AsSl_slice, NilP_some]
    obtain ⟨ws, hb, hws⟩ := hP1.ws
    have hkw : k / 64 < ws.length := by rw [hb.len]; omega
    have e1 : IntKind.i64.wrap ((k : Int).tdiv 64) = ((k / 64 : Nat) : Int) := by rw [IntWalk.i64_quo _ _ ⟨by omega, by omega, by omega⟩]; omega
    have e2 : (k : Int).tmod 64 = ((k % 64 : Nat) : Int) := by rw [IntWalk.rem_in _ _ (by omega)]; omega
    rw [e1, e2]
    refine ⟨by omega, by have := hb.len; omega, ?_⟩
    simp only [Int.toNat_natCast, Nat.mul_one, at0_mk, Nat.zero_add]
    refine hws.ld (u64s_get hkw) ?_
    simp only [AsI_int]
    have hwl := hb.lt _ hkw
    refine Join.at (fun s w' => s = [.int .u64 ((if busy then ws[k / 64] else 2 ^ 64 - 1 - ws[k / 64] : Nat) : Int)] ∧ w' = w1) ?_ ?_
    · cases busy with
      | true => refine ⟨?_, ?_⟩ <;> simp
      | false => rw [Bool.not_false, BIf_true, notI_u64 hwl]; refine ⟨?_, ?_⟩ <;> simp
    · rintro _ _ ⟨rfl, rfl⟩
      simp only [UnC_cons, UnN_nil, AsI_int]
      obtain ⟨hWl, hz, hnz⟩ := next_word hb hlt hkw _ rfl (busy := busy)
      generalize (if busy = true then ws[k / 64] else 2 ^ 64 - 1 - ws[k / 64]) = W at *
      refine NN.mk (by omega) ?_
      rw [shrI_nat (by show k % 64 ≤ 64; omega)]
      have hsl : W >>> (k % 64) < 2 ^ 64 := Nat.lt_of_le_of_lt (Nat.shiftRight_le _ _) hWl
      by_cases h0 : W >>> (k % 64) = 0
      · have hz' := hz h0
        have hd2 : (((W >>> (k % 64) : Nat) : Int) != (0 : Int)) = false := by rw [h0]; rfl
        rw [hd2, BIf_false]
        have e3 : IntKind.i64.wrap (IntKind.i64.wrap (((k / 64 : Nat) : Int) + 1) * 64) = (((k / 64 + 1) * 64 : Nat) : Int) := by
          rw [w64 (n := ((k / 64 : Nat) : Int) + 1) (by omega) (by omega), w64 (by omega) (by omega)]; omega
        rw [e3]
        refine ⟨⟨_, rfl, by omega, by rw [← hz']; exact hnx, hq⟩, ?_⟩
        simp only [Int.toNat_natCast]
        omega
      · obtain ⟨h1, h2⟩ := hnz h0
        have hd2 : (((W >>> (k % 64) : Nat) : Int) != (0 : Int)) = true := bne_iff_ne.2 (by omega)
        rw [hd2, BIf_true]
        refine hP1.st.drew.ld rfl ?_
        simp only [AsI_int]
        refine Ret.use (f69 ((hT.qt hq).qt (Qt.refl _).drew) _ hsl) ?_
        rintro v w2 ⟨rfl, hq2⟩
        simp only [AsI_int]
        refine ⟨?_, ?_, hq.trans hq2.of_drew⟩
        · rw [(hP1.st.qt hq2.of_drew).cell]; rfl
        · rw [← hnx, h1, w64 (by omega) (by omega)]
          congr 1
          generalize Lib.ctz 64 (W >>> (k % 64)) = c at *
          rw [Nat.min_def]
          split <;> split <;> omega
  · have hd : decide ((k : Int) < (p.u.length : Int)) = false := by simpa using hlt
    rw [hd, BIf_false]
    refine hP1.st.ld rfl ?_
    simp only [AsI_int]
    exact ⟨by rw [← hnx, next_end (by omega)], hq⟩
end Go.Proofs.YthpodlcbikialaaDoor
