import Derived.Test.YthpodlcbikialaaDoorA4
import Derived.Test.YthpodlcbikialaaDoorShMem
set_option linter.unusedVariables false
set_option linter.unusedSimpArgs false
namespace Go.Proofs.YthpodlcbikialaaDoor
open Go Go.Sh Go.Fr
theorem und66 : prog.underlying 66 = some (.slice 5) := by kernel_rfl
theorem inf5 : (prog.info? 5).map (fun i => (i.zero, i.size, i.bytes)) = some (some (.int .u8 0), 1, 1) := by kernel_rfl
theorem und81 : prog.underlying 81 = some (.slice 101) := by kernel_rfl
theorem inf101 : (prog.info? 101).map (fun i => (i.zero, i.size, i.bytes)) = some (some (.int .u64 0), 1, 8) := by kernel_rfl
def newPool (first n : Nat) : Pool := ⟨first, List.replicate n 0⟩
theorem Bits.zero (n : Nat) : Bits (List.replicate n 0) (List.replicate ((n + 63) / 64) 0) := by
  refine ⟨by simp, fun k h => by simp, fun k j h hj => ?_⟩
  rw [List.getElem_replicate, Nat.zero_testBit]
  have : (List.replicate n 0).getD (64 * k + j) 0 = 0 := by
    simp only [List.getD, List.getElem?_replicate]; split <;> rfl
  rw [this]; rfl
theorem newPool_ok {first n : Nat} (h1 : n ≤ 1048576) (h2 : first + n ≤ 268435456) : (newPool first n).Ok :=
  ⟨by simpa [newPool] using h2, by simpa [newPool] using h1, fun x hx => by simp [newPool] at hx; omega⟩
theorem newPool_free (first n : Nat) : (newPool first n).free = n := by simp [newPool, Pool.free, List.countP_replicate]
/-- the answer of New: an error, or the pool -/
def newErr (first n : Int) : Nat := if n < 0 ∨ n > 1048576 then 41 else if first < 0 ∨ first > 268435456 - n then 40 else 0
theorem f41 {w : World} (first n : Int) (hf : -9223372036854775808 ≤ first ∧ first ≤ 9223372036854775807) :
    Ret prog 41 #[.int .i64 first, .int .i64 n] w fun v w' =>
      (newErr first n ≠ 0 ∧ v = .tuple #[.pointer none, .int .i64 (newErr first n : Nat)] ∧ Qt w w') ∨
      (newErr first n = 0 ∧ 0 ≤ first ∧ 0 ≤ n ∧ n ≤ 1048576 ∧ first + n ≤ 268435456 ∧ ∃ b bu bd, v = .tuple #[.pointer (some ⟨b, 0, none⟩), .int .i64 0] ∧ PoolAt w' b bu bd (newPool first.toNat n.toNat) ∧ Fr (fun _ => False) w w' ∧
        w.heap.size ≤ b ∧ w.heap.size ≤ bu ∧ w.heap.size ≤ bd) := by
  refine F41_of _ _ _ _ ?_
  unfold F41
  by_cases h1 : n < 0
  · rw [decide_eq_true h1, BIf_true]; exact .inl ⟨by simp [newErr, h1], by simp [newErr, h1], Qt.refl w⟩
  rw [decide_eq_false h1, BIf_false]
  by_cases h2 : n > 1048576
  · rw [decide_eq_true h2, BIf_true]; exact .inl ⟨by simp [newErr, h2], by simp [newErr, h2], Qt.refl w⟩
  rw [decide_eq_false h2, BIf_false]
  have hg : ¬ (n < 0 ∨ n > 1048576) := by omega
  by_cases h3 : first < 0
  · rw [decide_eq_true h3, BIf_true]; exact .inl ⟨by simp [newErr, if_neg hg, h3], by simp [newErr, if_neg hg, h3], Qt.refl w⟩
  rw [decide_eq_false h3, BIf_false, w64 (n := (268435456 : Int) - n) (by omega) (by omega)]
  by_cases h4 : first > 268435456 - n
  · rw [decide_eq_true h4, BIf_true]; exact .inl ⟨by simp [newErr, if_neg hg, h4], by simp [newErr, if_neg hg, h4], Qt.refl w⟩
  rw [decide_eq_false h4, BIf_false]
  obtain ⟨k, rfl⟩ : ∃ k : Nat, n = k := ⟨n.toNat, by omega⟩
  obtain ⟨a, rfl⟩ : ∃ k : Nat, first = k := ⟨first.toNat, by omega⟩
  have e1 : IntKind.i64.wrap ((IntKind.i64.wrap ((k : Int) + 63)).tdiv 64) = (((k + 63) / 64 : Nat) : Int) := by
    rw [w64 (n := (k : Int) + 63) (by omega) (by omega), IntWalk.i64_quo _ _ ⟨by omega, by omega, by omega⟩]; omega
  simp only [e1]
  have hzero : newErr (a : Int) (k : Int) = 0 := by simp only [newErr, if_neg hg]; rw [if_neg (by omega)]
  have hcells : ∀ bu bd : Nat, [Value.int .i64 (a : Int), .int .i64 (k : Int), .slice (some ⟨bu, 0, none⟩) k k, .slice (some ⟨bd, 0, none⟩) ((k + 63) / 64) ((k + 63) / 64), .int .i64 (k : Int)] = poolCells (newPool a k) bu bd := by
    intro bu bd; simp [poolCells, newPool_free]; simp [newPool]
  have hu8 : u8s (newPool a k).u = List.replicate k (.int .u8 0) := by simp [u8s, newPool]
  have hu64 : u64s (List.replicate ((k + 63) / 64) 0) = List.replicate ((k + 63) / 64) (.int .u64 0) := by simp [u64s]
  refine ⟨?_, ?_⟩
  · refine RunV.make 66 5 _ 1 k und66 inf5 rfl (by omega) (by omega) fun w1 hu hf1 hs1 => ?_
    simp only [AsSl_slice]
    refine RunV.make 81 101 _ 8 ((k + 63) / 64) und81 inf101 rfl (by omega) (by omega) fun w2 hd hf2 hs2 => ?_
    simp only [AsSl_slice]
    refine New.mk fun w3 hp hf3 hs3 => ?_
    have hu2 := (hu.fr hf2 (fun h => h)).fr hf3 (fun h => h)
    have hd2 := hd.fr hf3 (fun h => h)
    refine .inr ⟨hzero, by omega, by omega, by omega, by omega, w2.heap.size, w.drew.heap.size, w1.heap.size, rfl, ⟨?_, ?_, ⟨_, Bits.zero k, ?_⟩, ?_, ?_⟩, ((hf1.trans hf2).trans hf3).of_drew, ?_, ?_, ?_⟩
    · rw [Int.toNat_natCast, Int.toNat_natCast, ← hcells]; exact hp
    · rw [Int.toNat_natCast, Int.toNat_natCast, hu8]; exact hu2
    · rw [hu64]; exact hd2
    · have h5 : w.drew.heap.size = w.heap.size := rfl
      omega
    · simp only [Int.toNat_natCast]; exact newPool_ok (by omega) (by omega)
    · have h5 : w.drew.heap.size = w.heap.size := rfl
      omega
    · exact Nat.le_refl _
    · have h5 : w.drew.heap.size = w.heap.size := rfl
      omega
  · refine RunV.make 81 101 _ 8 ((k + 63) / 64) und81 inf101 rfl (by omega) (by omega) fun w1 hd hf1 hs1 => ?_
    simp only [AsSl_slice]
    refine RunV.make 66 5 _ 1 k und66 inf5 rfl (by omega) (by omega) fun w2 hu hf2 hs2 => ?_
    simp only [AsSl_slice]
    refine New.mk fun w3 hp hf3 hs3 => ?_
    have hd2 := (hd.fr hf2 (fun h => h)).fr hf3 (fun h => h)
    have hu2 := hu.fr hf3 (fun h => h)
    refine .inr ⟨hzero, by omega, by omega, by omega, by omega, w2.heap.size, w1.heap.size, w.drew.heap.size, rfl, ⟨?_, ?_, ⟨_, Bits.zero k, ?_⟩, ?_, ?_⟩, ((hf1.trans hf2).trans hf3).of_drew, ?_, ?_, ?_⟩
    · rw [Int.toNat_natCast, Int.toNat_natCast, ← hcells]; exact hp
    · rw [Int.toNat_natCast, Int.toNat_natCast, hu8]; exact hu2
    · rw [hu64]; exact hd2
    · have h5 : w.drew.heap.size = w.heap.size := rfl
      omega
    · simp only [Int.toNat_natCast]; exact newPool_ok (by omega) (by omega)
    · have h5 : w.drew.heap.size = w.heap.size := rfl
      omega
    · have h5 : w.drew.heap.size = w.heap.size := rfl
      omega
    · exact Nat.le_refl _

/-- one use more, or less, for the first j of n frames from place k on -/
def turn (u : List Nat) (k : Nat) (f : Nat → Nat) : Nat → List Nat
  | 0 => u
  | j + 1 => (turn u k f j).set (k + j) (f (u.getD (k + j) 0))
theorem turn_len (u : List Nat) (k : Nat) (f : Nat → Nat) : ∀ j, (turn u k f j).length = u.length
  | 0 => rfl
  | j + 1 => by simp [turn, turn_len u k f j]
theorem turn_get (u : List Nat) (k : Nat) (f : Nat → Nat) (x : Nat) : ∀ j, k + j ≤ u.length → (turn u k f j).getD x 0 = if k ≤ x ∧ x < k + j then f (u.getD x 0) else u.getD x 0
  | 0, _ => by rw [if_neg (by omega)]; rfl
  | j + 1, h => by
    rw [turn, getD_set _ _ _ _ (by rw [turn_len]; omega), turn_get u k f x j (by omega)]
    by_cases e : k + j = x
    · subst e; rw [if_pos rfl, if_pos (by omega)]
    · rw [if_neg e]
      by_cases h2 : k ≤ x ∧ x < k + j
      · rw [if_pos h2, if_pos (by omega)]
      · rw [if_neg h2, if_neg (by omega)]
end Go.Proofs.YthpodlcbikialaaDoor
