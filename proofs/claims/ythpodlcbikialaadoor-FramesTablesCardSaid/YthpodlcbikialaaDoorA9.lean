import Derived.Test.YthpodlcbikialaaDoorA8
import Derived.Test.YthpodlcbikialaaDoorShMem2
import Derived.Test.YthpodlcbikialaaDoorFrPure4
set_option linter.unusedVariables false
set_option linter.unusedSimpArgs false
namespace Go.Proofs.YthpodlcbikialaaDoor
open Go Go.Sh Go.Fr

theorem PoolAt.fr0 {w w' : World} {b bu bd : Nat} {p : Pool} (h : PoolAt w b bu bd p) (q : Fr0 w w') : PoolAt w' b bu bd p := h.fr q (fun h => h) (fun h => h) (fun h => h)
theorem Tz.fr0 {w w' : World} (h : Tz w) (q : Fr0 w w') : Tz w' := h.fr q (fun h => h)
theorem E55 : ElemT prog 55 58 (.agg #[.int .i64 0, .int .i64 0]) 2 16 := ⟨by kernel_rfl, by kernel_rfl, rfl, by decide⟩
theorem E38 : ElemT prog 38 3 (.int .i64 0) 1 8 := ⟨by kernel_rfl, by kernel_rfl, rfl, by decide⟩
def Pool.runs (p : Pool) : List (Nat × Nat) := Fr.runs p.u (next p.u false 0)
def runCells (first : Nat) (l : List (Nat × Nat)) : List Value := l.flatMap fun r => [.int .i64 ((first + r.1 : Nat) : Int), .int .i64 ((r.2 : Nat) : Int)]
theorem f28 {w : World} {b bu bd : Nat} {p : Pool} (hP : PoolAt w b bu bd p) (hT : Tz w) :
    Ret prog 28 #[.pointer (some ⟨b, 0, none⟩)] w fun v w' => ∃ q c, v = .slice q p.runs.length c ∧ Sl w' w.heap.size 58 2 q p.runs.length c (runCells p.first p.runs) ∧ Fr (fun _ => False) w w' := by
  have hN := hP.ok.n
  have hL := hP.ok.le
  refine F28_of _ _ _ ?_
  unfold F28
  refine Ret.use (f49 hP hT 0 (by omega) false) ?_
  rintro v w1 ⟨rfl, hq⟩
  rw [AsI_int]
  refine Loop.by (fun s w' => ∃ (k : Nat) (q : Option Addr) (c : Nat) (done : List (Nat × Nat)), s = [.int .i64 (k : Int), .slice q done.length c] ∧ k ≤ p.u.length ∧ (∀ h : k < p.u.length, p.u[k] = 0) ∧
      done ++ Fr.runs p.u k = p.runs ∧ Sl w' w.heap.size 58 2 q done.length c (runCells p.first done) ∧ Fr (fun _ => False) w w')
    (fun s _ => match s with | [.int _ k, _] => p.u.length - k.toNat | _ => 0)
    ⟨next p.u false 0, none, 0, [], rfl, (next_spec _ _ _).1, fun h => next_free h, rfl, Sl.nil _ _ _ _, hq.fr⟩ ?_
  rintro _ w2 ⟨k, q, c, done, rfl, hk, hz, hdone, hsl, hf⟩
  simp only [UnC_cons, UnN_nil, AsI_int, AsSl_slice, at0_mk, Nat.zero_add]
  have hP2 := hP.fr0 hf
  have hT2 := hT.fr0 hf
  refine hP2.st.ld rfl ?_
  rw [AsI_int]
  refine BIf_cases (fun hlt => ?_) (fun hge => ?_)
  · have hkl : k < p.u.length := by omega
    obtain ⟨n1, n2, n3⟩ := next_lt hkl (hz hkl)
    have hrl := runs_len p.u k
    have htot : p.runs.length ≤ p.u.length := Nat.le_trans (runs_len _ _) (by omega)
    rw [runs_cons hkl (hz hkl)] at hdone
    have hdl : done.length + 1 ≤ p.u.length := by
      have := congrArg List.length hdone
      simp at this; omega
    refine Ret.use (f49 hP2 hT2 k (by omega) true) ?_
    rintro v w3 ⟨rfl, hq3⟩
    rw [AsI_int]
    have hP3 := hP2.qt hq3
    refine hP3.st.ld rfl ?_
    rw [AsI_int, w64 (n := (p.first : Int) + (k : Int)) (by omega) (by omega), w64 (n := ((next p.u true k : Nat) : Int) - (k : Int)) (by have := (next_spec p.u true k).1; omega) (by have := (next_spec p.u true k).1; omega)]
    refine push_sl E55 (by decide) (hsl.qt hq3) (by have := hf.size; rw [hq3.heap]; exact this) rfl (by intro u hu; simp [Value.cells] at hu; rcases hu with rfl | rfl <;> rfl) (by simp only [maxLen]; omega) (by omega) ?_
    intro p' c' w4 hsl4 hf4 hon4
    rw [AsSl_slice]
    have hf40 : Fr (fun _ => False) w w4 := (hf.trans hq3.fr).own hf4 (fun b hb hlt => by have := (hsl.lt b hb).1; omega)
    refine Ret.use (f49 (hP.fr0 hf40) (hT.fr0 hf40) (next p.u true k) (by have := (next_spec p.u true k).1; omega) false) ?_
    rintro v w5 ⟨rfl, hq5⟩
    rw [AsI_int]
    refine ⟨⟨next p.u false (next p.u true k), p', c', done ++ [(k, next p.u true k - k)], by simp, n3, fun h => next_free h, by simpa using hdone, ?_, hf40.trans hq5.fr⟩, ?_⟩
    · have e : runCells p.first (done ++ [(k, next p.u true k - k)]) = runCells p.first done ++ [.int .i64 ((p.first : Int) + (k : Int)), .int .i64 (((next p.u true k : Nat) : Int) - (k : Int))] := by
        simp [runCells, List.flatMap_append]
        omega
      rw [e, List.length_append]
      exact hsl4.qt hq5
    · simp only [Int.toNat_natCast]; omega
  · have hkl : k = p.u.length := by omega
    rw [runs_end (by omega), List.append_nil] at hdone
    subst hdone
    exact ⟨q, c, rfl, hsl, hf⟩
end Go.Proofs.YthpodlcbikialaaDoor
