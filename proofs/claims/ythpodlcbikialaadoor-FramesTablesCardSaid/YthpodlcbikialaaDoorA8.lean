import Derived.Test.YthpodlcbikialaaDoorA7
import Derived.Test.YthpodlcbikialaaDoorFrPure3
set_option linter.unusedVariables false
set_option linter.unusedSimpArgs false
namespace Go.Proofs.YthpodlcbikialaaDoor
open Go Go.Sh Go.Fr
def badTake (n al : Int) : Prop := n < 1 ∨ al < 1 ∨ al > 4096 ∨ pow2B al.toNat = false
/-- what Take answers -/
def TakeR (p : Pool) (n al : Int) (b bu bd : Nat) (w : World) (v : Value) (w' : World) : Prop :=
  (badTake n al ∧ v = .tuple #[.int .i64 0, .int .i64 41] ∧ Qt w w') ∨
  (¬ badTake n al ∧ (∀ a, ¬ Fit p.first p.u n.toNat al.toNat a) ∧ v = .tuple #[.int .i64 0, .int .i64 42] ∧ Qt w w') ∨
  (¬ badTake n al ∧ ∃ a, Fit p.first p.u n.toNat al.toNat a ∧ (∀ a', a' < a → ¬ Fit p.first p.u n.toNat al.toNat a') ∧ v = .tuple #[.int .i64 (p.first + a : Nat), .int .i64 0] ∧
    PoolAt w' b bu bd (p.turned a (fun _ => 1) n.toNat) ∧ Fr (Own b bu bd) w w')
theorem f23 {w : World} {b bu bd : Nat} {p : Pool} (hP : PoolAt w b bu bd p) (hT : Tz w) (hd : ¬ Own b bu bd 0) (n al : Int) (hn : n ≤ 9223372036854775807) :
    Ret prog 23 #[.pointer (some ⟨b, 0, none⟩), .int .i64 n, .int .i64 al] w (TakeR p n al b bu bd w) := by
  have hN := hP.ok.n
  have hL := hP.ok.le
  refine F23_of _ _ _ _ _ ?_
  unfold F23
  by_cases h1 : n < 1
  · rw [decide_eq_true h1, BIf_true]; exact .inl ⟨.inl h1, rfl, Qt.refl w⟩
  rw [decide_eq_false h1, BIf_false]
  by_cases h2 : al < 1
  · rw [decide_eq_true h2, BIf_true]; exact .inl ⟨.inr (.inl h2), rfl, Qt.refl w⟩
  rw [decide_eq_false h2, BIf_false]
  by_cases h3 : al > 4096
  · rw [decide_eq_true h3, BIf_true]; exact .inl ⟨.inr (.inr (.inl h3)), rfl, Qt.refl w⟩
  rw [decide_eq_false h3, BIf_false, wu64 (n := al) (by omega) (by omega)]
  obtain ⟨l, rfl⟩ : ∃ l : Nat, al = l := ⟨al.toNat, by omega⟩
  obtain ⟨m, rfl⟩ : ∃ m : Nat, n = m := ⟨n.toNat, by omega⟩
  refine Ret.use (f48 l (by omega)) ?_
  rintro _ w1 ⟨⟨c, rfl, hc⟩, hw⟩
  obtain rfl := hw.symm
  simp only [AsI_int]
  rw [hc]
  cases h4 : pow2B l with
  | false =>
    rw [Bool.not_false, BIf_true]; exact .inl ⟨.inr (.inr (.inr h4)), rfl, Qt.refl _⟩
  | true =>
  have hgood : ¬ badTake (m : Int) (l : Int) := by
    rintro (h | h | h | h)
    · omega
    · omega
    · omega
    · rw [Int.toNat_natCast, h4] at h; cases h
  rw [Bool.not_true, BIf_false]
  simp only [at0_mk, Nat.zero_add]
  have hl : 0 < l := by omega
  have hl2 : l ≤ 4096 := by omega
  refine Loop.by (fun s w' => ∃ a : Nat, s = [.int .i64 (a : Int), .int .i64 0, .int .i64 0] ∧ a ≤ p.u.length ∧ (∀ a', a' < a → ¬ Fit p.first p.u m l a') ∧ Qt w w')
    (fun s _ => match s with | [.int _ a, _, _] => p.u.length + 1 - a.toNat | _ => 0) ⟨0, rfl, by omega, fun a' h => by omega, Qt.refl w⟩ ?_
  rintro _ w2 ⟨a, rfl, ha, hno, hq⟩
  simp only [UnC_cons, AsI_int, UnN_nil]
  obtain ⟨r1, r2, r3, r4, r5, r6⟩ := fit_round (first := p.first) (n := m) (al := l) (by omega) hl hno ha
  refine Ret.use (f49 (hP.qt hq) (hT.qt hq) a (by omega) false) ?_
  rintro _ w3 ⟨rfl, hq3⟩
  have hq := hq.trans hq3
  have hP3 := hP.qt hq
  have ha1 : next p.u false a ≤ p.u.length := (next_spec p.u false a).1
  generalize next p.u false a = a1 at *
  simp only [AsI_int]
  refine hP3.st.ld rfl ?_
  simp only [AsI_int]
  refine NZ.mk (by omega) ?_
  refine hP3.st.ld rfl ?_
  simp only [AsI_int]
  refine hP3.st.ld rfl ?_
  simp only [AsI_int]
  have hup := up_le (m := p.first + a1) hl
  have e1 : IntKind.i64.wrap (IntKind.i64.wrap ((IntKind.i64.wrap (IntKind.i64.wrap (IntKind.i64.wrap ((p.first : Int) + (a1 : Int)) + (l : Int)) - 1)).tdiv (l : Int)) * (l : Int)) = ((up (p.first + a1) l : Nat) : Int) := by
    have hdiv : (((p.first : Int) + (a1 : Int) + (l : Int) - 1) / (l : Int)) = (((p.first + a1 + l - 1) / l : Nat) : Int) := by
      rw [Int.natCast_ediv]; congr 1; omega
    have hle : (p.first + a1 + l - 1) / l ≤ p.first + a1 + l - 1 := Nat.div_le_self _ _
    rw [w64 (n := (p.first : Int) + (a1 : Int)) (by omega) (by omega), w64 (n := (p.first : Int) + (a1 : Int) + (l : Int)) (by omega) (by omega),
      w64 (n := (p.first : Int) + (a1 : Int) + (l : Int) - 1) (by omega) (by omega), IntWalk.i64_quo _ _ ⟨by omega, by omega, by omega⟩, hdiv,
      show (((p.first + a1 + l - 1) / l : Nat) : Int) * (l : Int) = ((up (p.first + a1) l : Nat) : Int) from by unfold up; push_cast; rfl]
    exact w64 (by omega) (by omega)
  simp only [e1]
  have e2 : IntKind.i64.wrap (((up (p.first + a1) l : Nat) : Int) - (p.first : Int)) = ((up (p.first + a1) l - p.first : Nat) : Int) := by rw [w64 (by omega) (by omega)]; omega
  simp only [e2]
  clear e1 e2
  generalize up (p.first + a1) l - p.first = a2 at *
  rw [← r3]
  by_cases h5 : a2 ≥ p.u.length
  · rw [decide_eq_true (show (a2 : Int) ≥ (p.u.length : Int) by omega), BIf_true]
    exact .inr (.inl ⟨hgood, r5 (.inl h5), rfl, hq⟩)
  rw [decide_eq_false (show ¬ (a2 : Int) ≥ (p.u.length : Int) by omega), BIf_false]
  refine hP3.st.ld rfl ?_
  simp only [AsI_int]
  rw [w64 (n := (p.u.length : Int) - (a2 : Int)) (by omega) (by omega)]
  by_cases h6 : m > p.u.length - a2
  · rw [decide_eq_true (show (m : Int) > (p.u.length : Int) - (a2 : Int) by omega), BIf_true]
    exact .inr (.inl ⟨hgood, r5 (.inr h6), rfl, hq⟩)
  rw [decide_eq_false (show ¬ (m : Int) > (p.u.length : Int) - (a2 : Int) by omega), BIf_false]
  obtain ⟨r7, r8⟩ := r6 (by omega) (by omega)
  refine Ret.use (f49 hP3 (hT.qt hq) a2 (by omega) true) ?_
  rintro _ w4 ⟨rfl, hq4⟩
  have hq4 := hq.trans hq4
  generalize next p.u true a2 = bz at *
  simp only [AsI_int]
  rw [w64 (n := (a2 : Int) + (m : Int)) (by omega) (by omega)]
  by_cases h7 : bz < a2 + m
  · rw [decide_eq_true (show (bz : Int) < (a2 : Int) + (m : Int) by omega), BIf_true]
    obtain ⟨r9, r10, r11⟩ := r7 h7
    rw [w64 (n := (bz : Int) + 1) (by omega) (by omega)]
    refine ⟨⟨bz + 1, rfl, by omega, r11, hq4⟩, ?_⟩
    show p.u.length + 1 - ((bz : Int) + 1).toNat < p.u.length + 1 - (a : Int).toNat
    omega
  rw [decide_eq_false (show ¬ (bz : Int) < (a2 : Int) + (m : Int) by omega), BIf_false]
  refine Loop.by (fun s w' => ∃ i : Nat, s = [.int .i64 (i : Int)] ∧ i ≤ m ∧ PoolAt w' b bu bd (p.turned a2 (fun _ => 1) i) ∧ Fr (Own b bu bd) w w') (fun s _ => match s with | [.int _ i] => m - i.toNat | _ => 0)
    ⟨0, rfl, by omega, hP.qt hq4, hq4.fr⟩ ?_
  rintro _ w5 ⟨i, rfl, hi, hP5, hf5⟩
  simp only [UnC_cons, AsI_int, UnN_nil]
  have hlen : (p.turned a2 (fun _ => 1) i).u.length = p.u.length := turn_len _ _ _ _
  by_cases him : i < m
  · rw [decide_eq_true (show (i : Int) < (m : Int) by omega), BIf_true, w64 (n := (a2 : Int) + (i : Int)) (by omega) (by omega), show (a2 : Int) + (i : Int) = ((a2 + i : Nat) : Int) from by omega]
    refine Ret.use (f50 hP5 (a2 + i) 1 (by omega) (by omega)) ?_
    rintro v w6 ⟨rfl, hP6, hf6⟩
    simp only [AsTup_tuple, UnN_nil]
    rw [w64 (n := (i : Int) + 1) (by omega) (by omega)]
    exact ⟨⟨i + 1, rfl, by omega, hP6, hf5.trans hf6⟩, by show m - ((i : Int) + 1).toNat < m - (i : Int).toNat; omega⟩
  · rw [decide_eq_false (show ¬ (i : Int) < (m : Int) by omega), BIf_false]
    obtain rfl : i = m := by omega
    exact .inr (.inr ⟨hgood, a2, r8 (by omega), r4, rfl, hP5, hf5⟩)
end Go.Proofs.YthpodlcbikialaaDoor
