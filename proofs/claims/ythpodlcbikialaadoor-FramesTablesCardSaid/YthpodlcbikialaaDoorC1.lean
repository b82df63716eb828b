import Derived.Test.YthpodlcbikialaaDoorB5
import Derived.Test.YthpodlcbikialaaDoorG3
set_option linter.unusedVariables false
set_option linter.unusedSimpArgs false
namespace Go.Proofs.YthpodlcbikialaaDoor
open Go Go.Sh Go.Fr

/-! ## the laws' own helpers -/
theorem f14 {w : World} (e : Int) : Ret prog 14 #[.int .i64 e] w fun v w' => v = .int .i64 e ∧ w' = w := by
  refine F14_of _ _ _ ?_
  exact ⟨rfl, rfl⟩
theorem f22 {w : World} (n k : Int) (hk : 0 < k) (hk2 : k ≤ 9223372036854775807) : Ret prog 22 #[.int .i64 n, .int .i64 k] w fun v w' => v = .int .i64 (n % k) ∧ w' = w := by
  refine F22_of _ _ _ _ ?_
  unfold F22
  refine NZ.mk (by omega) ?_
  have h0 := Int.emod_nonneg n (show k ≠ 0 by omega)
  have h1 := Int.emod_lt_of_pos n hk
  have ht := @Int.tmod_eq_emod n k
  by_cases hd : 0 ≤ n ∨ k ∣ n
  · rw [if_pos hd] at ht
    rw [show n.tmod k = n % k by omega]
    exact BIf_neg (by omega) ⟨rfl, rfl⟩
  · rw [if_neg hd] at ht
    rw [show n.tmod k = n % k - k by omega]
    refine BIf_pos (by omega) ⟨?_, rfl⟩
    rw [show n % k - k + k = n % k by omega, w64 (by omega) (by omega)]
theorem f19 {w : World} (first count : Int) : Ret prog 19 #[.int .i64 first, .int .i64 count] w fun v w' => ∃ b bu bd, v = .tuple #[.pointer (some ⟨b, 0, none⟩), .int .i64 (first % 10000), .int .i64 (1 + count % 200)] ∧
    PoolAt w' b bu bd (newPool (first % 10000).toNat (1 + count % 200).toNat) ∧ Fr0 w w' ∧ w.heap.size ≤ b ∧ w.heap.size ≤ bu ∧ w.heap.size ≤ bd := by
  refine F19_of _ _ _ _ ?_
  unfold F19
  refine Ret.use (f22 first 10000 (by decide) (by decide)) ?_
  rintro v w1 ⟨rfl, rfl⟩
  rw [AsI_int]
  refine Ret.use (f22 count 200 (by decide) (by decide)) ?_
  rintro v w2 ⟨rfl, rfl⟩
  rw [AsI_int, w64 (by omega) (by omega)]
  refine Ret.use (f41 _ _ (by omega)) ?_
  have hz : newErr (first % 10000) (1 + count % 200) = 0 := by
    unfold newErr; rw [if_neg (by omega), if_neg (by omega)]
  rintro v w3 (⟨h, _⟩ | ⟨_, h1, h2, h3, h4, b, bu, bd, rfl, hP, hf, hb⟩)
  · exact absurd hz h
  simp only [AsTup_tuple, UnC_cons, UnN_nil, AsI_int, AsP_pointer]
  refine Ret.use (f14 0) ?_
  rintro v w4 ⟨rfl, rfl⟩
  rw [AsI_int]
  refine BIf_ne (fun h => absurd rfl h) (fun _ => ?_)
  exact ⟨b, bu, bd, rfl, hP, hf, hb⟩

/-- what the pool's calls answer, as plain relations -/
inductive PTake (p : Pool) (n al : Int) : Nat → Nat → Pool → Prop
  | bad (h : badTake n al) : PTake p n al 0 41 p
  | none (h : ¬ badTake n al) (hn : ∀ a, ¬ Fit p.first p.u n.toNat al.toNat a) : PTake p n al 0 42 p
  | ok (h : ¬ badTake n al) (a : Nat) (hf : Fit p.first p.u n.toNat al.toNat a) (hl : ∀ a', a' < a → ¬ Fit p.first p.u n.toNat al.toNat a') : PTake p n al (p.first + a) 0 (p.turned a (fun _ => 1) n.toNat)
theorem f23' {w : World} {b bu bd : Nat} {p : Pool} (hP : PoolAt w b bu bd p) (hT : Tz w) (hd : ¬ Own b bu bd 0) (n al : Int) (hn : n ≤ 9223372036854775807) :
    Ret prog 23 #[.pointer (some ⟨b, 0, none⟩), .int .i64 n, .int .i64 al] w fun v w' => ∃ r e p', v = .tuple #[.int .i64 ((r : Nat) : Int), .int .i64 ((e : Nat) : Int)] ∧ PTake p n al r e p' ∧ PoolAt w' b bu bd p' ∧ Fr (Own b bu bd) w w' := by
  refine Ret.use (f23 hP hT hd n al hn) ?_
  rintro v w' (⟨h, rfl, hq⟩ | ⟨h, hno, rfl, hq⟩ | ⟨h, a, hf, hl, rfl, hP', hfr⟩)
  · exact ⟨0, 41, p, rfl, .bad h, hP.qt hq, hq.fr⟩
  · exact ⟨0, 42, p, rfl, .none h hno, hP.qt hq, hq.fr⟩
  · exact ⟨_, 0, _, rfl, .ok h a hf hl, hP', hfr⟩
/-- a step of a pool alone: the op's kind, First, N, Align; the answer; the error; the pool behind it -/
inductive PStep (p : Pool) (k f n al : Int) : Int → Nat → Pool → Prop
  | take (h : k = 1) (r e : Nat) (p' : Pool) (ht : PTake p n al r e p') : PStep p k f n al r e p'
  | shareErr (h : k = 2) (e : Nat) (he : p.shareErr f n e) (h0 : e ≠ 0) : PStep p k f n al 0 e p
  | share (h : k = 2) (he : p.shareErr f n 0) : PStep p k f n al 0 0 (p.turned (f - p.first).toNat (· + 1) n.toNat)
  | dropErr (h : k = 3) (h0 : (p.run f n).2 ≠ 0) : PStep p k f n al 0 (p.run f n).2 p
  | drop (h : k = 3) (h0 : (p.run f n).2 = 0) : PStep p k f n al (((p.turned (f - p.first).toNat (· - 1) n.toNat).free : Int) - p.free) 0 (p.turned (f - p.first).toNat (· - 1) n.toNat)
  | other (h1 : k ≠ 1) (h2 : k ≠ 2) (h3 : k ≠ 3) : PStep p k f n al 0 0 p
theorem PTake.same {p p' : Pool} {n al : Int} {r e : Nat} (h : PTake p n al r e p') : p'.first = p.first ∧ p'.u.length = p.u.length := by
  cases h <;> simp [Pool.turned, turn_len]
theorem PStep.same {p p' : Pool} {k f n al : Int} {r : Int} {e : Nat} (h : PStep p k f n al r e p') : p'.first = p.first ∧ p'.u.length = p.u.length := by
  cases h with
  | take _ r e p' ht => exact ht.same
  | _ => simp [Pool.turned, turn_len]
def I64 (n : Int) : Prop := -9223372036854775808 ≤ n ∧ n ≤ 9223372036854775807
theorem f20 {w : World} {b bu bd : Nat} {p : Pool} (hP : PoolAt w b bu bd p) (hT : Tz w) (hd : ¬ Own b bu bd 0) (k f n al y : Int) (hf : I64 f) (hn : I64 n) :
    Ret prog 20 #[.pointer (some ⟨b, 0, none⟩), .agg #[.int .i64 k, .int .i64 f, .int .i64 n, .int .i64 al, .int .i64 y]] w fun v w' => ∃ r e p', v = .tuple #[.int .i64 r, .int .i64 ((e : Nat) : Int)] ∧ PStep p k f n al r e p' ∧ PoolAt w' b bu bd p' ∧ Fr (Own b bu bd) w w' := by
  refine F20_of _ _ _ _ _ _ _ _ ?_
  unfold F20
  refine New.mk fun w1 n1 f1 s1 => ?_
  simp only [at0_mk, Nat.zero_add]
  refine n1.ld rfl ?_
  rw [AsI_int]
  have hP1 := hP.fr0 f1
  have hT1 := hT.fr0 f1
  have fw : Fr (Own b bu bd) w w1 := f1.mono fun _ _ h => h.elim
  refine BIf_eq (fun h1 => ?_) (fun h1 => ?_)
  · refine n1.ld rfl ?_
    rw [AsI_int]
    refine n1.ld rfl ?_
    rw [AsI_int]
    refine Ret.use (f23' hP1 hT1 hd n al hn.2) ?_
    rintro v w2 ⟨r, e, p', rfl, ht, hP2, hf2⟩
    simp only [AsTup_tuple, UnC_cons, UnN_nil, AsI_int]
    exact ⟨_, e, p', rfl, .take h1 r e p' ht, hP2, fw.trans hf2⟩
  refine BIf_eq (fun h2 => ?_) (fun h2 => ?_)
  · refine n1.ld rfl ?_
    rw [AsI_int]
    refine n1.ld rfl ?_
    rw [AsI_int]
    refine Ret.use (f47 hP1 hT1 f n hf hn.2) ?_
    rintro v w2 ⟨e, rfl, he, (⟨h0, hq⟩ | ⟨rfl, hP2, hf2⟩)⟩
    · simp only [AsI_int]
      exact ⟨_, e, p, rfl, .shareErr h2 e he h0, hP1.qt hq, fw.trans hq.fr⟩
    · simp only [AsI_int]
      exact ⟨_, 0, _, rfl, .share h2 he, hP2, fw.trans hf2⟩
  refine BIf_eq (fun h3 => ?_) (fun h3 => ?_)
  · refine n1.ld rfl ?_
    rw [AsI_int]
    refine n1.ld rfl ?_
    rw [AsI_int]
    refine Ret.use (f25 hP1 hT1 hd f n hf hn.2) ?_
    rintro v w2 (⟨h0, rfl, hq⟩ | ⟨h0, rfl, hP2, hf2⟩)
    · simp only [AsTup_tuple, UnC_cons, UnN_nil, AsI_int]
      exact ⟨_, _, p, rfl, .dropErr h3 h0, hP1.qt hq, fw.trans hq.fr⟩
    · simp only [AsTup_tuple, UnC_cons, UnN_nil, AsI_int]
      exact ⟨_, 0, _, rfl, .drop h3 h0, hP2, fw.trans hf2⟩
  · exact ⟨0, 0, p, rfl, .other h1 h2 h3, hP1, fw⟩

def i64s (l : List Int) : List Value := l.map (Value.int .i64)
theorem i64n_eq (l : List Nat) : i64n l = i64s (l.map fun n : Nat => (n : Int)) := by unfold i64n i64s; rw [List.map_map]; rfl
theorem f21 {w : World} {b bu bd : Nat} {p : Pool} (hP : PoolAt w b bu bd p) :
    Ret prog 21 #[.pointer (some ⟨b, 0, none⟩), .int .i64 (p.first : Int), .int .i64 (p.u.length : Int)] w fun v w' => ∃ q c, v = .slice q p.u.length c ∧ Sl w' w.heap.size 3 1 q p.u.length c (i64n p.u) ∧ Fr0 w w' := by
  have hN := hP.ok.n
  have hL := hP.ok.le
  refine F21_of _ _ _ _ _ ?_
  unfold F21
  refine Loop.by (fun s w' => ∃ (i : Nat) (q : Option Addr) (d : Nat), s = [.int .i64 (i : Int), .slice q i d] ∧ i ≤ p.u.length ∧ Sl w' w.heap.size 3 1 q i d (i64n (p.u.take i)) ∧ Fr0 w w')
    (fun s _ => match s with | [.int _ k, _] => p.u.length - k.toNat | _ => 0)
    ⟨0, none, 0, rfl, by omega, Sl.nil _ _ _ _, Fr.refl _ _⟩ ?_
  rintro _ w1 ⟨i, q, d, rfl, hi, hsl, hf⟩
  simp only [UnC_cons, UnN_nil, AsI_int, AsSl_slice]
  refine BIf_cases (fun hlt => ?_) (fun hge => ?_)
  · have hil : i < p.u.length := by omega
    rw [w64 (n := (p.first : Int) + (i : Int)) (by omega) (by omega)]
    refine Ret.use (f16 (hP.fr0 hf) ((p.first : Int) + (i : Int)) (by omega)) ?_
    rintro v w2 ⟨rfl, hq⟩
    rw [AsI_int]
    have hat : p.at_ ((p.first : Int) + (i : Int)) = p.u[i] := by
      unfold Pool.at_
      rw [if_neg (by omega), show ((p.first : Int) + (i : Int) - (p.first : Int)).toNat = i by omega, getD_get hil]
    rw [hat]
    refine push_sl E38 (by decide) (hsl.qt hq) (hf.trans hq.fr).size rfl (by intro u hu; simp [Value.cells] at hu; subst hu; rfl) (by simp only [maxLen]; omega) (by omega) ?_
    intro p' c' w3 hsl3 hf3 hon3
    rw [AsSl_slice, w64 (n := (i : Int) + 1) (by omega) (by omega)]
    refine ⟨⟨i + 1, p', c', rfl, by omega, ?_, (hf.trans hq.fr).own hf3 (fun b hb hlt => by have := (hsl.lt b hb).1; omega)⟩, ?_⟩
    · have e : i64n (p.u.take (i + 1)) = i64n (p.u.take i) ++ [.int .i64 ((p.u[i] : Nat) : Int)] := by
        rw [List.take_add_one, List.getElem?_eq_getElem hil]; simp only [i64n, List.map_append, Option.toList_some, List.map_cons, List.map_nil]
      rw [e]; exact hsl3
    · show p.u.length - ((i : Int) + 1).toNat < p.u.length - (i : Int).toNat
      omega
  · obtain rfl : i = p.u.length := by omega
    rw [List.take_length] at hsl
    exact ⟨q, d, rfl, hsl, hf⟩
theorem f24 {w : World} {a b : Option Addr} {ac bc : Nat} {l1 l2 : List Int} (h1 : Rd w a (i64s l1)) (h2 : Rd w b (i64s l2)) (hl1 : l1.length ≤ 9223372036854775806) (hl2 : l2.length ≤ 9223372036854775806) :
    Ret prog 24 #[.slice a l1.length ac, .slice b l2.length bc] w fun v w' => v = .bool (decide (l1 = l2)) ∧ Qt w w' := by
  refine F24_of _ _ _ _ _ _ _ _ ?_
  unfold F24
  refine BIf_ne (fun h => ?_) (fun h => ?_)
  · refine ⟨?_, Qt.refl w⟩
    rw [decide_eq_false]; rintro rfl; exact h rfl
  have hl : l1.length = l2.length := by omega
  refine Loop.by (fun s w' => ∃ (i : Nat) (c : Bool), s = [.int .i64 (i : Int), .bool c] ∧ i ≤ l1.length ∧ (∀ j, j < i → l1[j]? = l2[j]?) ∧ Qt w w')
    (fun s _ => match s with | [.int _ k, _] => l1.length - k.toNat | _ => 0)
    ⟨0, false, rfl, by omega, fun j h => by omega, Qt.refl w⟩ ?_
  rintro _ w1 ⟨i, c, rfl, hi, heq, hq⟩
  simp only [UnC_cons, UnN_nil, AsI_int, AsB_bool, Ld_drew]
  refine BIf_cases (fun hlt => ?_) (fun hge => ?_)
  · have hil : i < l1.length := by omega
    refine (h1.qt hq).int rfl (by omega) (x := l1[i]) (by simp [hil]) ?_
    refine (h2.qt hq).int rfl (by omega) (x := l2[i]) (by simp) ?_
    refine BIf_ne (fun h => ?_) (fun h => ?_)
    · refine ⟨?_, hq.drew⟩
      rw [decide_eq_false]; rintro rfl; exact h rfl
    · rw [w64 (n := (i : Int) + 1) (by omega) (by omega)]
      refine ⟨⟨i + 1, c, rfl, by omega, fun j hj => ?_, hq.drew⟩, ?_⟩
      · by_cases e : j = i
        · subst e; rw [List.getElem?_eq_getElem hil, List.getElem?_eq_getElem (by omega), h]
        · exact heq j (by omega)
      · show l1.length - ((i : Int) + 1).toNat < l1.length - (i : Int).toNat
        omega
  · refine ⟨?_, hq⟩
    rw [decide_eq_true]
    apply List.ext_getElem?
    intro j
    by_cases hj : j < l1.length
    · exact heq j (by omega)
    · rw [List.getElem?_eq_none (by omega), List.getElem?_eq_none (by omega)]
theorem f52 {w : World} {a : Option Addr} {ac : Nat} {l : List Int} (h1 : Rd w a (i64s l)) (hl1 : l.length ≤ 9223372036854775806) (x : Int) :
    Ret prog 52 #[.slice a l.length ac, .int .i64 x] w fun v w' => v = .bool (decide (x ∈ l)) ∧ w' = w := by
  refine F52_of _ _ _ _ _ _ ?_
  unfold F52
  refine Loop.by (fun s w' => ∃ (i : Nat) (c : Bool), s = [.int .i64 (i : Int), .bool c] ∧ i ≤ l.length ∧ (∀ j y, j < i → l[j]? = some y → y ≠ x) ∧ w' = w)
    (fun s _ => match s with | [.int _ k, _] => l.length - k.toNat | _ => 0)
    ⟨0, false, rfl, by omega, fun j y h => by omega, rfl⟩ ?_
  rintro _ w1 ⟨i, c, rfl, hi, hne, hw⟩
  obtain rfl := hw.symm
  simp only [UnC_cons, UnN_nil, AsI_int, AsB_bool]
  refine BIf_cases (fun hlt => ?_) (fun hge => ?_)
  · have hil : i < l.length := by omega
    refine h1.int rfl (by omega) (x := l[i]) (by simp [hil]) ?_
    refine BIf_eq (fun h => ?_) (fun h => ?_)
    · refine ⟨?_, by trivial⟩
      rw [decide_eq_true]; rw [← h]; exact List.getElem_mem hil
    · rw [w64 (n := (i : Int) + 1) (by omega) (by omega)]
      refine ⟨⟨i + 1, c, by trivial, by omega, fun j y hj hy => ?_, by trivial⟩, ?_⟩
      · by_cases e : j = i
        · subst e; rw [List.getElem?_eq_getElem hil] at hy; injection hy with hy; subst hy; exact h
        · exact hne j y (by omega) hy
      · show l.length - ((i : Int) + 1).toNat < l.length - (i : Int).toNat
        omega
  · refine ⟨?_, by trivial⟩
    rw [decide_eq_false]
    intro hm
    obtain ⟨j, hj, rfl⟩ := List.getElem_of_mem hm
    exact hne j _ (by omega) (List.getElem?_eq_getElem hj) rfl
end Go.Proofs.YthpodlcbikialaaDoor
