import Derived.Test.YthpodlcbikialaaDoorBs
import Derived.Test.YthpodlcbikialaaDoorG3
set_option linter.unusedVariables false
set_option linter.unusedSimpArgs false
set_option linter.unusedVariables false
set_option linter.unusedSimpArgs false
namespace Go.Proofs.YthpodlcbikialaaDoor
open Go Go.Sh Go.Fr

/-! ## the laws' own helpers -/
theorem f14 {w : World} (e : Int) : Ret prog 14 #[.int .i64 e] w fun v w' => v = .int .i64 e ∧ w' = w := by
  refine F14_of _ _ _ ?_
  exact ⟨rfl, rfl⟩
theorem f22 {w : World} (n k : Int) (hk : 0 < k) (hk2 : k ≤ 9223372036854775807) : Ret prog 22 #[.int .i64 n, .int .i64 k] w fun v w' => v = .int .i64 (n % k) ∧ w' = w := by
  refine F22_of _ _ _ _ ?_
  unfold F22
  refine NZ.mk (by omega) ?_
  have h0 := Int.emod_nonneg n (show k ≠ 0 by omega)
  have h1 := Int.emod_lt_of_pos n hk
  have ht := @Int.tmod_eq_emod n k
  by_cases hd : 0 ≤ n ∨ k ∣ n
  · rw [if_pos hd] at ht
    rw [show n.tmod k = n % k by omega]
    exact BIf_neg (by omega) ⟨rfl, rfl⟩
  · rw [if_neg hd] at ht
    rw [show n.tmod k = n % k - k by omega]
    refine BIf_pos (by omega) ⟨?_, rfl⟩
    rw [show n % k - k + k = n % k by omega, w64 (by omega) (by omega)]
theorem f19 {w : World} (first count : Int) : Ret prog 19 #[.int .i64 first, .int .i64 count] w fun v w' => ∃ b bu bd, v = .tuple #[.pointer (some ⟨b, 0, none⟩), .int .i64 (first % 10000), .int .i64 (1 + count % 200)] ∧
    PoolAt w' b bu bd (newPool (first % 10000).toNat (1 + count % 200).toNat) ∧ Fr0 w w' ∧ w.heap.size ≤ b ∧ w.heap.size ≤ bu ∧ w.heap.size ≤ bd := by
  refine F19_of _ _ _ _ ?_
  unfold F19
  refine Ret.use (f22 first 10000 (by decide) (by decide)) ?_
  rintro v w1 ⟨rfl, rfl⟩
  rw [AsI_int]
  refine Ret.use (f22 count 200 (by decide) (by decide)) ?_
  rintro v w2 ⟨rfl, rfl⟩
  rw [AsI_int, w64 (by omega) (by omega)]
  refine Ret.use (f41 _ _ (by omega)) ?_
  have hz : newErr (first % 10000) (1 + count % 200) = 0 := by
    unfold newErr; rw [if_neg (by omega), if_neg (by omega)]
  rintro v w3 (⟨h, _⟩ | ⟨_, h1, h2, h3, h4, b, bu, bd, rfl, hP, hf, hb⟩)
  · exact absurd hz h
  simp only [AsTup_tuple, UnC_cons, UnN_nil, AsI_int, AsP_pointer]
  refine Ret.use (f14 0) ?_
  rintro v w4 ⟨rfl, rfl⟩
  rw [AsI_int]
  refine BIf_ne (fun h => absurd rfl h) (fun _ => ?_)
  exact ⟨b, bu, bd, rfl, hP, hf, hb⟩

/-- what the pool's calls answer, as plain relations -/
inductive PTake (p : Pool) (n al : Int) : Nat → Nat → Pool → Prop
  | bad (h : badTake n al) : PTake p n al 0 41 p
  | none (h : ¬ badTake n al) (hn : ∀ a, ¬ Fit p.first p.u n.toNat al.toNat a) : PTake p n al 0 42 p
  | ok (h : ¬ badTake n al) (a : Nat) (hf : Fit p.first p.u n.toNat al.toNat a) (hl : ∀ a', a' < a → ¬ Fit p.first p.u n.toNat al.toNat a') : PTake p n al (p.first + a) 0 (p.turned a (fun _ => 1) n.toNat)
theorem f23' {w : World} {b bu bd : Nat} {p : Pool} (hP : PoolAt w b bu bd p) (hT : Tz w) (hd : ¬ Own b bu bd 0) (n al : Int) (hn : n ≤ 9223372036854775807) :
    Ret prog 23 #[.pointer (some ⟨b, 0, none⟩), .int .i64 n, .int .i64 al] w fun v w' => ∃ r e p', v = .tuple #[.int .i64 ((r : Nat) : Int), .int .i64 ((e : Nat) : Int)] ∧ PTake p n al r e p' ∧ PoolAt w' b bu bd p' ∧ Fr (Own b bu bd) w w' := by
  refine Ret.use (f23 hP hT hd n al hn) ?_
  rintro v w' (⟨h, rfl, hq⟩ | ⟨h, hno, rfl, hq⟩ | ⟨h, a, hf, hl, rfl, hP', hfr⟩)
  · exact ⟨0, 41, p, rfl, .bad h, hP.qt hq, hq.fr⟩
  · exact ⟨0, 42, p, rfl, .none h hno, hP.qt hq, hq.fr⟩
  · exact ⟨_, 0, _, rfl, .ok h a hf hl, hP', hfr⟩
/-- a step of a pool alone: the op's kind, First, N, Align; the answer; the error; the pool behind it -/
inductive PStep (p : Pool) (k f n al : Int) : Int → Nat → Pool → Prop
  | take (h : k = 1) (r e : Nat) (p' : Pool) (ht : PTake p n al r e p') : PStep p k f n al r e p'
  | shareErr (h : k = 2) (e : Nat) (he : p.shareErr f n e) (h0 : e ≠ 0) : PStep p k f n al 0 e p
  | share (h : k = 2) (he : p.shareErr f n 0) : PStep p k f n al 0 0 (p.turned (f - p.first).toNat (· + 1) n.toNat)
  | dropErr (h : k = 3) (h0 : (p.run f n).2 ≠ 0) : PStep p k f n al 0 (p.run f n).2 p
  | drop (h : k = 3) (h0 : (p.run f n).2 = 0) : PStep p k f n al (((p.turned (f - p.first).toNat (· - 1) n.toNat).free : Int) - p.free) 0 (p.turned (f - p.first).toNat (· - 1) n.toNat)
  | other (h1 : k ≠ 1) (h2 : k ≠ 2) (h3 : k ≠ 3) : PStep p k f n al 0 0 p
theorem PTake.same {p p' : Pool} {n al : Int} {r e : Nat} (h : PTake p n al r e p') : p'.first = p.first ∧ p'.u.length = p.u.length := by
  cases h <;> simp [Pool.turned, turn_len]
theorem PStep.same {p p' : Pool} {k f n al : Int} {r : Int} {e : Nat} (h : PStep p k f n al r e p') : p'.first = p.first ∧ p'.u.length = p.u.length := by
  cases h with
  | take _ r e p' ht => exact ht.same
  | _ => simp [Pool.turned, turn_len]
def I64 (n : Int) : Prop := -9223372036854775808 ≤ n ∧ n ≤ 9223372036854775807
theorem f20 {w : World} {b bu bd : Nat} {p : Pool} (hP : PoolAt w b bu bd p) (hT : Tz w) (hd : ¬ Own b bu bd 0) (k f n al y : Int) (hf : I64 f) (hn : I64 n) :
    Ret prog 20 #[.pointer (some ⟨b, 0, none⟩), .agg #[.int .i64 k, .int .i64 f, .int .i64 n, .int .i64 al, .int .i64 y]] w fun v w' => ∃ r e p', v = .tuple #[.int .i64 r, .int .i64 ((e : Nat) : Int)] ∧ PStep p k f n al r e p' ∧ PoolAt w' b bu bd p' ∧ Fr (Own b bu bd) w w' := by
  refine F20_of _ _ _ _ _ _ _ _ ?_
  unfold F20
  refine New.mk fun w1 n1 f1 s1 => ?_
  simp only [at0_mk, Nat.zero_add]
  refine n1.ld rfl ?_
  rw [AsI_int]
  have hP1 := hP.fr0 f1
  have hT1 := hT.fr0 f1
  have fw : Fr (Own b bu bd) w w1 := f1.mono fun _ _ h => h.elim
  refine BIf_eq (fun h1 => ?_) (fun h1 => ?_)
  · refine n1.ld rfl ?_
    rw [AsI_int]
    refine n1.ld rfl ?_
    rw [AsI_int]
    refine Ret.use (f23' hP1 hT1 hd n al hn.2) ?_
    rintro v w2 ⟨r, e, p', rfl, ht, hP2, hf2⟩
    simp only [AsTup_tuple, UnC_cons, UnN_nil, AsI_int]
    exact ⟨_, e, p', rfl, .take h1 r e p' ht, hP2, fw.trans hf2⟩
  refine BIf_eq (fun h2 => ?_) (fun h2 => ?_)
  · refine n1.ld rfl ?_
    rw [AsI_int]
    refine n1.ld rfl ?_
    rw [AsI_int]
    refine Ret.use (f47 hP1 hT1 f n hf hn.2) ?_
    rintro v w2 ⟨e, rfl, he, (⟨h0, hq⟩ | ⟨rfl, hP2, hf2⟩)⟩
    · simp only [AsI_int]
      exact ⟨_, e, p, rfl, .shareErr h2 e he h0, hP1.qt hq, fw.trans hq.fr⟩
    · simp only [AsI_int]
      exact ⟨_, 0, _, rfl, .share h2 he, hP2, fw.trans hf2⟩
  refine BIf_eq (fun h3 => ?_) (fun h3 => ?_)
  · refine n1.ld rfl ?_
    rw [AsI_int]
    refine n1.ld rfl ?_
    rw [AsI_int]
    refine Ret.use (f25 hP1 hT1 hd f n hf hn.2) ?_
    rintro v w2 (⟨h0, rfl, hq⟩ | ⟨h0, rfl, hP2, hf2⟩)
    · simp only [AsTup_tuple, UnC_cons, UnN_nil, AsI_int]
      exact ⟨_, _, p, rfl, .dropErr h3 h0, hP1.qt hq, fw.trans hq.fr⟩
    · simp only [AsTup_tuple, UnC_cons, UnN_nil, AsI_int]
      exact ⟨_, 0, _, rfl, .drop h3 h0, hP2, fw.trans hf2⟩
  · exact ⟨0, 0, p, rfl, .other h1 h2 h3, hP1, fw⟩

def i64s (l : List Int) : List Value := l.map (Value.int .i64)
theorem i64n_eq (l : List Nat) : i64n l = i64s (l.map fun n : Nat => (n : Int)) := by unfold i64n i64s; rw [List.map_map]; rfl
theorem f21 {w : World} {b bu bd : Nat} {p : Pool} (hP : PoolAt w b bu bd p) :
    Ret prog 21 #[.pointer (some ⟨b, 0, none⟩), .int .i64 (p.first : Int), .int .i64 (p.u.length : Int)] w fun v w' => ∃ q c, v = .slice q p.u.length c ∧ Sl w' w.heap.size 3 1 q p.u.length c (i64n p.u) ∧ Fr0 w w' := by
  have hN := hP.ok.n
  have hL := hP.ok.le
  refine F21_of _ _ _ _ _ ?_
  unfold F21
  refine Loop.by (fun s w' => ∃ (i : Nat) (q : Option Addr) (d : Nat), s = [.int .i64 (i : Int), .slice q i d] ∧ i ≤ p.u.length ∧ Sl w' w.heap.size 3 1 q i d (i64n (p.u.take i)) ∧ Fr0 w w')
    (fun s _ => match s with | [.int _ k, _] => p.u.length - k.toNat | _ => 0)
    ⟨0, none, 0, rfl, by omega, Sl.nil _ _ _ _, Fr.refl _ _⟩ ?_
  rintro _ w1 ⟨i, q, d, rfl, hi, hsl, hf⟩
  simp only [UnC_cons, UnN_nil, AsI_int, AsSl_slice]
  refine BIf_cases (fun hlt => ?_) (fun hge => ?_)
  · have hil : i < p.u.length := by omega
    rw [w64 (n := (p.first : Int) + (i : Int)) (by omega) (by omega)]
    refine Ret.use (f16 (hP.fr0 hf) ((p.first : Int) + (i : Int)) (by omega)) ?_
    rintro v w2 ⟨rfl, hq⟩
    rw [AsI_int]
    have hat : p.at_ ((p.first : Int) + (i : Int)) = p.u[i] := by
      unfold Pool.at_
      rw [if_neg (by omega), show ((p.first : Int) + (i : Int) - (p.first : Int)).toNat = i by omega, getD_get hil]
    rw [hat]
    refine push_sl E38 (by decide) (hsl.qt hq) (hf.trans hq.fr).size rfl (by intro u hu; simp [Value.cells] at hu; subst hu; rfl) (by simp only [maxLen]; omega) (by omega) ?_
    intro p' c' w3 hsl3 hf3 hon3
    rw [AsSl_slice, w64 (n := (i : Int) + 1) (by omega) (by omega)]
    refine ⟨⟨i + 1, p', c', rfl, by omega, ?_, (hf.trans hq.fr).own hf3 (fun b hb hlt => by have := (hsl.lt b hb).1; omega)⟩, ?_⟩
    · have e : i64n (p.u.take (i + 1)) = i64n (p.u.take i) ++ [.int .i64 ((p.u[i] : Nat) : Int)] := by
        rw [List.take_add_one, List.getElem?_eq_getElem hil]; simp only [i64n, List.map_append, Option.toList_some, List.map_cons, List.map_nil]
      rw [e]; exact hsl3
    · show p.u.length - ((i : Int) + 1).toNat < p.u.length - (i : Int).toNat
      omega
  · obtain rfl : i = p.u.length := by omega
    rw [List.take_length] at hsl
    exact ⟨q, d, rfl, hsl, hf⟩
theorem f24 {w : World} {a b : Option Addr} {ac bc : Nat} {l1 l2 : List Int} (h1 : Rd w a (i64s l1)) (h2 : Rd w b (i64s l2)) (hl1 : l1.length ≤ 9223372036854775806) (hl2 : l2.length ≤ 9223372036854775806) :
    Ret prog 24 #[.slice a l1.length ac, .slice b l2.length bc] w fun v w' => v = .bool (decide (l1 = l2)) ∧ Qt w w' := by
  refine F24_of _ _ _ _ _ _ _ _ ?_
  unfold F24
  refine BIf_ne (fun h => ?_) (fun h => ?_)
  · refine ⟨?_, Qt.refl w⟩
    rw [decide_eq_false]; rintro rfl; exact h rfl
  have hl : l1.length = l2.length := by omega
  refine Loop.by (fun s w' => ∃ (i : Nat) (c : Bool), s = [.int .i64 (i : Int), .bool c] ∧ i ≤ l1.length ∧ (∀ j, j < i → l1[j]? = l2[j]?) ∧ Qt w w')
    (fun s _ => match s with | [.int _ k, _] => l1.length - k.toNat | _ => 0)
    ⟨0, false, rfl, by omega, fun j h => by omega, Qt.refl w⟩ ?_
  rintro _ w1 ⟨i, c, rfl, hi, heq, hq⟩
  simp only [UnC_cons, UnN_nil, AsI_int, AsB_bool, Ld_drew]
  refine BIf_cases (fun hlt => ?_) (fun hge => ?_)
  · have hil : i < l1.length := by omega
    refine (h1.qt hq).int rfl (by omega) (x := l1[i]) (by simp [hil]) ?_
    refine (h2.qt hq).int rfl (by omega) (x := l2[i]) (by simp) ?_
    refine BIf_ne (fun h => ?_) (fun h => ?_)
    · refine ⟨?_, hq.drew⟩
      rw [decide_eq_false]; rintro rfl; exact h rfl
    · rw [w64 (n := (i : Int) + 1) (by omega) (by omega)]
      refine ⟨⟨i + 1, c, rfl, by omega, fun j hj => ?_, hq.drew⟩, ?_⟩
      · by_cases e : j = i
        · subst e; rw [List.getElem?_eq_getElem hil, List.getElem?_eq_getElem (by omega), h]
        · exact heq j (by omega)
      · show l1.length - ((i : Int) + 1).toNat < l1.length - (i : Int).toNat
        omega
  · refine ⟨?_, hq⟩
    rw [decide_eq_true]
    apply List.ext_getElem?
    intro j
    by_cases hj : j < l1.length
    · exact heq j (by omega)
    · rw [List.getElem?_eq_none (by omega), List.getElem?_eq_none (by omega)]
theorem f52 {w : World} {a : Option Addr} {ac : Nat} {l : List Int} (h1 : Rd w a (i64s l)) (hl1 : l.length ≤ 9223372036854775806) (x : Int) :
    Ret prog 52 #[.slice a l.length ac, .int .i64 x] w fun v w' => v = .bool (decide (x ∈ l)) ∧ w' = w := by
  refine F52_of _ _ _ _ _ _ ?_
  unfold F52
  refine Loop.by (fun s w' => ∃ (i : Nat) (c : Bool), s = [.int .i64 (i : Int), .bool c] ∧ i ≤ l.length ∧ (∀ j y, j < i → l[j]? = some y → y ≠ x) ∧ w' = w)
    (fun s _ => match s with | [.int _ k, _] => l.length - k.toNat | _ => 0)
    ⟨0, false, rfl, by omega, fun j y h => by omega, rfl⟩ ?_
  rintro _ w1 ⟨i, c, rfl, hi, hne, hw⟩
  obtain rfl := hw.symm
  simp only [UnC_cons, UnN_nil, AsI_int, AsB_bool]
  refine BIf_cases (fun hlt => ?_) (fun hge => ?_)
  · have hil : i < l.length := by omega
    refine h1.int rfl (by omega) (x := l[i]) (by simp [hil]) ?_
    refine BIf_eq (fun h => ?_) (fun h => ?_)
    · refine ⟨?_, by trivial⟩
      rw [decide_eq_true]; rw [← h]; exact List.getElem_mem hil
    · rw [w64 (n := (i : Int) + 1) (by omega) (by omega)]
      refine ⟨⟨i + 1, c, by trivial, by omega, fun j y hj hy => ?_, by trivial⟩, ?_⟩
      · by_cases e : j = i
        · subst e; rw [List.getElem?_eq_getElem hil] at hy; injection hy with hy; subst hy; exact h
        · exact hne j y (by omega) hy
      · show l.length - ((i : Int) + 1).toNat < l.length - (i : Int).toNat
        omega
  · refine ⟨?_, by trivial⟩
    rw [decide_eq_false]
    intro hm
    obtain ⟨j, hj, rfl⟩ := List.getElem_of_mem hm
    exact hne j _ (by omega) (List.getElem?_eq_getElem hj) rfl
end Go.Proofs.YthpodlcbikialaaDoor

set_option linter.unusedVariables false
set_option linter.unusedSimpArgs false
namespace Go.Proofs.YthpodlcbikialaaDoor
open Go Go.Sh Go.Fr

theorem PTake.eq {p p' : Pool} {n al : Int} {r e : Nat} (h : PTake p n al r e p') (hb : ¬ badTake n al) {a : Nat} (hf : Fit p.first p.u n.toNat al.toNat a) (hl : ∀ a', a' < a → ¬ Fit p.first p.u n.toNat al.toNat a') :
    r = p.first + a ∧ e = 0 ∧ p' = p.turned a (fun _ => 1) n.toNat := by
  cases h with
  | bad h => exact absurd h hb
  | none _ hn => exact absurd hf (hn a)
  | ok _ a' hf' hl' =>
    have : a' = a := by
      rcases Nat.lt_trichotomy a' a with h | h | h
      · exact absurd hf' (hl a' h)
      · exact h
      · exact absurd hf (hl' a h)
    subst this; exact ⟨rfl, rfl, rfl⟩
def fitB (first : Nat) (u : List Nat) (n al a : Nat) : Bool := (first + a) % al == 0 && decide (a + n ≤ u.length) && (List.range n).all fun i => u.getD (a + i) 0 == 0
theorem fitB_iff {first n al a : Nat} {u : List Nat} : fitB first u n al a = true ↔ Fit first u n al a := by
  simp only [fitB, Fit, Bool.and_eq_true, beq_iff_eq, decide_eq_true_eq, List.all_eq_true, List.mem_range, and_assoc]
  constructor
  · rintro ⟨h1, h2, h3⟩
    refine ⟨h1, h2, fun x hx hx2 => ?_⟩
    have := h3 (x - a) (by omega)
    rwa [show a + (x - a) = x by omega] at this
  · rintro ⟨h1, h2, h3⟩
    exact ⟨h1, h2, fun i hi => h3 _ (by omega) (by omega)⟩
theorem fit_of {first n al a : Nat} {u : List Nat} (h : (fitB first u n al a && (List.range a).all fun a' => !fitB first u n al a') = true) : Fit first u n al a ∧ ∀ a', a' < a → ¬ Fit first u n al a' := by
  simp only [Bool.and_eq_true, List.all_eq_true, List.mem_range] at h
  refine ⟨fitB_iff.1 h.1, fun a' ha hf => ?_⟩
  have := h.2 a' ha
  rw [fitB_iff.2 hf] at this; cases this
theorem badB {n al : Int} (h : (decide (1 ≤ n) && decide (1 ≤ al) && decide (al ≤ 4096) && pow2B al.toNat) = true) : ¬ badTake n al := by
  simp only [Bool.and_eq_true, decide_eq_true_eq] at h
  unfold badTake
  rw [h.2]
  simp; omega
def pl1 : Pool := (newPool 16 40).turned 0 (fun _ => 1) 1
def pl2 : Pool := pl1.turned 4 (fun _ => 1) 4
def pl3 : Pool := pl2.turned 1 (fun _ => 1) 1
theorem STake.eq_fresh {p p' : Pool} {l' : List Qr} {r e : Nat} (h : STake p [] r e p' l') {a : Nat} (hf : Fit p.first p.u 1 1 a) (hl : ∀ a', a' < a → ¬ Fit p.first p.u 1 1 a') :
    r = 4 * (p.first + a) ∧ e = 0 ∧ p' = p.turned a (fun _ => 1) 1 ∧ l' = [Qr.new (p.first + a)] := by
  cases h with
  | old i k q h => simp at h
  | none _ hn => exact absurd hf (hn a)
  | fresh _ a' hf' hl' =>
    have : a' = a := by
      rcases Nat.lt_trichotomy a' a with h | h | h
      · exact absurd hf' (hl a' h)
      · exact h
      · exact absurd hf (hl' a h)
    subst this; exact ⟨rfl, rfl, rfl, rfl⟩
theorem STake.eq_second {p p' : Pool} {l' : List Qr} {r e f : Nat} (h : STake p [Qr.new f] r e p' l') : r = 4 * f + 1 ∧ e = 0 ∧ p' = p := by
  cases h with
  | old i k q h hk h0 h1 h2 =>
    have hi : i = 0 := by
      rcases i with _ | i
      · rfl
      · simp at h
    subst hi
    simp at h
    subst h
    simp only [Qr.new, decide_eq_false_iff_not, decide_eq_true_eq] at h0 h1
    have hk1 : k = 1 := by
      rcases Nat.lt_or_ge 1 k with h3 | h3
      · exact absurd (h1 1 h3) (by decide)
      · omega
    subst hk1; exact ⟨rfl, rfl, rfl⟩
  | none h _ => exact absurd (h (Qr.new f) (by simp) 1 (by decide)) (by simp [Qr.new])
  | fresh h => exact absurd (h (Qr.new f) (by simp) 1 (by decide)) (by simp [Qr.new])
theorem f13 {w : World} (hT : Tz w) : Ret prog 13 #[] w fun v w' => v = .bool true ∧ Fr0 w w' := by
  have h0 := hT.size
  refine F13_of _ _ ?_
  unfold F13
  refine Ret.use (f41 16 40 (by omega)) ?_
  have hz : newErr 16 40 = 0 := by decide
  rintro v w1 (⟨h, _⟩ | ⟨_, _, _, _, _, b, bu, bd, rfl, hP1, hf1, hb⟩)
  · exact absurd hz h
  replace hP1 : PoolAt w1 b bu bd (newPool 16 40) := hP1
  simp only [AsTup_tuple, UnC_cons, UnN_nil, AsI_int, AsP_pointer]
  refine Ret.use (f14 0) ?_
  rintro v w2 ⟨rfl, hw⟩
  obtain rfl := hw.symm
  rw [AsI_int]
  refine BIf_ne (fun h => absurd rfl h) (fun _ => ?_)
  show BIf false _ _
  rw [BIf_false]
  have hd : ¬ Own b bu bd 0 := by unfold Own; omega
  have hT1 := hT.fr0 hf1
  refine Ret.use (f23' hP1 hT1 hd 1 1 (by decide)) ?_
  rintro v w3 ⟨r3, e3, p3, rfl, ht3, hP3, hf3⟩
  obtain ⟨fa, fb⟩ := fit_of (first := (newPool 16 40).first) (u := (newPool 16 40).u) (n := 1) (al := 1) (a := 0) (by decide +kernel)
  obtain ⟨rfl, rfl, rfl⟩ := ht3.eq (badB (by decide +kernel)) fa fb
  replace hP3 : PoolAt w3 b bu bd pl1 := hP3
  simp only [AsTup_tuple, UnC_cons, UnN_nil, AsI_int]
  have hT3 := hT1.fr hf3 hd
  refine Ret.use (f23' hP3 hT3 hd 4 4 (by decide)) ?_
  rintro v w4 ⟨r4, e4, p4, rfl, ht4, hP4, hf4⟩
  obtain ⟨fa, fb⟩ := fit_of (first := pl1.first) (u := pl1.u) (n := 4) (al := 4) (a := 4) (by decide +kernel)
  obtain ⟨rfl, rfl, rfl⟩ := ht4.eq (badB (by decide +kernel)) fa fb
  replace hP4 : PoolAt w4 b bu bd pl2 := hP4
  simp only [AsTup_tuple, UnC_cons, UnN_nil, AsI_int]
  have hT4 := hT3.fr hf4 hd
  refine Ret.use (f12 b) ?_
  rintro v w5 ⟨rfl, hS5, hf5, hs5⟩
  simp only [AsTup_tuple, UnC_cons, UnN_nil, AsI_int, AsP_pointer]
  refine Ret.use (f14 _) ?_
  rintro v w6 ⟨rfl, hw⟩
  obtain rfl := hw.symm
  rw [AsI_int]
  refine BIf_ne (fun h => absurd rfl h) (fun _ => ?_)
  refine Ret.use (f14 _) ?_
  rintro v w6 ⟨rfl, hw⟩
  obtain rfl := hw.symm
  rw [AsI_int]
  refine BIf_ne (fun h => absurd rfl h) (fun _ => ?_)
  refine Ret.use (f14 _) ?_
  rintro v w6 ⟨rfl, hw⟩
  obtain rfl := hw.symm
  rw [AsI_int]
  refine BIf_ne (fun h => absurd rfl h) (fun _ => ?_)
  show BIf false _ _
  rw [BIf_false]
  refine BIf_ne (fun h => absurd rfl h) (fun _ => ?_)
  refine BIf_ne (fun h => absurd rfl h) (fun _ => ?_)
  have hP5 := hP4.fr0 hf5
  have hT5 := hT4.fr0 hf5
  have l4 := hP4.st.lt; have l4' := hP4.us.lt
  obtain ⟨ws, _, hws⟩ := hP4.ws
  have l4'' := hws.lt
  have hsep : ¬ Own b bu bd w4.heap.size := by unfold Own; omega
  refine Ret.use (f26 hP5) ?_
  rintro v w6 ⟨rfl, hw⟩
  obtain rfl := hw.symm
  rw [AsI_int]
  have hfree : pl2.free = 35 := by decide +kernel
  rw [hfree]
  refine BIf_ne (fun h => absurd rfl h) (fun _ => ?_)
  have hon : ∀ x, On (none : Option Addr) x → ¬ Own b bu bd x := fun x ⟨a, h, _⟩ => by cases h
  refine Ret.use (f30 hP5 hT5 hd hS5 (fun q h => by simp at h) hsep hon) ?_
  rintro v w7 ⟨r7, e7, p7, l7, g7, c7, rfl, hst7, hP7, hS7, hf7, hon7⟩
  obtain ⟨fa, fb⟩ := fit_of (first := pl2.first) (u := pl2.u) (n := 1) (al := 1) (a := 1) (by decide +kernel)
  obtain ⟨rfl, rfl, rfl, rfl⟩ := hst7.eq_fresh fa fb
  replace hP7 : PoolAt w7 b bu bd pl3 := hP7
  replace hS7 : SlabAt w7 w4.heap.size b g7 c7 [Qr.new 17] := hS7
  simp only [AsTup_tuple, UnC_cons, UnN_nil, AsI_int]
  have hd7 : ¬ OwnS b bu bd w4.heap.size none 0 := by
    rintro (h | h | ⟨a, h, _⟩)
    · exact hd h
    · have := hT4.size; omega
    · cases h
  have hT7 := hT5.fr hf7 hd7
  have hle5 := hf5.size
  have hg7 : ∀ x, On g7 x → ¬ Own b bu bd x := by
    intro x hx
    rcases hon7 x hx with ⟨a, h, _⟩ | h
    · cases h
    · unfold Own; omega
  refine Ret.use (f30 hP7 hT7 hd hS7 (fun q h => ?_) hsep hg7) ?_
  · simp at h; subst h
    exact ⟨by decide, by decide +kernel, by decide +kernel⟩
  rintro v w8 ⟨r8, e8, p8, l8, g8, c8, rfl, hst8, hP8, hS8, hf8, hon8⟩
  obtain ⟨rfl, rfl, rfl⟩ := hst8.eq_second
  simp only [AsTup_tuple, UnC_cons, UnN_nil, AsI_int]
  refine Ret.use (f14 _) ?_
  rintro v w9 ⟨rfl, hw⟩
  obtain rfl := hw.symm
  rw [AsI_int]
  refine BIf_eq (fun _ => ?_) (fun h => absurd rfl h)
  refine Ret.use (f14 _) ?_
  rintro v w9 ⟨rfl, hw⟩
  obtain rfl := hw.symm
  rw [AsI_int]
  refine BIf_eq (fun _ => ?_) (fun h => absurd rfl h)
  refine BIf_eq (fun _ => ?_) (fun h => absurd rfl h)
  refine BIf_eq (fun _ => ?_) (fun h => absurd rfl h)
  refine Ret.use (f16 hP8 17 (by decide)) ?_
  rintro v w9 ⟨rfl, hq⟩
  rw [AsI_int]
  have hat : pl3.at_ 17 = 1 := by decide +kernel
  rw [hat]
  refine ⟨rfl, ?_⟩
  have k1 := hf1.size
  have k3 := hf3.size
  have k4 := hf4.size
  have f13 : Fr (fun x => w.heap.size ≤ x) w w4 := (hf1.mono fun _ _ h => h.elim).trans ((hf3.mono fun x _ h => by unfold Own at h; omega).trans (hf4.mono fun x _ h => by unfold Own at h; omega))
  have f5 : Fr (fun x => w.heap.size ≤ x) w w5 := f13.trans (hf5.mono fun _ _ h => h.elim)
  have f7 : Fr (fun x => w.heap.size ≤ x) w w7 := f5.trans (hf7.mono fun x _ h => by
    rcases h with h | h | ⟨a, h, _⟩
    · unfold Own at h; omega
    · omega
    · cases h)
  have f8 : Fr (fun x => w.heap.size ≤ x) w w8 := f7.trans (hf8.mono fun x _ h => by
    rcases h with h | h | h
    · unfold Own at h; omega
    · omega
    · rcases hon7 x h with ⟨a, h, _⟩ | h
      · cases h
      · omega)
  exact (f8.trans hq.fr).mono fun x hx h => by omega
end Go.Proofs.YthpodlcbikialaaDoor

set_option linter.unusedVariables false
set_option linter.unusedSimpArgs false
namespace Go.Proofs.YthpodlcbikialaaDoor
open Go Go.Sh Go.Fr

/-- nothing that was there before has turned -/
theorem Fr.news {S : Nat → Prop} {w w1 w2 : World} (h : Fr0 w w1) (k : Fr S w1 w2) (hS : ∀ x, S x → w.heap.size ≤ x) : Fr0 w w2 :=
  ⟨k.os.trans h.os, k.output.trans h.output, k.tape.trans h.tape, Nat.le_trans h.size k.size, fun b hb hn => (k.block b (Nat.lt_of_lt_of_le hb h.size) fun hs => by have := hS b hs; omega).trans (h.block b hb hn)⟩
theorem Fr.old {S T : Nat → Prop} {w w1 w2 : World} (h : Fr T w w1) (k : Fr S w1 w2) (hS : ∀ x, x < w.heap.size → S x → T x) : Fr T w w2 :=
  ⟨k.os.trans h.os, k.output.trans h.output, k.tape.trans h.tape, Nat.le_trans h.size k.size, fun b hb hn => (k.block b (Nat.lt_of_lt_of_le hb h.size) fun hs => hn (hS b hb hs)).trans (h.block b hb hn)⟩
theorem Ld.of {w : World} {a : Addr} {v : Value} {K : Value → Prop} (h : w.cell? a = some v) (k : K v) : Ld w a K := ⟨v, h, k⟩
/-! ## scripts -/
structure Op5 where
  k : Int
  f : Int
  n : Int
  al : Int
  y : Int
def Op5.cells (o : Op5) : List Value := [.int .i64 o.k, .int .i64 o.f, .int .i64 o.n, .int .i64 o.al, .int .i64 o.y]
structure Op5.Ok (o : Op5) : Prop where
  k : I64 o.k
  f : I64 o.f
  n : I64 o.n
  al : I64 o.al
  y : I64 o.y
def opCells (l : List Op5) : List Value := l.flatMap Op5.cells
theorem op_len (o : Op5) : o.cells.length = 5 := rfl
/-- a script that came in: the slice (q, n, c) reads as l -/
structure ScrAt (w : World) (q : Option Addr) (n : Nat) (l : List Op5) : Prop where
  rd : Rd w q (opCells l)
  len : l.length = n
  ok : ∀ o ∈ l, o.Ok
  lt : n ≤ 9223372036854775807
theorem ScrAt.fr {S : Nat → Prop} {w w' : World} {q : Option Addr} {n : Nat} {l : List Op5} (h : ScrAt w q n l) (f : Fr S w w') (hS : ∀ b, On q b → ¬ S b) : ScrAt w' q n l := ⟨h.rd.fr f hS, h.len, h.ok, h.lt⟩
theorem ScrAt.fr0 {w w' : World} {q : Option Addr} {n : Nat} {l : List Op5} (h : ScrAt w q n l) (f : Fr0 w w') : ScrAt w' q n l := h.fr f fun _ _ h => h
theorem ScrAt.get {w : World} {q : Option Addr} {n : Nat} {l : List Op5} (h : ScrAt w q n l) {i : Nat} {o : Op5} (hi : l[i]? = some o) {K : Addr → Prop}
    (k : ∀ b off, q = some ⟨b, off, none⟩ → (∀ j v, j < 5 → o.cells[j]? = some v → w.cell? ⟨b, off + (i * 5 + j), none⟩ = some v) → K ⟨b, off, none⟩) : NilP q K := by
  have hg : ∀ j v, j < 5 → o.cells[j]? = some v → (opCells l)[i * 5 + j]? = some v := fun j v hj hv => (flat_get op_len l i j hj o hi).trans hv
  refine h.rd.ld (i := i * 5) (v := .int .i64 o.k) (hg 0 _ (by decide) rfl) fun b off hq _ => k b off hq fun j v hj hv => ?_
  obtain ⟨b', o', hq', hc⟩ := h.rd _ _ (hg j v hj hv)
  rw [hq] at hq'; injection hq' with hq'; injection hq' with h1 h2
  rw [h1, h2]; exact hc

def F4tail (p6 : Option Addr) (i9 i12 i49 i58 i70 : Int) (p44 : Option Addr) (n45 n46 : Nat) (w64 : World) (Q : Value → World → Prop) : Prop :=
  CallS prog (23 : Nat) #[.pointer p6, .int .i64 (IntKind.i64.wrap ((1 : Int) + i49)), .int .i64 i58] w64 fun v112 w113 => AsTup v112 fun s114 => UnC s114 fun v115 s116 => AsI IntKind.i64 v115 fun i117 => UnC s116 fun v118 s119 => AsI IntKind.i64 v118 fun i120 => UnN s119 (BIf (decide (i70 < (0 : Int))) (BIf (i117 == (0 : Int)) (CallS prog (14 : Nat) #[.int .i64 i120] w113 fun v121 w122 => AsI IntKind.i64 v121 fun i123 => BIf (i123 == (42 : Int)) (CallS prog (21 : Nat) #[.pointer p6, .int .i64 i9, .int .i64 i12] w122 fun v124 w125 => AsSl v124 fun p126 n127 n128 => CallS prog (24 : Nat) #[Value.slice p126 n127 n128, Value.slice p44 n45 n46] w125 fun v129 w130 => AsB v129 fun b131 => Q (.bool b131) w130) (Q (.bool false) w122)) (Q (.bool false) w113)) (BIf (i117 == i70) (CallS prog (14 : Nat) #[.int .i64 i120] w113 fun v132 w133 => AsI IntKind.i64 v132 fun i134 => Q (.bool (i134 == (0 : Int))) w133) (Q (.bool false) w113)))
theorem f4tail {w w0 : World} {b bu bd : Nat} {p : Pool} (hP : PoolAt w b bu bd p) (hT : Tz w) (hd : ¬ Own b bu bd 0) {q : Option Addr} {c : Nat} (hq : Rd w q (i64n p.u)) (hqb : ∀ x, On q x → ¬ Own b bu bd x) (N : Nat) (hN : N < 40) (al : Int) (want : Int)
    (hbad : ¬ badTake (1 + (N : Int)) al) (hwant : (want = -1 ∧ ∀ a, ¬ Fit p.first p.u (1 + N) al.toNat a) ∨ ∃ a : Nat, want = (p.first + a : Nat) ∧ Fit p.first p.u (1 + N) al.toNat a ∧ ∀ a', a' < a → ¬ Fit p.first p.u (1 + N) al.toNat a')
    (hf : Fr0 w0 w) (hb : w0.heap.size ≤ b ∧ w0.heap.size ≤ bu ∧ w0.heap.size ≤ bd) : F4tail (some ⟨b, 0, none⟩) (p.first : Int) (p.u.length : Int) (N : Int) al want q p.u.length c w fun v w' => v = .bool true ∧ Fr0 w0 w' := by
  have hown : ∀ x, Own b bu bd x → w0.heap.size ≤ x := by intro x hx; unfold Own at hx; omega
  unfold F4tail
  rw [w64 (n := (1 : Int) + (N : Int)) (by omega) (by omega)]
  refine Ret.use (f23' hP hT hd _ al (by omega)) ?_
  rintro v w1 ⟨r, e, p', rfl, ht, hP1, hf1⟩
  simp only [AsTup_tuple, UnC_cons, UnN_nil, AsI_int]
  have e1 : ((1 : Int) + (N : Int)).toNat = 1 + N := by omega
  have hf01 := Fr.news hf hf1 hown
  refine BIf_cases (fun hneg => ?_) (fun hpos => ?_)
  · rcases hwant with ⟨_, hno⟩ | ⟨a, h, _⟩
    · cases ht with
      | bad h => exact absurd h hbad
      | ok _ a hfit _ => rw [e1] at hfit; exact absurd hfit (hno a)
      | none _ _ =>
        refine BIf_eq (fun _ => ?_) (fun h => absurd rfl h)
        refine Ret.use (f14 _) ?_
        rintro v w2 ⟨rfl, hw⟩
        obtain rfl := hw.symm
        rw [AsI_int]
        refine BIf_eq (fun _ => ?_) (fun h => absurd rfl h)
        refine Ret.use (f21 hP1) ?_
        rintro v w3 ⟨q3, c3, rfl, sl3, hf3⟩
        simp only [AsSl_slice]
        have h1 := sl3.rd
        have h2 := (hq.fr hf1 hqb).fr0 hf3
        rw [i64n_eq] at h1 h2
        have hn := hP.ok.n
        have hr := f24 (ac := c3) (bc := c) h1 h2 (by rw [List.length_map]; omega) (by rw [List.length_map]; omega)
        rw [List.length_map] at hr
        refine Ret.use hr ?_
        rintro v w4 ⟨rfl, hq4⟩
        simp only [AsB_bool, decide_true]
        exact ⟨by trivial, (hf01.trans hf3).trans hq4.fr⟩
    · omega
  · rcases hwant with ⟨h, _⟩ | ⟨a, rfl, hfit, hleast⟩
    · omega
    · obtain ⟨rfl, rfl, rfl⟩ := ht.eq hbad (by rw [e1]; exact hfit) (by rw [e1]; exact hleast)
      refine BIf_eq (fun _ => ?_) (fun h => absurd rfl h)
      refine Ret.use (f14 _) ?_
      rintro v w2 ⟨rfl, hw⟩
      obtain rfl := hw.symm
      rw [AsI_int]
      exact ⟨rfl, hf01⟩
theorem pow2_ok : ∀ i, i < 13 → pow2B (2 ^ i) = true ∧ 2 ^ i ≤ 4096 := by decide +kernel
theorem f4 {w : World} (hT : Tz w) (first count : Int) {q : Option Addr} {n c : Nat} {l : List Op5} (hs : ScrAt w q n l) (x al : Int) :
    Ret prog 4 #[.int .i64 first, .int .i64 count, .slice q n c, .int .i64 x, .int .i64 al] w fun v w' => v = .bool true ∧ Fr0 w w' := by
  have h0 := hT.size
  refine F4_of _ _ _ _ _ _ _ _ _ ?_
  unfold F4
  refine Ret.use (f19 first count) ?_
  rintro v w1 ⟨b, bu, bd, rfl, hP1, hf1, hb⟩
  have hd : ¬ Own b bu bd 0 := by unfold Own; omega
  have hown : ∀ x, Own b bu bd x → w.heap.size ≤ x := by intro x hx; unfold Own at hx; omega
  simp only [AsTup_tuple, UnC_cons, UnN_nil, AsI_int, AsP_pointer]
  rw [show (some (⟨b, 0, none⟩ : Addr)).isNone = false from rfl, BIf_false]
  refine Ret.use (f13 (hT.fr0 hf1)) ?_
  rintro v w2 ⟨rfl, hf2⟩
  rw [AsB_bool, Bool.not_true, BIf_false]
  have g1 : 0 ≤ first % 10000 ∧ first % 10000 < 10000 := by omega
  have g2 : 1 ≤ 1 + count % 200 ∧ 1 + count % 200 ≤ 200 := by omega
  obtain ⟨lo, hlo⟩ : ∃ lo : Nat, first % 10000 = lo := ⟨(first % 10000).toNat, by omega⟩
  obtain ⟨m, hm⟩ : ∃ m : Nat, 1 + count % 200 = m := ⟨(1 + count % 200).toNat, by omega⟩
  rw [hlo, hm] at hP1 ⊢
  rw [hlo] at g1; rw [hm] at g2
  simp only [Int.toNat_natCast] at hP1
  refine Loop.by (fun s w' => ∃ (i : Nat) (p : Pool), s = [.int .i64 (i : Int)] ∧ i ≤ n ∧ p.first = lo ∧ p.u.length = m ∧ PoolAt w' b bu bd p ∧ Fr0 w w')
    (fun s _ => match s with | [.int _ k] => n - k.toNat | _ => 0)
    ⟨0, newPool lo m, rfl, by omega, rfl, by simp [newPool], hP1.fr0 hf2, hf1.trans hf2⟩ ?_
  rintro _ w3 ⟨i, p, rfl, hi, hpf, hpl, hP3, hf3⟩
  have hT3 := hT.fr0 hf3
  simp only [UnC_cons, UnN_nil, AsI_int]
  have hn := hs.lt
  refine BIf_cases (fun hlt => ?_) (fun hge => ?_)
  · have hil : i < l.length := by rw [hs.len]; omega
    obtain ⟨o, ho⟩ : ∃ o, l[i]? = some o := ⟨_, List.getElem?_eq_getElem hil⟩
    have hok := hs.ok o (List.mem_of_getElem? ho)
    refine (hs.fr0 hf3).get ho fun sb so hq hc => ?_
    simp only [at0_mk, Int.toNat_natCast]
    refine ⟨by omega, by omega, ?_⟩
    refine Ld.of (hc 0 _ (by decide) rfl) ?_
    rw [AsI_int]
    refine Ld.of (hc 1 _ (by decide) rfl) ?_
    rw [AsI_int]
    refine Ld.of (hc 2 _ (by decide) rfl) ?_
    rw [AsI_int]
    refine Ld.of (hc 3 _ (by decide) rfl) ?_
    rw [AsI_int]
    refine Ld.of (hc 4 _ (by decide) rfl) ?_
    rw [AsI_int]
    refine Ret.use (f20 hP3 hT3 hd o.k o.f o.n o.al o.y hok.f hok.n) ?_
    rintro v w4 ⟨r, e, p', rfl, hst, hP4, hf4⟩
    simp only [AsTup_tuple, UnC_cons, UnN_nil, AsI_int]
    rw [w64 (n := (i : Int) + 1) (by omega) (by omega)]
    obtain ⟨s1, s2⟩ := hst.same
    refine ⟨⟨i + 1, p', rfl, by omega, by omega, by omega, hP4, Fr.news hf3 hf4 hown⟩, ?_⟩
    show n - ((i : Int) + 1).toNat < n - (i : Int).toNat
    omega
  subst hpf hpl
  refine Ret.use (f21 hP3) ?_
  rintro v w4 ⟨lq, lc, rfl, sl4, hf4⟩
  rw [AsSl_slice]
  refine Ret.use (f22 x 40 (by decide) (by decide)) ?_
  rintro v w5 ⟨rfl, hw⟩
  obtain rfl := hw.symm
  rw [AsI_int]
  have g3 : 0 ≤ x % 40 ∧ x % 40 < 40 := by omega
  obtain ⟨N, hNn⟩ : ∃ N : Nat, x % 40 = N := ⟨(x % 40).toNat, by omega⟩
  rw [hNn] at g3 ⊢
  have g4 : 0 ≤ al % 13 ∧ al % 13 < 13 := by omega
  obtain ⟨z, hz⟩ : ∃ z : Nat, al % 13 = z := ⟨(al % 13).toNat, by omega⟩
  rw [hz] at g4
  have hf04 := hf3.trans hf4
  have hP4 := hP3.fr0 hf4
  have hT4 := hT3.fr0 hf4
  refine Loop.by (fun s w' => ∃ (i : Nat), s = [.int .i64 (i : Int), .int .i64 ((2 ^ i : Nat) : Int)] ∧ i ≤ z ∧ w' = w4)
    (fun s _ => match s with | [.int _ k, _] => z - k.toNat | _ => 0)
    ⟨0, rfl, by omega, rfl⟩ ?_
  rintro _ w5 ⟨j, rfl, hj, hw⟩
  obtain rfl := hw.symm
  simp only [UnC_cons, UnN_nil, AsI_int]
  refine Ret.use (f22 al 13 (by decide) (by decide)) ?_
  rintro v w5 ⟨rfl, hw⟩
  obtain rfl := hw.symm
  rw [AsI_int, hz]
  obtain ⟨pw1, pw2⟩ := pow2_ok j (by omega)
  have hpow : 0 < 2 ^ j := Nat.pow_pos (by decide)
  generalize hD : 2 ^ j = D at *
  refine BIf_cases (fun hlt => ?_) (fun hge => ?_)
  · rw [w64 (n := (j : Int) + 1) (by omega) (by omega), w64 (n := (2 : Int) * (D : Int)) (by omega) (by omega)]
    refine ⟨⟨j + 1, ?_, by omega, by trivial⟩, ?_⟩
    · have : (2 : Int) * (D : Int) = ((2 ^ (j + 1) : Nat) : Int) := by rw [Nat.pow_succ, hD]; omega
      rw [this]; rfl
    · show z - ((j : Int) + 1).toNat < z - (j : Int).toNat
      omega
  have hbad : ¬ badTake (1 + (N : Int)) (D : Int) := by
    unfold badTake; rw [Int.toNat_natCast, pw1]; simp; omega
  have hL := hP3.ok.le
  have tl : ∀ want : Int, ((want = -1 ∧ ∀ a, ¬ Fit p.first p.u (1 + N) D a) ∨ ∃ a : Nat, want = (p.first + a : Nat) ∧ Fit p.first p.u (1 + N) D a ∧ ∀ a', a' < a → ¬ Fit p.first p.u (1 + N) D a') →
      F4tail (some ⟨b, 0, none⟩) (p.first : Int) (p.u.length : Int) (N : Int) (D : Int) want lq p.u.length lc w4 fun v w' => v = .bool true ∧ Fr0 w w' := by
    intro want hw
    refine f4tail hP4 hT4 hd sl4.rd (fun y hy => ?_) N (by omega) D want hbad (by rw [Int.toNat_natCast]; exact hw) hf04 hb
    have := (sl4.lt y hy).1
    have l1 := hP3.st.lt; have l2 := hP3.us.lt
    obtain ⟨ws, _, hws⟩ := hP3.ws
    have l3 := hws.lt
    unfold Own; omega
  refine Loop.by (fun s w' => ∃ (f : Nat) (want : Int), s = [.int .i64 (f : Int), .int .i64 want] ∧ p.first ≤ f ∧ f ≤ p.first + p.u.length + 1 ∧
      ((want = -1 ∧ ∀ a, p.first + a < f → ¬ Fit p.first p.u (1 + N) D a) ∨ ∃ a : Nat, want = (p.first + a : Nat) ∧ Fit p.first p.u (1 + N) D a ∧ ∀ a', a' < a → ¬ Fit p.first p.u (1 + N) D a') ∧ w' = w4)
    (fun s _ => match s with | [.int _ f, _] => p.first + p.u.length + 2 - f.toNat | _ => 0)
    ⟨p.first, -1, rfl, by omega, by omega, .inl ⟨rfl, fun a ha => by omega⟩, rfl⟩ ?_
  rintro _ w5 ⟨f, want, rfl, hf1', hf2', hwant, hw⟩
  obtain rfl := hw.symm
  simp only [UnC_cons, UnN_nil, AsI_int]
  rw [w64 (n := (1 : Int) + (N : Int)) (by omega) (by omega), w64 (n := (f : Int) + (1 + (N : Int))) (by omega) (by omega), w64 (n := (p.first : Int) + (p.u.length : Int)) (by omega) (by omega)]
  refine BIf_cases (fun hlt => ?_) (fun hge => ?_)
  rotate_left
  · have := tl want (hwant.imp (fun ⟨h1, h2⟩ => ⟨h1, fun a hfit => by have := hfit.2.1; exact h2 a (by omega) hfit⟩) id)
    unfold F4tail at this
    rw [w64 (n := (1 : Int) + (N : Int)) (by omega) (by omega)] at this
    exact this
  refine BIf_cases (fun hneg => ?_) (fun hpos => ?_)
  rotate_left
  · have := tl want (hwant.imp (fun ⟨h1, h2⟩ => by omega) id)
    unfold F4tail at this
    rw [w64 (n := (1 : Int) + (N : Int)) (by omega) (by omega)] at this
    exact this
  refine Join.triv ?_
  refine NZ.mk (by omega) ?_
  obtain ⟨rfl, hno⟩ : want = -1 ∧ ∀ a, p.first + a < f → ¬ Fit p.first p.u (1 + N) D a := by
    rcases hwant with h | ⟨a, h, _⟩
    · exact h
    · omega
  obtain ⟨a, rfl⟩ : ∃ a, f = p.first + a := ⟨f - p.first, by omega⟩
  have etm : ((p.first + a : Nat) : Int).tmod (D : Int) = (((p.first + a) % D : Nat) : Int) := by rw [IntWalk.rem_in _ _ (by omega)]; omega
  rw [etm, w64 (n := ((p.first + a : Nat) : Int) - (p.first : Int)) (by omega) (by omega), w64 (n := ((p.first + a : Nat) : Int) + 1) (by omega) (by omega)]
  have hmeas : ∀ wt : Int, (match [Value.int .i64 (((p.first + a : Nat) : Int) + 1), .int .i64 wt] with | [.int _ f, _] => p.first + p.u.length + 2 - f.toNat | _ => 0) < p.first + p.u.length + 2 - ((p.first + a : Nat) : Int).toNat := by
    intro wt; show p.first + p.u.length + 2 - (((p.first + a : Nat) : Int) + 1).toNat < _; omega
  have yes : Fit p.first p.u (1 + N) D a → (∃ (f : Nat) (want : Int), [Value.int .i64 (((p.first + a : Nat) : Int) + 1), .int .i64 ((p.first + a : Nat) : Int)] = [.int .i64 (f : Int), .int .i64 want] ∧ p.first ≤ f ∧ f ≤ p.first + p.u.length + 1 ∧
      ((want = -1 ∧ ∀ a, p.first + a < f → ¬ Fit p.first p.u (1 + N) D a) ∨ ∃ a : Nat, want = (p.first + a : Nat) ∧ Fit p.first p.u (1 + N) D a ∧ ∀ a', a' < a → ¬ Fit p.first p.u (1 + N) D a') ∧ True) := by
    intro hfit
    exact ⟨p.first + a + 1, _, rfl, by omega, by omega, .inr ⟨a, rfl, hfit, fun a' ha => hno a' (by omega)⟩, trivial⟩
  have no : ¬ Fit p.first p.u (1 + N) D a → (∃ (f : Nat) (want : Int), [Value.int .i64 (((p.first + a : Nat) : Int) + 1), .int .i64 (-1)] = [.int .i64 (f : Int), .int .i64 want] ∧ p.first ≤ f ∧ f ≤ p.first + p.u.length + 1 ∧
      ((want = -1 ∧ ∀ a, p.first + a < f → ¬ Fit p.first p.u (1 + N) D a) ∨ ∃ a : Nat, want = (p.first + a : Nat) ∧ Fit p.first p.u (1 + N) D a ∧ ∀ a', a' < a → ¬ Fit p.first p.u (1 + N) D a') ∧ True) := by
    intro hfit
    refine ⟨p.first + a + 1, _, rfl, by omega, by omega, .inl ⟨rfl, fun a' ha => ?_⟩, trivial⟩
    by_cases e : a' = a
    · subst e; exact hfit
    · exact hno a' (by omega)
  refine Loop.by (fun s w' => ∃ (k : Nat) (ok : Bool), s = [.int .i64 (k : Int), .bool ok] ∧ k ≤ 1 + N ∧ (ok = true → (p.first + a) % D = 0 ∧ ∀ x, a ≤ x → x < a + k → p.u.getD x 0 = 0) ∧ (ok = false → ¬ Fit p.first p.u (1 + N) D a) ∧ w' = w4)
    (fun s _ => match s with | [.int _ k, _] => 1 + N - k.toNat | _ => 0)
    ⟨0, _, rfl, by omega, fun h => ⟨?_, fun x h1 h2 => by omega⟩, fun h hfit => ?_, rfl⟩ ?_
  · have : (((p.first + a) % D : Nat) : Int) = 0 := by simpa using h
    omega
  · have h1 := hfit.1
    rw [h1] at h; simp at h
  rintro _ w5 ⟨k, ok, rfl, hk, hy, hnn, hw⟩
  obtain rfl := hw.symm
  simp only [UnC_cons, UnN_nil, AsI_int, AsB_bool]
  refine BIf_cases (fun hlt => ?_) (fun hge => ?_)
  · refine BIf_b (fun hok => ?_) (fun hok => ?_)
    · obtain ⟨y1, y2⟩ := hy hok
      rw [w64 (n := ((p.first + a : Nat) : Int) - (p.first : Int) + (k : Int)) (by omega) (by omega), w64 (n := (k : Int) + 1) (by omega) (by omega)]
      have hrd := sl4.rd
      rw [i64n_eq] at hrd
      have hlt2 : a + k < p.u.length := by omega
      have e2 : (((p.first + a : Nat) : Int) - (p.first : Int) + (k : Int)).toNat = a + k := by omega
      refine hrd.int (by rw [List.length_map]) (by omega) (x := ((p.u[a + k] : Nat) : Int)) (by rw [e2, List.getElem?_map, List.getElem?_eq_getElem hlt2]; rfl) ?_
      refine ⟨⟨k + 1, _, rfl, by omega, fun h => ⟨y1, fun x h1 h2 => ?_⟩, fun h hfit => ?_, by trivial⟩, ?_⟩
      · by_cases e : x = a + k
        · subst e
          rw [getD_get hlt2]
          have : ((p.u[a + k] : Nat) : Int) = 0 := by simpa using h
          omega
        · exact y2 x h1 (by omega)
      · have := hfit.2.2 (a + k) (by omega) (by omega)
        rw [getD_get hlt2] at this
        rw [this] at h; simp at h
      · show 1 + N - ((k : Int) + 1).toNat < 1 + N - (k : Int).toNat
        omega
    · subst hok
      rw [BIf_false]
      exact ⟨no (hnn rfl), hmeas (-1)⟩
  · refine BIf_b (fun hok => ?_) (fun hok => ?_)
    · obtain ⟨y1, y2⟩ := hy hok
      exact ⟨yes ⟨y1, by omega, fun x h1 h2 => y2 x h1 (by omega)⟩, hmeas ((p.first + a : Nat) : Int)⟩
    · exact ⟨no (hnn hok), hmeas (-1)⟩
end Go.Proofs.YthpodlcbikialaaDoor
