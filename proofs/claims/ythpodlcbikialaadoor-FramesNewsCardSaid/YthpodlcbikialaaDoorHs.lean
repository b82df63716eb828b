import Derived.Test.YthpodlcbikialaaDoorEs
import Derived.Test.YthpodlcbikialaaDoorG2
set_option linter.unusedVariables false
set_option linter.unusedSimpArgs false
set_option linter.unusedVariables false
set_option linter.unusedSimpArgs false
namespace Go.Proofs.YthpodlcbikialaaDoor
open Go Go.Sh Go.Fr

/-! ## the document's pool -/
structure RPoolAt (w : World) (b bu : Nat) (p : Pool) : Prop where
  st : Has w b [.int .i64 (p.first : Int), .slice (some ⟨bu, 0, none⟩) p.u.length p.u.length]
  us : Has w bu (i64n p.u)
  ne : b ≠ bu
  ok : p.Ok
def ROwn (b bu x : Nat) : Prop := x = b ∨ x = bu
theorem RPoolAt.fr {S : Nat → Prop} {w w' : World} {b bu : Nat} {p : Pool} (h : RPoolAt w b bu p) (f : Fr S w w') (hS : ∀ x, ROwn b bu x → ¬ S x) : RPoolAt w' b bu p :=
  ⟨h.st.fr f (hS b (.inl rfl)), h.us.fr f (hS bu (.inr rfl)), h.ne, h.ok⟩
theorem RPoolAt.fr0 {w w' : World} {b bu : Nat} {p : Pool} (h : RPoolAt w b bu p) (f : Fr0 w w') : RPoolAt w' b bu p := h.fr f fun _ _ h => h
theorem RPoolAt.qt {w w' : World} {b bu : Nat} {p : Pool} (h : RPoolAt w b bu p) (f : Qt w w') : RPoolAt w' b bu p := h.fr0 f.fr
theorem RPoolAt.lt {w : World} {b bu : Nat} {p : Pool} (h : RPoolAt w b bu p) : ∀ x, ROwn b bu x → x < w.heap.size := by
  rintro x (rfl | rfl)
  · exact h.st.lt
  · exact h.us.lt
theorem RPoolAt.rd {w : World} {b bu : Nat} {p : Pool} (h : RPoolAt w b bu p) : Rd w (some ⟨bu, 0, none⟩) (i64n p.u) := fun j v hv => ⟨bu, 0, rfl, by rw [Nat.zero_add, h.us.cell]; exact hv⟩
theorem f42 {w : World} (first n : Int) (hf : I64 first) :
    Ret prog 42 #[.int .i64 first, .int .i64 n] w fun v w' =>
      (newErr first n ≠ 0 ∧ v = .tuple #[.pointer none, .int .i64 (newErr first n : Nat)] ∧ w' = w) ∨
      (newErr first n = 0 ∧ ∃ b bu, v = .tuple #[.pointer (some ⟨b, 0, none⟩), .int .i64 0] ∧ RPoolAt w' b bu (newPool first.toNat n.toNat) ∧ Fr0 w w' ∧ w.heap.size ≤ b ∧ w.heap.size ≤ bu) := by
  refine F42_of _ _ _ _ ?_
  unfold F42
  unfold I64 at hf
  by_cases h1 : n < 0
  · rw [decide_eq_true h1, BIf_true]; exact .inl ⟨by simp [newErr, h1], by simp [newErr, h1], rfl⟩
  rw [decide_eq_false h1, BIf_false]
  by_cases h2 : n > 1048576
  · rw [decide_eq_true h2, BIf_true]; exact .inl ⟨by simp [newErr, h2], by simp [newErr, h2], rfl⟩
  rw [decide_eq_false h2, BIf_false]
  have hg : ¬ (n < 0 ∨ n > 1048576) := by omega
  by_cases h3 : first < 0
  · rw [decide_eq_true h3, BIf_true]; exact .inl ⟨by simp [newErr, if_neg hg, h3], by simp [newErr, if_neg hg, h3], rfl⟩
  rw [decide_eq_false h3, BIf_false, w64 (n := (268435456 : Int) - n) (by omega) (by omega)]
  by_cases h4 : first > 268435456 - n
  · rw [decide_eq_true h4, BIf_true]; exact .inl ⟨by simp [newErr, if_neg hg, h4], by simp [newErr, if_neg hg, h4], rfl⟩
  rw [decide_eq_false h4, BIf_false]
  obtain ⟨k, rfl⟩ : ∃ k : Nat, n = k := ⟨n.toNat, by omega⟩
  obtain ⟨a, rfl⟩ : ∃ k : Nat, first = k := ⟨first.toNat, by omega⟩
  have hzero : newErr (a : Int) (k : Int) = 0 := by simp only [newErr, if_neg hg]; rw [if_neg (by omega)]
  refine RunV.make 38 3 (.int .i64 0) 8 k (by kernel_rfl) (by kernel_rfl) rfl (by omega) (by omega) fun w1 h1 f1 s1 => ?_
  rw [AsSl_slice]
  refine New.mk fun w2 n2 f2 s2 => ?_
  refine .inr ⟨hzero, w1.heap.size, w.heap.size, rfl, ⟨?_, ?_, by omega, ?_⟩, f1.trans f2, by omega, by omega⟩
  · simpa [newPool] using n2
  · have := h1.fr0 f2
    simpa [newPool, i64n] using this
  · simp only [Int.toNat_natCast]; exact newPool_ok (by omega) (by omega)
theorem f44 {w : World} {b bu : Nat} {p : Pool} (hP : RPoolAt w b bu p) : Ret prog 44 #[.pointer (some ⟨b, 0, none⟩)] w fun v w' => v = .int .i64 ((p.free : Nat) : Int) ∧ w' = w := by
  have hN := hP.ok.n
  refine F44_of _ _ _ ?_
  unfold F44
  simp only [at0_mk, Nat.zero_add]
  refine Loop.by (fun s w' => ∃ i : Nat, s = [.int .i64 (i : Int), .int .i64 ((zeros (p.u.take i) : Nat) : Int)] ∧ i ≤ p.u.length ∧ w' = w)
    (fun s _ => match s with | [.int _ k, _] => p.u.length - k.toNat | _ => 0)
    ⟨0, rfl, by omega, rfl⟩ ?_
  rintro _ _ ⟨i, rfl, hi, hw⟩
  obtain rfl := hw.symm
  simp only [UnC_cons, UnN_nil, AsI_int]
  refine hP.st.ld rfl ?_
  rw [AsSl_slice]
  refine BIf_cases (fun hlt => ?_) (fun hge => ?_)
  · have hil : i < p.u.length := by omega
    refine Join.triv ?_
    refine hP.st.ld rfl ?_
    rw [AsSl_slice]
    refine Rd.nat hP.rd (List.getElem?_eq_getElem hil) ?_
    have hz : zeros (p.u.take (i + 1)) = zeros (p.u.take i) + if p.u[i] = 0 then 1 else 0 := by
      unfold zeros
      rw [List.take_add_one, List.getElem?_eq_getElem hil, List.countP_append]
      by_cases h : p.u[i] = 0 <;> simp [h]
    have hzl := zeros_le (p.u.take i)
    rw [List.length_take, Nat.min_eq_left (by omega)] at hzl
    have hm : p.u.length - ((i : Int) + 1).toNat < p.u.length - (i : Int).toNat := by omega
    simp only [UnC_cons, UnN_nil, AsI_int]
    rw [w64 (n := (i : Int) + 1) (by omega) (by omega)]
    refine BIf_eq (fun h => ?_) (fun h => ?_)
    · rw [w64 (n := ((zeros (p.u.take i) : Nat) : Int) + 1) (by omega) (by omega)]
      exact ⟨⟨i + 1, by rw [hz, if_pos (by omega)]; rfl, by omega, by trivial⟩, hm⟩
    · exact ⟨⟨i + 1, by rw [hz, if_neg (by omega)]; rfl, by omega, by trivial⟩, hm⟩
  · have : i = p.u.length := by omega
    rw [this, List.take_length]
    exact ⟨rfl, by trivial⟩
theorem f46 {w : World} {b bu : Nat} {p : Pool} (hP : RPoolAt w b bu p) : Ret prog 46 #[.pointer (some ⟨b, 0, none⟩)] w fun v w' => v = .agg #[.int .i64 p.first, .int .i64 p.u.length] ∧ Fr0 w w' := by
  refine F46_of _ _ _ ?_
  unfold F46
  simp only [at0_mk, Nat.zero_add]
  refine New.mk fun w1 hn hf hs => ?_
  have hst := hP.st.fr0 hf
  refine hst.drew.ld rfl ?_
  simp only [AsI_int]
  refine hst.drew.ld rfl ?_
  simp only [AsSl_slice]
  refine hn.drew.st (by simp) rfl fun w2 hn2 hf2 _ => ?_
  simp only [at0_mk, Nat.zero_add]
  refine hn2.st (by simp) rfl fun w3 hn3 hf3 _ => ?_
  refine hn3.ld rfl ?_
  simp only [AsI_int]
  refine hn3.ld rfl ?_
  simp only [AsI_int]
  refine ⟨by trivial, ?_⟩
  have h2 : Fr (fun x => x = w.heap.size) w w3 := ((hf.mono fun _ _ h => h.elim).trans hf2.of_drew).trans hf3
  exact h2.mono fun x hx h => by omega
theorem f61 {w : World} {b bu : Nat} {p : Pool} (hP : RPoolAt w b bu p) (f n : Int) (hf : I64 f) : Ret prog 61 #[.pointer (some ⟨b, 0, none⟩), .int .i64 f, .int .i64 n] w fun v w' => v = .bool (decide ((p.first : Int) ≤ f ∧ f < p.first + p.u.length ∧ n ≤ p.first + p.u.length - f)) ∧ Qt w w' := by
  have hN := hP.ok.n
  have hL := hP.ok.le
  unfold I64 at hf
  refine F61_of _ _ _ _ _ ?_
  unfold F61
  simp only [at0_mk, Nat.zero_add]
  refine hP.st.drew.ld rfl ?_
  rw [AsI_int]
  refine BIf_cases (fun h1 => ?_) (fun h1 => ?_)
  · exact ⟨by rw [decide_eq_false]; omega, (Qt.refl w).drew⟩
  refine hP.st.drew.ld rfl ?_
  rw [AsI_int]
  refine hP.st.drew.ld rfl ?_
  rw [AsSl_slice, w64 (n := (p.first : Int) + (p.u.length : Int)) (by omega) (by omega)]
  refine BIf_cases (fun h2 => ?_) (fun h2 => ?_)
  · exact ⟨by rw [decide_eq_false]; omega, (Qt.refl w).drew⟩
  refine hP.st.drew.drew.ld rfl ?_
  rw [AsI_int]
  refine hP.st.drew.drew.ld rfl ?_
  rw [AsSl_slice, w64 (n := (p.first : Int) + (p.u.length : Int)) (by omega) (by omega), w64 (n := (p.first : Int) + (p.u.length : Int) - f) (by omega) (by omega)]
  refine ⟨?_, (Qt.refl w).drew.drew⟩
  congr 1
  rw [decide_eq_decide]; omega
theorem f36 {w : World} {b bu : Nat} {p : Pool} (hP : RPoolAt w b bu p) (f : Int) (hf : I64 f) : Ret prog 36 #[.pointer (some ⟨b, 0, none⟩), .int .i64 f] w fun v w' => v = .int .i64 ((p.at_ f : Nat) : Int) ∧ Qt w w' := by
  have hN := hP.ok.n
  have hL := hP.ok.le
  refine F36_of _ _ _ _ ?_
  unfold F36
  refine Ret.use (f61 hP f 1 hf) ?_
  rintro v w1 ⟨rfl, hq⟩
  rw [AsB_bool, BIf_not]
  refine BIf_cases (fun h => ?_) (fun h => ?_)
  · have hP1 := hP.qt hq
    simp only [at0_mk, Nat.zero_add]
    refine hP1.st.drew.ld rfl ?_
    rw [AsSl_slice]
    refine hP1.st.drew.ld rfl ?_
    rw [AsI_int, w64 (n := f - (p.first : Int)) (by omega) (by omega)]
    obtain ⟨k, hk⟩ : ∃ k : Nat, f - (p.first : Int) = k := ⟨(f - (p.first : Int)).toNat, by omega⟩
    rw [hk]
    have hkl : k < p.u.length := by omega
    simp only [Ld_drew]
    refine Rd.nat hP1.rd (List.getElem?_eq_getElem hkl) ?_
    refine ⟨?_, hq.drew⟩
    unfold Pool.at_
    rw [if_neg (by omega), show (f - (p.first : Int)).toNat = k by omega, getD_get hkl]
  · refine ⟨?_, hq⟩
    unfold Pool.at_
    split
    · rfl
    · have : p.u.length ≤ (f - (p.first : Int)).toNat := by omega
      generalize (f - (p.first : Int)).toNat = k at *
      simp [List.getD, this]

/-! ### Runs, by one pass -/
structure Pass (u : List Nat) (i : Nat) (L : List (Nat × Nat)) : Prop where
  out : (i = 0 ∨ u.getD (i - 1) 0 ≠ 0) → L ++ Fr.runs u (next u false i) = Fr.runs u (next u false 0)
  inn : i ≠ 0 → u.getD (i - 1) 0 = 0 → ∃ done a, L = done ++ [(a, i - a)] ∧ a < i ∧ (∀ y, a ≤ y → y < i → u.getD y 0 = 0) ∧ done ++ Fr.runs u a = Fr.runs u (next u false 0)
theorem next_to {u : List Nat} {a i : Nat} (ha : a ≤ i) (hi : i ≤ u.length) (hz : ∀ y, a ≤ y → y < i → u.getD y 0 = 0) (hu : ∀ h : i < u.length, u[i] ≠ 0) : next u true a = i := by
  obtain ⟨n1, n2, n3, n4⟩ := next_spec u true a
  rcases Nat.lt_trichotomy (next u true a) i with h | h | h
  · have h3 := n3 (by omega)
    have h4 := hz (next u true a) (n2 (by omega)) h
    rw [getD_get (by omega)] at h4
    rw [h4] at h3; simp at h3
  · exact h
  · have := n4 i ha h (by omega)
    have h5 := hu (by omega)
    simp at this; omega
theorem Pass.used {u : List Nat} {i : Nat} {L : List (Nat × Nat)} (h : Pass u i L) (hi : i < u.length) (hu : u.getD i 0 ≠ 0) : Pass u (i + 1) L := by
  have hu' := hu
  rw [getD_get hi] at hu'
  have hm : next u false i = next u false (i + 1) := next_miss hi (by simp; omega)
  refine ⟨fun _ => ?_, fun _ h0 => absurd h0 hu⟩
  rw [← hm]
  by_cases hc : i = 0 ∨ u.getD (i - 1) 0 ≠ 0
  · exact h.out hc
  · obtain ⟨done, a, rfl, ha, hz, hd⟩ := h.inn (by omega) (by omega)
    have hal : a < u.length := by omega
    have h0 : u[a] = 0 := by have := hz a (Nat.le_refl _) ha; rwa [getD_get hal] at this
    have hnt := next_to (by omega) (by omega) hz (fun h => by rw [getD_get hi] at hu; exact hu)
    rw [← hd, runs_cons hal h0, hnt, List.append_assoc]
    rfl
theorem Pass.bump {u : List Nat} {i : Nat} {L : List (Nat × Nat)} (h : Pass u i L) (hi : i < u.length) (hu : u.getD i 0 = 0) (hi0 : i ≠ 0) (hp : u.getD (i - 1) 0 = 0) : ∃ done a c, L = done ++ [(a, c)] ∧ c ≤ i ∧ Pass u (i + 1) (done ++ [(a, c + 1)]) := by
  obtain ⟨done, a, rfl, ha, hz, hd⟩ := h.inn hi0 hp
  refine ⟨done, a, i - a, rfl, by omega, fun h => ?_, fun _ _ => ⟨done, a, by rw [show i - a + 1 = i + 1 - a by omega], by omega, fun y h1 h2 => ?_, hd⟩⟩
  · rcases h with h | h
    · omega
    · exact absurd hu h
  · by_cases e : y = i
    · subst e; exact hu
    · exact hz y h1 (by omega)
theorem Pass.start {u : List Nat} {i : Nat} {L : List (Nat × Nat)} (h : Pass u i L) (hi : i < u.length) (hu : u.getD i 0 = 0) (hp : i = 0 ∨ u.getD (i - 1) 0 ≠ 0) : Pass u (i + 1) (L ++ [(i, 1)]) := by
  have h0 := h.out hp
  have hu' := hu
  rw [getD_get hi] at hu'
  have hh : next u false i = i := next_hit hi (by simp [hu'])
  rw [hh] at h0
  refine ⟨fun h => ?_, fun _ _ => ⟨L, i, by rw [Nat.add_sub_cancel_left], by omega, fun y h1 h2 => ?_, h0⟩⟩
  · rcases h with h | h
    · omega
    · exact absurd hu h
  · have : y = i := by omega
    subst this; exact hu
theorem Pass.fin {u : List Nat} {L : List (Nat × Nat)} (h : Pass u u.length L) : L = Fr.runs u (next u false 0) := by
  by_cases hc : u.length = 0 ∨ u.getD (u.length - 1) 0 ≠ 0
  · have := h.out hc
    rw [next_end (Nat.le_refl _), runs_end (Nat.le_refl _), List.append_nil] at this
    exact this
  · obtain ⟨done, a, rfl, ha, hz, hd⟩ := h.inn (by omega) (by omega)
    have h0 : u[a] = 0 := by have := hz a (Nat.le_refl _) ha; rwa [getD_get ha] at this
    have hnt := next_to (by omega) (Nat.le_refl _) hz (fun h => by omega)
    rw [← hd, runs_cons ha h0, hnt, next_end (Nat.le_refl _), runs_end (Nat.le_refl _)]
theorem runCells_append (first : Nat) (a b : List (Nat × Nat)) : runCells first (a ++ b) = runCells first a ++ runCells first b := by simp [runCells]
theorem runCells_len (first : Nat) (a : List (Nat × Nat)) : (runCells first a).length = a.length * 2 := flat_len (g := fun r : Nat × Nat => [Value.int .i64 ((first + r.1 : Nat) : Int), .int .i64 ((r.2 : Nat) : Int)]) (size := 2) (fun _ => rfl) a
theorem f45 {w : World} {b bu : Nat} {p : Pool} (hP : RPoolAt w b bu p) :
    Ret prog 45 #[.pointer (some ⟨b, 0, none⟩)] w fun v w' => ∃ q c, v = .slice q p.runs.length c ∧ Sl w' w.heap.size 58 2 q p.runs.length c (runCells p.first p.runs) ∧ Fr0 w w' := by
  have hN := hP.ok.n
  have hL := hP.ok.le
  refine F45_of _ _ _ ?_
  unfold F45
  simp only [at0_mk, Nat.zero_add]
  refine Loop.by (fun s w' => ∃ (i : Nat) (q : Option Addr) (c : Nat) (L : List (Nat × Nat)), s = [.int .i64 (i : Int), .slice q L.length c] ∧ i ≤ p.u.length ∧ L.length ≤ i ∧ Pass p.u i L ∧ Sl w' w.heap.size 58 2 q L.length c (runCells p.first L) ∧ Fr0 w w')
    (fun s _ => match s with | [.int _ k, _] => p.u.length - k.toNat | _ => 0)
    ⟨0, none, 0, [], rfl, by omega, by simp, ⟨fun _ => rfl, fun h => absurd rfl h⟩, Sl.nil _ _ _ _, Fr.refl _ _⟩ ?_
  rintro _ w1 ⟨i, q, c, L, rfl, hi, hLl, hpass, hsl, hf⟩
  simp only [UnC_cons, UnN_nil, AsI_int, AsSl_slice]
  have hP1 := hP.fr0 hf
  refine hP1.st.ld rfl ?_
  rw [AsSl_slice]
  refine BIf_cases (fun hlt => ?_) (fun hge => ?_)
  · have hil : i < p.u.length := by omega
    refine Join.triv ?_
    simp only [UnC_cons, UnN_nil, AsSl_slice]
    rw [w64 (n := (i : Int) + 1) (by omega) (by omega)]
    have hm : p.u.length - ((i : Int) + 1).toNat < p.u.length - (i : Int).toNat := by omega
    refine hP1.st.ld rfl ?_
    rw [AsSl_slice]
    refine Rd.nat hP1.rd (List.getElem?_eq_getElem hil) ?_
    refine BIf_cases (fun hpos => ?_) (fun hzero => ?_)
    · exact ⟨⟨i + 1, q, c, L, rfl, by omega, by omega, hpass.used hil (by rw [getD_get hil]; omega), hsl, hf⟩, hm⟩
    have hz : p.u.getD i 0 = 0 := by rw [getD_get hil]; omega
    have grow : (i = 0 ∨ p.u.getD (i - 1) 0 ≠ 0) → RunV prog (Instr.buildSlice 55 1 #[(0, .agg #[.int .i64 ((p.first : Int) + (i : Int)), .int .i64 1])]) w1 fun v45 w46 => AsSl v45 fun p47 n48 n49 => RunV prog (Builtin.append_ #[55, 55] 55 #[.slice q L.length c, .slice p47 n48 n49]) w46 fun v50 w51 => AsSl v50 fun p52 n53 n54 =>
        (∃ (i_1 : Nat) (q : Option Addr) (c : Nat) (L : List (Nat × Nat)), [Value.int .i64 ((i : Int) + 1), .slice p52 n53 n54] = [.int .i64 (i_1 : Int), .slice q L.length c] ∧ i_1 ≤ p.u.length ∧ L.length ≤ i_1 ∧ Pass p.u i_1 L ∧ Sl w51 w.heap.size 58 2 q L.length c (runCells p.first L) ∧ Fr0 w w51) ∧ p.u.length - ((i : Int) + 1).toNat < p.u.length - (i : Int).toNat := by
      intro hc
      refine push_sl E55 (by decide) hsl hf.size rfl (by intro u hu; simp [Value.cells] at hu; rcases hu with rfl | rfl <;> rfl) (by simp only [maxLen]; omega) (by omega) ?_
      intro p' c' w4 hsl4 hf4 hon4
      rw [AsSl_slice]
      refine ⟨⟨i + 1, p', c', L ++ [(i, 1)], by simp, by omega, by simp; omega, hpass.start hil hz hc, ?_, hf.own hf4 (fun b hb hlt => by have := (hsl.lt b hb).1; omega)⟩, hm⟩
      have e : runCells p.first (L ++ [(i, 1)]) = runCells p.first L ++ [.int .i64 ((p.first : Int) + (i : Int)), .int .i64 1] := by
        rw [runCells_append]; simp [runCells]
      rw [e, List.length_append]
      exact hsl4
    refine BIf_cases (fun hi0 => ?_) (fun hi0 => ?_)
    · refine hP1.st.ld rfl ?_
      rw [AsSl_slice, w64 (n := (i : Int) - 1) (by omega) (by omega), show (i : Int) - 1 = ((i - 1 : Nat) : Int) by omega]
      have hpl : i - 1 < p.u.length := by omega
      refine Rd.nat hP1.rd (List.getElem?_eq_getElem hpl) ?_
      refine BIf_eq (fun h0 => ?_) (fun h0 => ?_)
      · obtain ⟨done, a, cc, rfl, hcl, hp2⟩ := hpass.bump hil hz (by omega) (by rw [getD_get hpl]; omega)
        obtain ⟨g, sp, rfl, _, hh⟩ := hsl.some_ (by simp)
        rw [List.length_append, List.length_singleton] at hsl hLl ⊢
        rw [w64 (n := ((done.length + 1 : Nat) : Int) - 1) (by omega) (by omega), show ((done.length + 1 : Nat) : Int) - 1 = (done.length : Int) by omega]
        simp only [NilP_some, at0_mk, Nat.zero_add, Int.toNat_natCast]
        refine ⟨by omega, by omega, ?_⟩
        have hlen := runCells_len p.first (done ++ [(a, cc)])
        rw [List.length_append, List.length_singleton] at hlen
        have hcell : (runCells p.first (done ++ [(a, cc)]))[done.length * 2 + 1]? = some (.int .i64 ((cc : Nat) : Int)) :=
          (flat_get (g := fun r : Nat × Nat => [Value.int .i64 ((p.first + r.1 : Nat) : Int), .int .i64 ((r.2 : Nat) : Int)]) (size := 2) (fun _ => rfl) _ done.length 1 (by decide) (a, cc) (by simp)).trans rfl
        refine hh.ld (by rw [List.getElem?_append_left (by omega)]; exact hcell) ?_
        rw [AsI_int]
        refine ⟨by omega, by omega, ?_⟩
        rw [w64 (n := ((cc : Nat) : Int) + 1) (by omega) (by omega)]
        refine hsl.st rfl (by omega) rfl fun w2 sl2 f2 s2 => ?_
        have hset : (runCells p.first (done ++ [(a, cc)])).set (done.length * 2 + 1) (.int .i64 ((cc : Int) + 1)) = runCells p.first (done ++ [(a, cc + 1)]) := by
          have h1 := flat_set (g := fun r : Nat × Nat => [Value.int .i64 ((p.first + r.1 : Nat) : Int), .int .i64 ((r.2 : Nat) : Int)]) (size := 2) (fun _ => rfl) (v := .int .i64 ((cc : Int) + 1)) (done ++ [(a, cc)]) done.length 1 (by decide) (a, cc) (a, cc + 1) (by simp) (by simp)
          have h2 : (done ++ [(a, cc)]).set done.length (a, cc + 1) = done ++ [(a, cc + 1)] := by simp
          rw [h2] at h1
          exact h1
        rw [hset] at sl2
        refine ⟨⟨i + 1, some ⟨g, 0, none⟩, c, done ++ [(a, cc + 1)], by simp, by omega, by simp; omega, hp2, by simpa using sl2, hf.own f2 (fun b hb hlt => by have := (hsl.lt b hb).1; omega)⟩, hm⟩
      · refine hP1.st.ld rfl ?_
        rw [AsI_int, w64 (n := (p.first : Int) + (i : Int)) (by omega) (by omega)]
        exact grow (.inr (by rw [getD_get hpl]; omega))
    · refine hP1.st.ld rfl ?_
      rw [AsI_int, w64 (n := (p.first : Int) + (i : Int)) (by omega) (by omega)]
      exact grow (.inl (by omega))
  · have : i = p.u.length := by omega
    subst this
    have e := hpass.fin
    subst e
    exact ⟨q, c, rfl, hsl, hf⟩
end Go.Proofs.YthpodlcbikialaaDoor

set_option linter.unusedVariables false
set_option linter.unusedSimpArgs false
namespace Go.Proofs.YthpodlcbikialaaDoor
open Go Go.Sh Go.Fr

def goodAl (a : Int) : Bool := decide (1 ≤ a) && decide (a ≤ 4096) && pow2B a.toNat
theorem badTake_iff {n al : Int} : badTake n al ↔ n < 1 ∨ goodAl al = false := by
  unfold badTake goodAl
  cases pow2B al.toNat <;> simp <;> omega
theorem pows_lt : ∀ i, i < 13 → 2 ^ i ≤ 4096 ∧ goodAl ((2 ^ i : Nat) : Int) = true := by decide +kernel
theorem pow2B_has {x : Nat} (h : pow2B x = true) : ∃ i, i < 13 ∧ x = 2 ^ i := by
  unfold pow2B at h
  simp only [List.contains_cons, List.contains_nil, Bool.or_false, Bool.or_eq_true, beq_iff_eq] at h
  rcases h with h | h | h | h | h | h | h | h | h | h | h | h | h
  · exact ⟨0, by decide, h⟩
  · exact ⟨1, by decide, h⟩
  · exact ⟨2, by decide, h⟩
  · exact ⟨3, by decide, h⟩
  · exact ⟨4, by decide, h⟩
  · exact ⟨5, by decide, h⟩
  · exact ⟨6, by decide, h⟩
  · exact ⟨7, by decide, h⟩
  · exact ⟨8, by decide, h⟩
  · exact ⟨9, by decide, h⟩
  · exact ⟨10, by decide, h⟩
  · exact ⟨11, by decide, h⟩
  · exact ⟨12, by decide, h⟩
theorem f70 {w : World} (a : Int) : Ret prog 70 #[.int .i64 a] w fun v w' => v = .bool (goodAl a) ∧ w' = w := by
  refine F70_of _ _ _ ?_
  unfold F70
  refine Loop.by (fun s w' => ∃ (i : Nat) (b : Bool), s = [.int .i64 ((2 ^ i : Nat) : Int), .bool b] ∧ i ≤ 13 ∧ (∀ j : Nat, j < i → a ≠ ((2 ^ j : Nat) : Int)) ∧ w' = w)
    (fun s _ => match s with | [.int _ x, _] => 8193 - x.toNat | _ => 0)
    ⟨0, false, rfl, by omega, fun j h => by omega, rfl⟩ ?_
  rintro _ _ ⟨i, b, rfl, hi, hne, hw⟩
  obtain rfl := hw.symm
  simp only [UnC_cons, UnN_nil, AsI_int, AsB_bool]
  by_cases h13 : i < 13
  · obtain ⟨p1, p2⟩ := pows_lt i h13
    have hpos : 0 < 2 ^ i := Nat.pow_pos (by decide)
    have hnx : 2 ^ (i + 1) = 2 * 2 ^ i := by rw [Nat.pow_succ, Nat.mul_comm]
    refine BIf_pos (by omega) ?_
    refine BIf_eq (fun h => ?_) (fun h => ?_)
    · rw [← h, p2]; exact ⟨rfl, by trivial⟩
    · generalize hD : 2 ^ i = D at *
      rw [w64 (n := (2 : Int) * (D : Int)) (by omega) (by omega)]
      refine ⟨⟨i + 1, b, by rw [hnx]; simp, by omega, fun j hj => ?_, by trivial⟩, ?_⟩
      · by_cases e : j = i
        · subst e; rw [hD]; exact fun h' => h h'.symm
        · exact hne j (by omega)
      · show 8193 - (2 * (D : Int)).toNat < 8193 - (D : Int).toNat
        omega
  · have : i = 13 := by omega
    subst this
    refine BIf_neg (by decide) ?_
    refine ⟨?_, by trivial⟩
    have : goodAl a = false := by
      cases hg : goodAl a
      · rfl
      · unfold goodAl at hg
        simp only [Bool.and_eq_true, decide_eq_true_eq] at hg
        obtain ⟨j, hj, e⟩ := pow2B_has hg.2
        exact absurd (by omega) (hne j hj)
    rw [this]
theorem f71 {w : World} {b bu : Nat} {p : Pool} (hP : RPoolAt w b bu p) (a N : Nat) (h : a + N ≤ p.u.length) :
    Ret prog 71 #[.pointer (some ⟨b, 0, none⟩), .int .i64 ((p.first + a : Nat) : Int), .int .i64 (N : Int)] w fun v w' => (∃ r : Bool, v = .bool r ∧ (r = true ↔ ∀ x, a ≤ x → x < a + N → p.u.getD x 0 = 0)) ∧ Qt w w' := by
  have hN := hP.ok.n
  have hL := hP.ok.le
  refine F71_of _ _ _ _ _ ?_
  unfold F71
  simp only [at0_mk, Nat.zero_add]
  refine Loop.by (fun s w' => ∃ (i : Nat) (b : Bool), s = [.int .i64 (i : Int), .bool b] ∧ i ≤ N ∧ (∀ x, a ≤ x → x < a + i → p.u.getD x 0 = 0) ∧ Qt w w')
    (fun s _ => match s with | [.int _ x, _] => N - x.toNat | _ => 0)
    ⟨0, false, rfl, by omega, fun j h => by omega, Qt.refl w⟩ ?_
  rintro _ w1 ⟨i, b, rfl, hi, hz, hq⟩
  have hP1 := hP.qt hq
  simp only [UnC_cons, UnN_nil, AsI_int, AsB_bool, Ld_drew]
  refine BIf_cases (fun hlt => ?_) (fun hge => ?_)
  · refine hP1.st.ld rfl ?_
    rw [AsSl_slice]
    refine hP1.st.ld rfl ?_
    rw [AsI_int, w64 (n := ((p.first + a : Nat) : Int) - (p.first : Int)) (by omega) (by omega), w64 (n := ((p.first + a : Nat) : Int) - (p.first : Int) + (i : Int)) (by omega) (by omega), show ((p.first + a : Nat) : Int) - (p.first : Int) + (i : Int) = ((a + i : Nat) : Int) by omega]
    have hil : a + i < p.u.length := by omega
    refine Rd.nat hP1.rd (List.getElem?_eq_getElem hil) ?_
    refine BIf_cases (fun hpos => ?_) (fun hzero => ?_)
    · refine ⟨⟨false, rfl, ?_⟩, hq.drew⟩
      simp only [Bool.false_eq_true, false_iff]
      intro hall
      have := hall (a + i) (by omega) (by omega)
      rw [getD_get hil] at this; omega
    · rw [w64 (n := (i : Int) + 1) (by omega) (by omega)]
      refine ⟨⟨i + 1, b, rfl, by omega, fun x h1 h2 => ?_, hq.drew⟩, ?_⟩
      · by_cases e : x = a + i
        · subst e; rw [getD_get hil]; omega
        · exact hz x h1 (by omega)
      · show N - ((i : Int) + 1).toNat < N - (i : Int).toNat
        omega
  · have : i = N := by omega
    subst this
    exact ⟨⟨true, rfl, by simpa using hz⟩, hq⟩
theorem run_range {p : Pool} {f n : Int} (h1 : 1 ≤ n) (h2 : (p.first : Int) ≤ f ∧ f < p.first + p.u.length ∧ n ≤ p.first + p.u.length - f) : p.run f n = if (next p.u false (f - p.first).toNat : Int) < f - p.first + n then (0, 43) else ((f - p.first).toNat, 0) := by
  unfold Pool.run
  rw [if_neg (by omega), if_neg (by omega)]
theorem f72 {w : World} {b bu : Nat} {p : Pool} (hP : RPoolAt w b bu p) (f n : Int) (hf : I64 f) (hn : I64 n) :
    Ret prog 72 #[.pointer (some ⟨b, 0, none⟩), .int .i64 f, .int .i64 n] w fun v w' => v = .int .i64 (((p.run f n).2 : Nat) : Int) ∧ Qt w w' := by
  have hN := hP.ok.n
  have hL := hP.ok.le
  unfold I64 at hf hn
  refine F72_of _ _ _ _ _ ?_
  unfold F72
  refine BIf_cases (fun h1 => ?_) (fun h1 => ?_)
  · refine ⟨?_, Qt.refl w⟩
    unfold Pool.run; rw [if_pos h1]; rfl
  refine Ret.use (f61 hP f n hf) ?_
  rintro v w1 ⟨rfl, hq⟩
  rw [AsB_bool, BIf_not]
  refine BIf_cases (fun hr => ?_) (fun hr => ?_)
  rotate_left
  · refine ⟨?_, hq⟩
    unfold Pool.run; rw [if_neg h1, if_pos (by omega)]; rfl
  rw [run_range (by omega) hr]
  obtain ⟨a, ha⟩ : ∃ a : Nat, f - (p.first : Int) = a := ⟨(f - (p.first : Int)).toNat, by omega⟩
  obtain ⟨N, hNn⟩ : ∃ N : Nat, n = N := ⟨n.toNat, by omega⟩
  subst hNn
  rw [ha, Int.toNat_natCast]
  obtain ⟨s1, s2, s3, s4⟩ := next_spec p.u false a
  refine Loop.by (fun s w' => ∃ (i : Nat) (e : Int), s = [.int .i64 (i : Int), .int .i64 e] ∧ i ≤ N ∧ (∀ x, a ≤ x → x < a + i → p.u.getD x 0 ≠ 0) ∧ Qt w w')
    (fun s _ => match s with | [.int _ x, _] => N - x.toNat | _ => 0)
    ⟨0, 0, rfl, by omega, fun j h => by omega, hq⟩ ?_
  rintro _ w2 ⟨i, e, rfl, hi, hz, hq2⟩
  have hP1 := hP.qt hq2
  simp only [UnC_cons, UnN_nil, AsI_int, Ld_drew, at0_mk, Nat.zero_add]
  refine BIf_cases (fun hlt => ?_) (fun hge => ?_)
  · refine hP1.st.ld rfl ?_
    rw [AsSl_slice]
    refine hP1.st.ld rfl ?_
    rw [AsI_int, w64 (n := f - (p.first : Int)) (by omega) (by omega), ha, w64 (n := (a : Int) + (i : Int)) (by omega) (by omega), show (a : Int) + (i : Int) = ((a + i : Nat) : Int) by omega]
    have hil : a + i < p.u.length := by omega
    refine Rd.nat hP1.rd (List.getElem?_eq_getElem hil) ?_
    refine BIf_eq (fun h0 => ?_) (fun h0 => ?_)
    · refine ⟨?_, hq2.drew⟩
      have hle : next p.u false a ≤ a + i := by
        rcases Nat.lt_or_ge (a + i) (next p.u false a) with h | h
        · have := s4 (a + i) (by omega) h hil
          have h5 : p.u[a + i] ≠ 0 := by simpa using this
          omega
        · exact h
      rw [if_pos (by omega)]; rfl
    · rw [w64 (n := (i : Int) + 1) (by omega) (by omega)]
      refine ⟨⟨i + 1, e, rfl, by omega, fun x h1 h2 => ?_, hq2.drew⟩, ?_⟩
      · by_cases e : x = a + i
        · subst e; rw [getD_get hil]; omega
        · exact hz x h1 (by omega)
      · show N - ((i : Int) + 1).toNat < N - (i : Int).toNat
        omega
  · have : i = N := by omega
    subst this
    refine ⟨?_, hq2⟩
    have hle : a + i ≤ next p.u false a := by
      rcases Nat.lt_or_ge (next p.u false a) (a + i) with h | h
      · have h3 := s3 (by omega)
        have h4 := hz (next p.u false a) (s2 (by omega)) h
        rw [getD_get (by omega)] at h4
        simp at h3; omega
      · exact h
    rw [if_neg (by omega)]; rfl
theorem RPoolAt.put {w w' : World} {b bu : Nat} {p : Pool} (h : RPoolAt w b bu p) {k x : Nat} (hU : Has w' bu ((i64n p.u).set k (.int .i64 ((x : Nat) : Int)))) (f : Fr (· = bu) w w') (hx : x ≤ 255) : RPoolAt w' b bu ⟨p.first, p.u.set k x⟩ := by
  refine ⟨?_, ?_, h.ne, ?_⟩
  · have := h.st.fr f h.ne
    simpa using this
  · rw [i64n_set] at hU; exact hU
  · refine ⟨by simpa using h.ok.le, by simpa using h.ok.n, fun y hy => ?_⟩
    rcases List.mem_or_eq_of_mem_set hy with hy | rfl
    · exact h.ok.u y hy
    · exact hx
theorem free_zeros' (p : Pool) : p.free = zeros p.u := rfl
theorem f53 {w : World} {b bu : Nat} {p : Pool} (hP : RPoolAt w b bu p) (n al : Int) (hn : I64 n) :
    Ret prog 53 #[.pointer (some ⟨b, 0, none⟩), .int .i64 n, .int .i64 al] w fun v w' => ∃ r e p', v = .tuple #[.int .i64 ((r : Nat) : Int), .int .i64 ((e : Nat) : Int)] ∧ PTake p n al r e p' ∧ RPoolAt w' b bu p' ∧ Fr (· = bu) w w' := by
  have hN := hP.ok.n
  have hL := hP.ok.le
  unfold I64 at hn
  refine F53_of _ _ _ _ _ ?_
  unfold F53
  refine BIf_cases (fun h1 => ?_) (fun h1 => ?_)
  · exact ⟨0, 41, p, rfl, .bad (.inl h1), hP, Fr.refl _ _⟩
  refine Ret.use (f70 al) ?_
  rintro v w1 ⟨rfl, hw⟩
  obtain rfl := hw.symm
  rw [AsB_bool, BIf_not]
  refine BIf_b (fun hg => ?_) (fun hg => ?_)
  rotate_left
  · exact ⟨0, 41, p, rfl, .bad (badTake_iff.2 (.inr hg)), hP, Fr.refl _ _⟩
  have hbad : ¬ badTake n al := fun h => by rcases badTake_iff.1 h with h | h; exact h1 h; rw [hg] at h; cases h
  have hal : 1 ≤ al ∧ al ≤ 4096 := by unfold badTake at hbad; omega
  obtain ⟨N, hNn⟩ : ∃ N : Nat, n = N := ⟨n.toNat, by omega⟩
  obtain ⟨A, hA⟩ : ∃ A : Nat, al = A := ⟨al.toNat, by omega⟩
  subst hNn hA
  simp only [at0_mk, Nat.zero_add]
  refine hP.st.ld rfl ?_
  rw [AsI_int]
  refine Loop.by (fun s w' => ∃ (a : Nat) (x y : Int), s = [.int .i64 ((p.first + a : Nat) : Int), .int .i64 x, .int .i64 y] ∧ a ≤ p.u.length ∧ (∀ a', a' < a → ¬ Fit p.first p.u N A a') ∧ Qt w w')
    (fun s _ => match s with | [.int _ f, _, _] => p.first + p.u.length - f.toNat | _ => 0)
    ⟨0, 0, 0, rfl, by omega, fun j h => by omega, Qt.refl w⟩ ?_
  rintro _ w2 ⟨a, x, y, rfl, ha, hno, hq⟩
  have hP1 := hP.qt hq
  simp only [UnC_cons, UnN_nil, AsI_int]
  refine hP1.st.drew.ld rfl ?_
  rw [AsI_int]
  refine hP1.st.drew.ld rfl ?_
  rw [AsSl_slice, w64 (n := (p.first : Int) + (p.u.length : Int)) (by omega) (by omega)]
  refine BIf_cases (fun hlt => ?_) (fun hge => ?_)
  · refine NZ.mk (by omega) ?_
    have etm : ((p.first + a : Nat) : Int).tmod (A : Int) = (((p.first + a) % A : Nat) : Int) := by rw [IntWalk.rem_in _ _ (by omega)]; omega
    rw [etm, w64 (n := ((p.first + a : Nat) : Int) + 1) (by omega) (by omega)]
    have skip : ¬ Fit p.first p.u N A a → ∀ w', Qt w w' → (∃ (a_1 : Nat) (x_1 y_1 : Int), [Value.int .i64 (((p.first + a : Nat) : Int) + 1), .int .i64 x, .int .i64 y] = [.int .i64 ((p.first + a_1 : Nat) : Int), .int .i64 x_1, .int .i64 y_1] ∧ a_1 ≤ p.u.length ∧ (∀ a', a' < a_1 → ¬ Fit p.first p.u N A a') ∧ Qt w w') ∧
        p.first + p.u.length - (((p.first + a : Nat) : Int) + 1).toNat < p.first + p.u.length - ((p.first + a : Nat) : Int).toNat := by
      intro h w' hq'
      refine ⟨⟨a + 1, x, y, rfl, by omega, fun a' ha' => ?_, hq'⟩, by omega⟩
      by_cases e : a' = a
      · subst e; exact h
      · exact hno a' (by omega)
    refine BIf_eq (fun hm => ?_) (fun hm => ?_)
    rotate_left
    · exact skip (fun h => by have := h.1; omega) _ hq.drew
    refine Ret.use (f61 (hP1.qt (Qt.refl _).drew) ((p.first + a : Nat) : Int) (N : Int) ⟨by omega, by omega⟩) ?_
    rintro v w3 ⟨rfl, hq3⟩
    rw [AsB_bool]
    have hq03 := hq.trans hq3.of_drew
    refine BIf_cases (fun hh => ?_) (fun hh => ?_)
    rotate_left
    · exact skip (fun h => by have := h.2.1; omega) _ hq03
    have hP3 := hP.qt hq03
    refine Ret.use (f71 hP3 a N (by omega)) ?_
    rintro v w4 ⟨⟨r, rfl, hr⟩, hq4⟩
    rw [AsB_bool]
    have hq04 := hq03.trans hq4
    refine BIf_b (fun hb => ?_) (fun hb => ?_)
    rotate_left
    · exact skip (fun h => by have := hr.2 h.2.2; rw [hb] at this; cases this) _ hq04
    have hfit : Fit p.first p.u N A a := ⟨by omega, by omega, hr.1 hb⟩
    have hP4 := hP.qt hq04
    refine Loop.by (fun s w' => ∃ (i : Nat), s = [.int .i64 (i : Int)] ∧ i ≤ N ∧ RPoolAt w' b bu (p.turned a (fun _ => 1) i) ∧ Fr (· = bu) w w')
      (fun s _ => match s with | [.int _ f] => N - f.toNat | _ => 0)
      ⟨0, rfl, by omega, hP4, hq04.fr⟩ ?_
    rintro _ w5 ⟨i, rfl, hi, hP5, hf5⟩
    simp only [UnC_cons, UnN_nil, AsI_int]
    have hlen : (p.turned a (fun _ => 1) i).u.length = p.u.length := turn_len _ _ _ _
    refine BIf_cases (fun hlt => ?_) (fun hge => ?_)
    · refine hP5.st.drew.ld rfl ?_
      rw [AsSl_slice]
      refine hP5.st.drew.ld rfl ?_
      have hfi : (p.turned a (fun _ => 1) i).first = p.first := rfl
      rw [AsI_int, hfi, w64 (n := ((p.first + a : Nat) : Int) - (p.first : Int)) (by omega) (by omega), w64 (n := ((p.first + a : Nat) : Int) - (p.first : Int) + (i : Int)) (by omega) (by omega), show ((p.first + a : Nat) : Int) - (p.first : Int) + (i : Int) = ((a + i : Nat) : Int) by omega]
      simp only [NilP_some, at0_mk, Nat.zero_add, Nat.mul_one, Int.toNat_natCast]
      refine ⟨by omega, by omega, ?_⟩
      refine hP5.us.drew.st (by rw [i64n_len]; omega) rfl fun w6 h6 f6 s6 => ?_
      rw [w64 (n := (i : Int) + 1) (by omega) (by omega)]
      refine ⟨⟨i + 1, rfl, by omega, ?_, hf5.trans f6.of_drew⟩, ?_⟩
      · exact (hP5.qt (Qt.refl _).drew).put (x := 1) h6 f6 (by decide)
      · show N - ((i : Int) + 1).toNat < N - (i : Int).toNat
        omega
    · have : i = N := by omega
      subst this
      refine ⟨p.first + a, 0, _, rfl, ?_, hP5, hf5⟩
      have := PTake.ok hbad a hfit hno
      exact this
  · refine ⟨0, 42, p, rfl, .none hbad fun a' hfit => ?_, hP1.qt (Qt.refl _).drew, hq.drew.fr⟩
    have := hfit.2.1
    exact hno a' (by simp at this; omega) hfit
theorem f54 {w : World} {b bu : Nat} {p : Pool} (hP : RPoolAt w b bu p) (f n : Int) (hf : I64 f) (hn : I64 n) :
    Ret prog 54 #[.pointer (some ⟨b, 0, none⟩), .int .i64 f, .int .i64 n] w fun v w' => ∃ e : Nat, v = .int .i64 (e : Int) ∧ p.shareErr f n e ∧
      ((e ≠ 0 ∧ RPoolAt w' b bu p) ∨ (e = 0 ∧ RPoolAt w' b bu (p.turned (f - p.first).toNat (· + 1) n.toNat))) ∧ Fr (· = bu) w w' := by
  have hN := hP.ok.n
  have hL := hP.ok.le
  refine F54_of _ _ _ _ _ ?_
  unfold F54
  refine Ret.use (f72 hP f n hf hn) ?_
  rintro v w1 ⟨rfl, hq⟩
  unfold I64 at hf hn
  rw [AsI_int]
  refine BIf_ne (fun he => ?_) (fun he => ?_)
  · exact ⟨_, rfl, by unfold Pool.shareErr; rw [if_pos (by omega)], .inl ⟨by omega, hP.qt hq⟩, hq.fr⟩
  have hrun : (p.run f n).2 = 0 := by omega
  obtain ⟨r1, r2, r3, _, r5⟩ := run_ok hrun
  obtain ⟨a, ha⟩ : ∃ a : Nat, f - (p.first : Int) = a := ⟨(f - (p.first : Int)).toNat, by omega⟩
  obtain ⟨N, hNn⟩ : ∃ N : Nat, n = N := ⟨n.toNat, by omega⟩
  subst hNn
  rw [ha] at r5 ⊢
  simp only [Int.toNat_natCast] at r5 ⊢
  simp only [at0_mk, Nat.zero_add]
  refine Loop.by (fun s w' => ∃ (i : Nat) (e : Int), s = [.int .i64 (i : Int), .int .i64 e] ∧ i ≤ N ∧ (∀ x, a ≤ x → x < a + i → p.u.getD x 0 ≠ 255) ∧ Qt w w')
    (fun s _ => match s with | [.int _ f, _] => N - f.toNat | _ => 0)
    ⟨0, 0, rfl, by omega, fun j h => by omega, hq⟩ ?_
  rintro _ w2 ⟨i, e, rfl, hi, hno, hq2⟩
  have hP2 := hP.qt hq2
  simp only [UnC_cons, UnN_nil, AsI_int]
  have eidx : ∀ i : Nat, i < N → IntKind.i64.wrap (IntKind.i64.wrap (f - (p.first : Int)) + (i : Int)) = ((a + i : Nat) : Int) := by
    intro i hi
    rw [w64 (n := f - (p.first : Int)) (by omega) (by omega), ha, w64 (by omega) (by omega)]; omega
  refine BIf_cases (fun hlt => ?_) (fun hge => ?_)
  · refine hP2.st.drew.ld rfl ?_
    rw [AsSl_slice]
    refine hP2.st.drew.ld rfl ?_
    rw [AsI_int, eidx i (by omega)]
    have hil : a + i < p.u.length := by omega
    have hu := hP.ok.u _ (List.getElem_mem hil)
    simp only [Ld_drew]
    refine Rd.nat hP2.rd (List.getElem?_eq_getElem hil) ?_
    refine BIf_cases (fun h255 => ?_) (fun h255 => ?_)
    · refine ⟨44, rfl, ?_, .inl ⟨by decide, hP2.qt (Qt.refl _).drew⟩, hq2.drew.fr⟩
      unfold Pool.shareErr
      rw [if_neg (by omega)]
      refine .inl ⟨rfl, a + i, by omega, by omega, ?_⟩
      rw [getD_get hil]; omega
    · rw [w64 (n := (i : Int) + 1) (by omega) (by omega)]
      refine ⟨⟨i + 1, e, rfl, by omega, fun x h1 h2 => ?_, hq2.drew⟩, ?_⟩
      · by_cases e : x = a + i
        · subst e; rw [getD_get hil]; omega
        · exact hno x h1 (by omega)
      · show N - ((i : Int) + 1).toNat < N - (i : Int).toNat
        omega
  have hiN : i = N := by omega
  subst hiN
  refine Loop.by (fun s w' => ∃ (j : Nat), s = [.int .i64 (j : Int)] ∧ j ≤ i ∧ RPoolAt w' b bu (p.turned a (· + 1) j) ∧ Fr (· = bu) w w')
    (fun s _ => match s with | [.int _ f] => i - f.toNat | _ => 0)
    ⟨0, rfl, by omega, hP2, hq2.fr⟩ ?_
  rintro _ w5 ⟨j, rfl, hj, hP5, hf5⟩
  simp only [UnC_cons, UnN_nil, AsI_int]
  have hlen : (p.turned a (· + 1) j).u.length = p.u.length := turn_len _ _ _ _
  refine BIf_cases (fun hlt => ?_) (fun hge => ?_)
  · refine hP5.st.drew.ld rfl ?_
    rw [AsSl_slice]
    refine hP5.st.drew.ld rfl ?_
    have hfi : (p.turned a (· + 1) j).first = p.first := rfl
    have hil : a + j < p.u.length := by omega
    have hu := hP.ok.u _ (List.getElem_mem hil)
    rw [← getD_get hil] at hu
    rw [AsI_int, hfi, eidx j (by omega)]
    simp only [NilP_some, at0_mk, Nat.zero_add, Nat.mul_one, Int.toNat_natCast]
    have hcell : (i64n (p.turned a (· + 1) j).u)[a + j]? = some (.int .i64 ((p.u.getD (a + j) 0 : Nat) : Int)) := by
      rw [i64n_get (by omega)]
      show some (Value.int .i64 (((turn p.u a (· + 1) j).getD (a + j) 0 : Nat) : Int)) = _
      rw [turn_end hil]
    refine ⟨by omega, by omega, ?_⟩
    refine hP5.us.drew.ld hcell ?_
    rw [AsI_int]
    refine ⟨by omega, by omega, ?_⟩
    have hn255 := hno (a + j) (by omega) (by omega)
    rw [w64 (n := ((p.u.getD (a + j) 0 : Nat) : Int) + 1) (by omega) (by omega), show ((p.u.getD (a + j) 0 : Nat) : Int) + 1 = ((p.u.getD (a + j) 0 + 1 : Nat) : Int) by omega]
    refine hP5.us.drew.st (by rw [i64n_len]; omega) rfl fun w6 h6 f6 s6 => ?_
    rw [w64 (n := (j : Int) + 1) (by omega) (by omega)]
    refine ⟨⟨j + 1, rfl, by omega, (hP5.qt (Qt.refl _).drew).put h6 f6 (by show p.u.getD (a + j) 0 + 1 ≤ 255; omega), hf5.trans f6.of_drew⟩, ?_⟩
    show i - ((j : Int) + 1).toNat < i - (j : Int).toNat
    omega
  · have : j = i := by omega
    subst this
    refine ⟨0, rfl, ?_, .inr ⟨rfl, hP5⟩, hf5⟩
    unfold Pool.shareErr
    rw [if_neg (by omega)]
    refine .inr ⟨rfl, fun ⟨x, h1, h2, h3⟩ => ?_⟩
    rw [ha] at h1 h2
    simp only [Int.toNat_natCast] at h1 h2
    exact hno x h1 h2 h3
theorem f56 {w : World} {b bu : Nat} {p : Pool} (hP : RPoolAt w b bu p) (f n : Int) (hf : I64 f) (hn : I64 n) :
    Ret prog 56 #[.pointer (some ⟨b, 0, none⟩), .int .i64 f, .int .i64 n] w fun v w' =>
      (((p.run f n).2 ≠ 0 ∧ v = .tuple #[.int .i64 0, .int .i64 (((p.run f n).2 : Nat) : Int)] ∧ RPoolAt w' b bu p) ∨
      ((p.run f n).2 = 0 ∧ v = .tuple #[.int .i64 (((p.turned (f - p.first).toNat (· - 1) n.toNat).free : Int) - p.free), .int .i64 0] ∧ RPoolAt w' b bu (p.turned (f - p.first).toNat (· - 1) n.toNat))) ∧ Fr (· = bu) w w' := by
  have hN := hP.ok.n
  have hL := hP.ok.le
  refine F56_of _ _ _ _ _ ?_
  unfold F56
  refine Ret.use (f72 hP f n hf hn) ?_
  rintro v w1 ⟨rfl, hq⟩
  unfold I64 at hf hn
  rw [AsI_int]
  refine BIf_ne (fun he => ?_) (fun he => ?_)
  · exact ⟨.inl ⟨by omega, rfl, hP.qt hq⟩, hq.fr⟩
  have hrun : (p.run f n).2 = 0 := by omega
  obtain ⟨r1, r2, r3, _, r5⟩ := run_ok hrun
  obtain ⟨a, ha⟩ : ∃ a : Nat, f - (p.first : Int) = a := ⟨(f - (p.first : Int)).toNat, by omega⟩
  obtain ⟨N, hNn⟩ : ∃ N : Nat, n = N := ⟨n.toNat, by omega⟩
  subst hNn
  rw [ha] at r5 ⊢
  simp only [Int.toNat_natCast] at r5 ⊢
  simp only [at0_mk, Nat.zero_add]
  have eidx : ∀ i : Nat, i < N → IntKind.i64.wrap (IntKind.i64.wrap (f - (p.first : Int)) + (i : Int)) = ((a + i : Nat) : Int) := by
    intro i hi
    rw [w64 (n := f - (p.first : Int)) (by omega) (by omega), ha, w64 (by omega) (by omega)]; omega
  have hzle := zeros_le p.u
  refine Loop.by (fun s w' => ∃ (j fr : Nat), s = [.int .i64 (j : Int), .int .i64 (fr : Int)] ∧ j ≤ N ∧ fr ≤ j ∧ zeros (turn p.u a (· - 1) j) = zeros p.u + fr ∧ RPoolAt w' b bu (p.turned a (· - 1) j) ∧ Fr (· = bu) w w')
    (fun s _ => match s with | [.int _ f, _] => N - f.toNat | _ => 0)
    ⟨0, 0, rfl, by omega, by omega, rfl, hP.qt hq, hq.fr⟩ ?_
  rintro _ w5 ⟨j, fr, rfl, hj, hfr, hzz, hP5, hf5⟩
  simp only [UnC_cons, UnN_nil, AsI_int]
  have hlen : (p.turned a (· - 1) j).u.length = p.u.length := turn_len _ _ _ _
  refine BIf_cases (fun hlt => ?_) (fun hge => ?_)
  · refine Join.triv ?_
    refine hP5.st.drew.ld rfl ?_
    rw [AsSl_slice]
    refine hP5.st.drew.ld rfl ?_
    have hfi : (p.turned a (· - 1) j).first = p.first := rfl
    have hil : a + j < p.u.length := by omega
    have hu := hP.ok.u _ (List.getElem_mem hil)
    rw [← getD_get hil] at hu
    have hpos := r5 (a + j) (by omega) (by omega)
    rw [AsI_int, hfi, eidx j (by omega)]
    simp only [NilP_some, at0_mk, Nat.zero_add, Nat.mul_one, Int.toNat_natCast]
    have hcell : (i64n (p.turned a (· - 1) j).u)[a + j]? = some (.int .i64 ((p.u.getD (a + j) 0 : Nat) : Int)) := by
      rw [i64n_get (by omega)]
      show some (Value.int .i64 (((turn p.u a (· - 1) j).getD (a + j) 0 : Nat) : Int)) = _
      rw [turn_end hil]
    refine ⟨by omega, by omega, ?_⟩
    refine hP5.us.drew.ld hcell ?_
    rw [AsI_int]
    refine ⟨by omega, by omega, ?_⟩
    rw [w64 (n := ((p.u.getD (a + j) 0 : Nat) : Int) - 1) (by omega) (by omega), show ((p.u.getD (a + j) 0 : Nat) : Int) - 1 = ((p.u.getD (a + j) 0 - 1 : Nat) : Int) by omega]
    refine hP5.us.drew.st (by rw [i64n_len]; omega) rfl fun w6 h6 f6 s6 => ?_
    have hP6 : RPoolAt w6 b bu (p.turned a (· - 1) (j + 1)) := (hP5.qt (Qt.refl _).drew).put h6 f6 (by show p.u.getD (a + j) 0 - 1 ≤ 255; omega)
    have hlen6 : (p.turned a (· - 1) (j + 1)).u.length = p.u.length := turn_len _ _ _ _
    refine hP6.st.drew.ld rfl ?_
    rw [AsSl_slice]
    refine hP6.st.drew.ld rfl ?_
    have hfi6 : (p.turned a (· - 1) (j + 1)).first = p.first := rfl
    rw [AsI_int, hfi6, eidx j (by omega)]
    simp only [NilP_some, at0_mk, Nat.zero_add, Nat.mul_one, Int.toNat_natCast]
    have hcell6 : (i64n (p.turned a (· - 1) (j + 1)).u)[a + j]? = some (.int .i64 ((p.u.getD (a + j) 0 - 1 : Nat) : Int)) := by
      rw [i64n_get (by omega)]
      show some (Value.int .i64 (((turn p.u a (· - 1) (j + 1)).getD (a + j) 0 : Nat) : Int)) = _
      rw [turn_get p.u a _ (a + j) (j + 1) (by omega), if_pos (by omega)]
    refine ⟨by omega, by omega, ?_⟩
    refine hP6.us.drew.ld hcell6 ?_
    rw [AsI_int]
    have hz := turn_zeros (fn := (· - 1)) hil (by omega)
    have hm : N - ((j : Int) + 1).toNat < N - (j : Int).toNat := by omega
    refine BIf_eq (fun h0 => ?_) (fun h0 => ?_)
    · simp only [UnC_cons, UnN_nil, AsI_int]
      rw [w64 (n := (j : Int) + 1) (by omega) (by omega), w64 (n := (fr : Int) + 1) (by omega) (by omega)]
      rw [if_pos (by omega)] at hz
      exact ⟨⟨j + 1, fr + 1, rfl, by omega, by omega, by omega, hP6.qt (Qt.refl _).drew, (hf5.trans f6.of_drew).trans (Qt.refl _).drew.fr⟩, hm⟩
    · simp only [UnC_cons, UnN_nil, AsI_int]
      rw [w64 (n := (j : Int) + 1) (by omega) (by omega)]
      rw [if_neg (by omega)] at hz
      exact ⟨⟨j + 1, fr, rfl, by omega, by omega, by omega, hP6.qt (Qt.refl _).drew, (hf5.trans f6.of_drew).trans (Qt.refl _).drew.fr⟩, hm⟩
  · have : j = N := by omega
    subst this
    refine ⟨.inr ⟨hrun, ?_, hP5⟩, hf5⟩
    have : ((Pool.free (p.turned a (· - 1) j) : Nat) : Int) - (p.free : Int) = (fr : Int) := by
      rw [free_zeros', free_zeros']
      show ((zeros (turn p.u a (· - 1) j) : Nat) : Int) - _ = _
      omega
    rw [this]
end Go.Proofs.YthpodlcbikialaaDoor

set_option linter.unusedVariables false
set_option linter.unusedSimpArgs false
namespace Go.Proofs.YthpodlcbikialaaDoor
open Go Go.Sh Go.Fr

/-! ## the document's slab -/
structure RSlabAt (w : World) (s b : Nat) (g : Option Addr) (c : Nat) (L : List Nat) : Prop where
  st : Has w s [.pointer (some ⟨b, 0, none⟩), .slice g L.length c]
  sl : Sl w 0 3 1 g L.length c (i64n L)
  ne : ¬ On g s
theorem RSlabAt.fr {S : Nat → Prop} {w w' : World} {s b c : Nat} {g : Option Addr} {L : List Nat} (h : RSlabAt w s b g c L) (f : Fr S w w') (hS : ∀ x, Sb s g x → ¬ S x) : RSlabAt w' s b g c L :=
  ⟨h.st.fr f (hS s (.inl rfl)), h.sl.fr f fun x hx => hS x (.inr hx), h.ne⟩
theorem RSlabAt.fr0 {w w' : World} {s b c : Nat} {g : Option Addr} {L : List Nat} (h : RSlabAt w s b g c L) (f : Fr0 w w') : RSlabAt w' s b g c L := h.fr f fun _ _ h => h
theorem RSlabAt.qt {w w' : World} {s b c : Nat} {g : Option Addr} {L : List Nat} (h : RSlabAt w s b g c L) (f : Qt w w') : RSlabAt w' s b g c L := h.fr0 f.fr
theorem RSlabAt.lt {w : World} {s b c : Nat} {g : Option Addr} {L : List Nat} (h : RSlabAt w s b g c L) : ∀ x, Sb s g x → x < w.heap.size := by
  rintro x (rfl | hx)
  · exact h.st.lt
  · exact (h.sl.lt x hx).2
theorem RSlabAt.rd {w : World} {s b c : Nat} {g : Option Addr} {L : List Nat} (h : RSlabAt w s b g c L) : Rd w g (i64n L) := h.sl.rd
theorem f43 {w : World} (b : Nat) : Ret prog 43 #[.pointer (some ⟨b, 0, none⟩)] w fun v w' => v = .tuple #[.pointer (some ⟨w.heap.size, 0, none⟩), .int .i64 0] ∧ RSlabAt w' w.heap.size b none 0 [] ∧ Fr0 w w' ∧ w'.heap.size = w.heap.size + 1 := by
  refine F43_of _ _ _ ?_
  unfold F43
  refine New.mk fun w1 n1 f1 s1 => ?_
  exact ⟨rfl, ⟨n1, Sl.nil _ _ _ _, fun ⟨a, h, _⟩ => by cases h⟩, f1, s1⟩
theorem f73 {w : World} {s b c : Nat} {g : Option Addr} {L : List Nat} (hS : RSlabAt w s b g c L) (hL : L.length ≤ 4294967296) (t : Int) :
    Ret prog 73 #[.pointer (some ⟨s, 0, none⟩), .int .i64 t] w fun v w' => (∃ r : Bool, v = .bool r ∧ (r = true ↔ ∃ x ∈ L, t = ((x : Nat) : Int))) ∧ w' = w := by
  refine F73_of _ _ _ _ ?_
  unfold F73
  simp only [at0_mk, Nat.zero_add]
  refine Loop.by (fun s w' => ∃ (i : Nat) (b : Bool), s = [.int .i64 (i : Int), .bool b] ∧ i ≤ L.length ∧ (∀ j x, j < i → L[j]? = some x → t ≠ ((x : Nat) : Int)) ∧ w' = w)
    (fun s _ => match s with | [.int _ x, _] => L.length - x.toNat | _ => 0)
    ⟨0, false, rfl, by omega, fun j x h => by omega, rfl⟩ ?_
  rintro _ _ ⟨i, b, rfl, hi, hne, hw⟩
  obtain rfl := hw.symm
  simp only [UnC_cons, UnN_nil, AsI_int, AsB_bool]
  refine hS.st.ld rfl ?_
  rw [AsSl_slice]
  refine BIf_cases (fun hlt => ?_) (fun hge => ?_)
  · have hil : i < L.length := by omega
    refine hS.st.ld rfl ?_
    rw [AsSl_slice]
    refine Rd.nat hS.rd (List.getElem?_eq_getElem hil) ?_
    refine BIf_eq (fun h => ?_) (fun h => ?_)
    · exact ⟨⟨true, rfl, by simp only [true_iff]; exact ⟨_, List.getElem_mem hil, h.symm⟩⟩, by trivial⟩
    · rw [w64 (n := (i : Int) + 1) (by omega) (by omega)]
      refine ⟨⟨i + 1, b, rfl, by omega, fun j x hj hx => ?_, by trivial⟩, ?_⟩
      · by_cases e : j = i
        · subst e; rw [List.getElem?_eq_getElem hil] at hx; injection hx with hx; rw [← hx]; exact fun h' => h h'.symm
        · exact hne j x (by omega) hx
      · show L.length - ((i : Int) + 1).toNat < L.length - (i : Int).toNat
        omega
  · refine ⟨⟨false, rfl, ?_⟩, by trivial⟩
    simp only [Bool.false_eq_true, false_iff]
    rintro ⟨x, hx, e⟩
    obtain ⟨j, hj, rfl⟩ := List.getElem_of_mem hx
    exact hne j _ (by omega) (List.getElem?_eq_getElem hj) e
theorem f59 {w : World} {s b c : Nat} {g : Option Addr} {L : List Nat} (hS : RSlabAt w s b g c L) (hL : L.length ≤ 4294967296) :
    Ret prog 59 #[.pointer (some ⟨s, 0, none⟩)] w fun v w' => ∃ q d, v = .slice q L.length d ∧ Sl w' w.heap.size 3 1 q L.length d (i64n L) ∧ Fr0 w w' := by
  refine F59_of _ _ _ ?_
  unfold F59
  refine RunV.build0 E38 w.heap.size (Nat.le_refl _) fun p1 w1 sl1 f1 on1 => ?_
  rw [AsSl_slice]
  have hS1 := hS.fr0 f1
  simp only [at0_mk, Nat.zero_add]
  refine hS1.st.ld rfl ?_
  rw [AsSl_slice]
  refine append_src E38 sl1 f1.size hS1.sl.src (by intro u hu; obtain ⟨n, _, rfl⟩ := List.mem_map.1 hu; rfl) (by simp only [maxLen]; omega) (by omega) fun p2 c2 w2 sl2 f2 on2 => ?_
  rw [AsSl_slice]
  rw [Nat.zero_add, List.nil_append] at sl2
  rw [Nat.zero_add]
  exact ⟨p2, c2, rfl, sl2, f1.own f2 fun x hx hl => by have := on1 x hx; omega⟩

/-! ### the frames of a list of tables -/
def dd (acc : List Nat) (x : Nat) : List Nat := if acc.getLast? = some (x / 4) then acc else acc ++ [x / 4]
theorem dd_same {f : Nat} : ∀ (T acc : List Nat), (∀ y ∈ T, y / 4 = f) → acc.getLast? = some f → T.foldl dd acc = acc
  | [], acc, _, _ => rfl
  | y :: T, acc, h, ha => by
    have e : dd acc y = acc := by unfold dd; rw [h y (by simp), if_pos ha]
    rw [List.foldl_cons, e]; exact dd_same T acc (fun z hz => h z (by simp [hz])) ha
theorem dd_group {f : Nat} {T acc : List Nat} (h : ∀ y ∈ T, y / 4 = f) (hT : T ≠ []) (ha : acc.getLast? ≠ some f) : T.foldl dd acc = acc ++ [f] := by
  cases T with
  | nil => exact absurd rfl hT
  | cons y T =>
    have e : dd acc y = acc ++ [f] := by unfold dd; rw [h y (by simp), if_neg ha]
    rw [List.foldl_cons, e]; exact dd_same T _ (fun z hz => h z (by simp [hz])) (by simp)
theorem dd_tabs : ∀ (l : List Qr) (acc : List Nat), l.Pairwise (fun a b => a.f < b.f) → (∀ q ∈ l, ∃ k, k < 4 ∧ q.u k = true) → (∀ q ∈ l, acc.getLast? ≠ some q.f) → (tabs l).foldl dd acc = acc ++ l.map Qr.f
  | [], acc, _, _, _ => by simp [tabs]
  | q :: r, acc, hp, hany, ha => by
    have e : tabs (q :: r) = q.tabs 4 ++ tabs r := by simp [tabs]
    obtain ⟨h1, h2⟩ := List.pairwise_cons.1 hp
    rw [e, List.foldl_append, dd_group (f := q.f) (fun y hy => ?_) ?_ (ha q (by simp)), dd_tabs r _ h2 (fun x hx => hany x (by simp [hx])) fun x hx => ?_]
    · simp
    · simp only [List.getLast?_append, List.getLast?_singleton, Option.some_or]
      intro h; injection h with h; have := h1 x hx; omega
    · obtain ⟨k, hk, hu⟩ := hany q (by simp)
      exact List.ne_nil_of_mem (mem_qtabs.2 ⟨k, hk, hu, rfl⟩)
    · obtain ⟨k, hk, _, rfl⟩ := mem_qtabs.1 hy; omega
theorem dd_len (acc : List Nat) (x : Nat) : (dd acc x).length ≤ acc.length + 1 := by unfold dd; split <;> simp
theorem f60 {w : World} {s b c : Nat} {g : Option Addr} {l : List Qr} (hok : SlabOk l) (hS : RSlabAt w s b g c (tabs l)) :
    Ret prog 60 #[.pointer (some ⟨s, 0, none⟩)] w fun v w' => ∃ q d, v = .slice q l.length d ∧ Sl w' w.heap.size 3 1 q l.length d (i64n (l.map Qr.f)) ∧ Fr0 w w' := by
  have hN := hok.len
  have hT4 := tabs_len l
  refine F60_of _ _ _ ?_
  unfold F60
  simp only [at0_mk, Nat.zero_add]
  refine Loop.by (fun s w' => ∃ (i : Nat) (q : Option Addr) (d : Nat), s = [.int .i64 (i : Int), .slice q (((tabs l).take i).foldl dd []).length d] ∧ i ≤ (tabs l).length ∧ (((tabs l).take i).foldl dd []).length ≤ i ∧
      Sl w' w.heap.size 3 1 q (((tabs l).take i).foldl dd []).length d (i64n (((tabs l).take i).foldl dd [])) ∧ Fr0 w w')
    (fun s _ => match s with | [.int _ x, _] => (tabs l).length - x.toNat | _ => 0)
    ⟨0, none, 0, rfl, by omega, by simp, Sl.nil _ _ _ _, Fr.refl _ _⟩ ?_
  rintro _ w1 ⟨i, q, d, rfl, hi, hal, hsl, hf⟩
  have hS1 := hS.fr0 hf
  simp only [UnC_cons, UnN_nil, AsI_int, AsSl_slice]
  refine hS1.st.ld rfl ?_
  rw [AsSl_slice]
  refine BIf_cases (fun hlt => ?_) (fun hge => ?_)
  · have hil : i < (tabs l).length := by omega
    have hxl := tabs_lt hok (List.getElem_mem hil)
    refine Join.triv ?_
    refine hS1.st.ld rfl ?_
    rw [AsSl_slice]
    refine Rd.nat hS1.rd (List.getElem?_eq_getElem hil) ?_
    have hstep : ((tabs l).take (i + 1)).foldl dd [] = dd (((tabs l).take i).foldl dd []) (tabs l)[i] := by
      rw [List.take_add_one, List.getElem?_eq_getElem hil, List.foldl_append]; rfl
    generalize hacc : ((tabs l).take i).foldl dd [] = acc at *
    have e4 : IntKind.i64.wrap ((((tabs l)[i] : Nat) : Int).tdiv 4) = (((tabs l)[i] / 4 : Nat) : Int) := by
      rw [IntWalk.i64_quo _ _ ⟨by omega, by omega, by omega⟩]; omega
    rw [e4]
    simp only [UnC_cons, UnN_nil, AsSl_slice]
    rw [w64 (n := (i : Int) + 1) (by omega) (by omega)]
    have hm : (tabs l).length - ((i : Int) + 1).toNat < (tabs l).length - (i : Int).toNat := by omega
    have push : acc.getLast? ≠ some ((tabs l)[i] / 4) → RunV prog (Instr.buildSlice 38 1 #[(0, .int .i64 (((tabs l)[i] / 4 : Nat) : Int))]) w1 fun v45 w46 => AsSl v45 fun p47 n48 n49 => RunV prog (Builtin.append_ #[38, 38] 38 #[.slice q acc.length d, .slice p47 n48 n49]) w46 fun v50 w51 => AsSl v50 fun p52 n53 n54 =>
        (∃ (i_1 : Nat) (q : Option Addr) (d : Nat), [Value.int .i64 ((i : Int) + 1), .slice p52 n53 n54] = [.int .i64 (i_1 : Int), .slice q (((tabs l).take i_1).foldl dd []).length d] ∧ i_1 ≤ (tabs l).length ∧ (((tabs l).take i_1).foldl dd []).length ≤ i_1 ∧
          Sl w51 w.heap.size 3 1 q (((tabs l).take i_1).foldl dd []).length d (i64n (((tabs l).take i_1).foldl dd [])) ∧ Fr0 w w51) ∧ (tabs l).length - ((i : Int) + 1).toNat < (tabs l).length - (i : Int).toNat := by
      intro hne
      refine push_sl E38 (by decide) hsl hf.size rfl (by intro u hu; simp [Value.cells] at hu; subst hu; rfl) (by simp only [maxLen]; omega) (by omega) ?_
      intro p' c' w4 hsl4 hf4 hon4
      rw [AsSl_slice]
      have ea : dd acc (tabs l)[i] = acc ++ [(tabs l)[i] / 4] := by unfold dd; rw [if_neg hne]
      rw [ea] at hstep
      refine ⟨⟨i + 1, p', c', by rw [hstep]; simp, by omega, by rw [hstep]; simp; omega, ?_, hf.own hf4 (fun b hb hlt => by have := (hsl.lt b hb).1; omega)⟩, hm⟩
      rw [hstep, List.length_append]
      have e : i64n (acc ++ [(tabs l)[i] / 4]) = i64n acc ++ [.int .i64 (((tabs l)[i] / 4 : Nat) : Int)] := by simp [i64n]
      rw [e]; exact hsl4
    refine BIf_eq (fun h0 => ?_) (fun h0 => ?_)
    · have : acc = [] := List.eq_nil_of_length_eq_zero (by omega)
      exact push (by rw [this]; simp)
    · have hpos : 0 < acc.length := by omega
      rw [w64 (n := (acc.length : Int) - 1) (by omega) (by omega), show (acc.length : Int) - 1 = ((acc.length - 1 : Nat) : Int) by omega]
      have hlast : acc[acc.length - 1]? = acc.getLast? := by rw [List.getLast?_eq_getElem?]
      have hlt1 : acc.length - 1 < acc.length := by omega
      refine Rd.nat hsl.rd (List.getElem?_eq_getElem hlt1) ?_
      rw [List.getElem?_eq_getElem hlt1] at hlast
      refine BIf_ne (fun hne => ?_) (fun heq => ?_)
      · exact push (by rw [← hlast]; intro h; injection h with h; exact hne (by omega))
      · have ea : dd acc (tabs l)[i] = acc := by unfold dd; rw [if_pos]; rw [← hlast]; congr 1; omega
        rw [ea] at hstep
        exact ⟨⟨i + 1, q, d, by rw [hstep]; rfl, by omega, by rw [hstep]; omega, by rw [hstep]; exact hsl, hf⟩, hm⟩
  · have : i = (tabs l).length := by omega
    rw [this, List.take_length, dd_tabs l [] hok.rise hok.any (fun q _ => by simp), List.nil_append, List.length_map] at hsl
    rw [this, List.take_length, dd_tabs l [] hok.rise hok.any (fun q _ => by simp), List.nil_append, List.length_map]
    exact ⟨q, d, rfl, hsl, hf⟩

/-! ### put -/
def putL (t : Nat) : List Nat → List Nat
  | [] => [t]
  | x :: r => if t < x then t :: x :: r else x :: putL t r
theorem putL_at {t : Nat} : ∀ {L : List Nat} {i : Nat}, (∀ j x, j < i → L[j]? = some x → x ≤ t) → (∀ x, L[i]? = some x → t < x) → i ≤ L.length → putL t L = L.take i ++ t :: L.drop i
  | [], i, _, _, hi => by simp at hi; subst hi; rfl
  | x :: r, 0, _, h, _ => by
    have := h x (by simp)
    simp [putL, this]
  | x :: r, i + 1, h1, h2, hi => by
    have h3 := h1 0 x (by omega) (by simp)
    have := putL_at (L := r) (i := i) (fun j y hj hy => h1 (j + 1) y (by omega) (by simpa using hy)) (fun y hy => h2 y (by simpa using hy)) (by simpa using hi)
    simp [putL, this, show ¬ t < x by omega]
theorem putL_len (t : Nat) (L : List Nat) : (putL t L).length = L.length + 1 := by
  induction L with
  | nil => rfl
  | cons x r ih => unfold putL; split <;> simp [ih]
theorem mem_putL {t x : Nat} {L : List Nat} : x ∈ putL t L ↔ x = t ∨ x ∈ L := by
  induction L with
  | nil => simp [putL]
  | cons y r ih =>
    unfold putL
    split
    · simp
    · simp only [List.mem_cons, ih]
      constructor
      · rintro (h | h | h)
        · exact .inr (.inl h)
        · exact .inl h
        · exact .inr (.inr h)
      · rintro (h | h | h)
        · exact .inr (.inl h)
        · exact .inl h
        · exact .inr (.inr h)
theorem putL_rise {t : Nat} : ∀ {L : List Nat}, L.Pairwise (· < ·) → t ∉ L → (putL t L).Pairwise (· < ·)
  | [], _, _ => by simp [putL]
  | y :: r, h, hn => by
    obtain ⟨h1, h2⟩ := List.pairwise_cons.1 h
    unfold putL
    split
    · refine List.pairwise_cons.2 ⟨fun z hz => ?_, h⟩
      rcases List.mem_cons.1 hz with rfl | hz
      · assumption
      · have := h1 z hz; omega
    · refine List.pairwise_cons.2 ⟨fun z hz => ?_, putL_rise h2 fun hm => hn (by simp [hm])⟩
      rcases mem_putL.1 hz with rfl | hz
      · have : z ≠ y := fun e => hn (by simp [e])
        omega
      · exact h1 z hz
theorem rise_ext : ∀ {a b : List Nat}, a.Pairwise (· < ·) → b.Pairwise (· < ·) → (∀ x, x ∈ a ↔ x ∈ b) → a = b
  | [], [], _, _, _ => rfl
  | [], y :: b, _, _, h => by have := (h y).2 (by simp); simp at this
  | x :: a, [], _, _, h => by have := (h x).1 (by simp); simp at this
  | x :: a, y :: b, ha, hb, h => by
    obtain ⟨a1, a2⟩ := List.pairwise_cons.1 ha
    obtain ⟨b1, b2⟩ := List.pairwise_cons.1 hb
    have e : x = y := by
      have hx := (h x).1 (by simp)
      have hy := (h y).2 (by simp)
      rcases List.mem_cons.1 hx with h1 | h1
      · exact h1
      · rcases List.mem_cons.1 hy with h2 | h2
        · exact h2.symm
        · have := a1 y h2; have := b1 x h1; omega
    subst e
    congr 1
    refine rise_ext a2 b2 fun z => ⟨fun hz => ?_, fun hz => ?_⟩
    · have h3 := a1 z hz
      rcases List.mem_cons.1 ((h z).1 (by simp [hz])) with rfl | h4
      · omega
      · exact h4
    · have h3 := b1 z hz
      rcases List.mem_cons.1 ((h z).2 (by simp [hz])) with rfl | h4
      · omega
      · exact h4
theorem f74 {w : World} {s b c : Nat} {g : Option Addr} {L : List Nat} (hS : RSlabAt w s b g c L) (hL : L.length ≤ 4294967296) (t : Nat) :
    Ret prog 74 #[.pointer (some ⟨s, 0, none⟩), .int .i64 (t : Int)] w fun v w' => v = .tuple #[] ∧ ∃ g' c', RSlabAt w' s b g' c' (putL t L) ∧ Fr (· = s) w w' ∧ ∀ x, On g' x → w.heap.size ≤ x := by
  have hslt := hS.st.lt
  refine F74_of _ _ _ _ ?_
  unfold F74
  simp only [at0_mk, Nat.zero_add]
  refine Loop.by (fun s w' => ∃ (i : Nat) (dn : Bool) (q : Option Addr) (d : Nat) (acc : List Nat), s = [.int .i64 (i : Int), .bool dn, .slice q acc.length d] ∧ i ≤ L.length ∧ acc.length ≤ i + 1 ∧ (dn = false → acc = L.take i ∧ ∀ j x, j < i → L[j]? = some x → x ≤ t) ∧ (dn = true → acc ++ L.drop i = putL t L) ∧
      Sl w' w.heap.size 3 1 q acc.length d (i64n acc) ∧ Fr0 w w')
    (fun s _ => match s with | [.int _ x, _, _] => L.length - x.toNat | _ => 0)
    ⟨0, false, none, 0, [], rfl, by omega, by simp, fun _ => ⟨rfl, fun j x h => by omega⟩, (fun h => by cases h), Sl.nil _ _ _ _, Fr.refl _ _⟩ ?_
  rintro _ w1 ⟨i, dn, q, d, acc, rfl, hi, hal, h1, h2, hsl, hf⟩
  have hS1 := hS.fr0 hf
  simp only [UnC_cons, UnN_nil, AsI_int, AsSl_slice, AsB_bool]
  refine hS1.st.ld rfl ?_
  rw [AsSl_slice]
  refine BIf_cases (fun hlt => ?_) (fun hge => ?_)
  · have hil : i < L.length := by omega
    refine Join.at (fun s w' => ∃ (dn : Bool) (q : Option Addr) (d : Nat) (acc : List Nat), s = [.bool dn, .slice q acc.length d] ∧ acc.length ≤ i + 1 ∧ (dn = false → acc = L.take i ∧ ∀ j x, j < i + 1 → L[j]? = some x → x ≤ t) ∧ (dn = true → acc ++ L.drop i = putL t L) ∧
      Sl w' w.heap.size 3 1 q acc.length d (i64n acc) ∧ Fr0 w w') ?_ ?_
    · rw [BIf_not]
      refine BIf_b (fun hd => ?_) (fun hd => ?_)
      · exact ⟨dn, q, d, acc, rfl, hal, (fun h => by rw [hd] at h; cases h), h2, hsl, hf⟩
      · obtain ⟨ea, hle⟩ := h1 hd
        refine hS1.st.ld rfl ?_
        rw [AsSl_slice]
        refine Rd.nat hS1.rd (List.getElem?_eq_getElem hil) ?_
        have hacc : acc.length = i := by rw [ea, List.length_take]; omega
        refine BIf_cases (fun hgt => ?_) (fun hle2 => ?_)
        · refine push_sl E38 (by decide) hsl hf.size rfl (by intro u hu; simp [Value.cells] at hu; subst hu; rfl) (by simp only [maxLen]; omega) (by omega) ?_
          intro p' c' w4 hsl4 hf4 hon4
          rw [AsSl_slice]
          refine ⟨true, p', c', acc ++ [t], by simp, by simp; omega, (fun h => by cases h), fun _ => ?_, ?_, hf.own hf4 (fun b hb hlt => by have := (hsl.lt b hb).1; omega)⟩
          · rw [putL_at (i := i) hle (fun x hx => by rw [List.getElem?_eq_getElem hil] at hx; injection hx with hx; omega) (by omega), ea]; simp
          · have e : i64n (acc ++ [t]) = i64n acc ++ [.int .i64 ((t : Nat) : Int)] := by simp [i64n]
            rw [List.length_append, e]; exact hsl4
        · refine ⟨dn, q, d, acc, rfl, hal, fun _ => ⟨ea, fun j x hj hx => ?_⟩, h2, hsl, hf⟩
          by_cases e : j = i
          · subst e; rw [List.getElem?_eq_getElem hil] at hx; injection hx with hx; omega
          · exact hle j x (by omega) hx
    · rintro _ w2 ⟨dn2, q2, d2, acc2, rfl, hal2, k1, k2, hsl2, hf2⟩
      have hS2 := hS.fr0 hf2
      simp only [UnC_cons, UnN_nil, AsSl_slice, AsB_bool]
      refine hS2.st.ld rfl ?_
      rw [AsSl_slice]
      refine Rd.nat hS2.rd (List.getElem?_eq_getElem hil) ?_
      refine push_sl E38 (by decide) hsl2 hf2.size rfl (by intro u hu; simp [Value.cells] at hu; subst hu; rfl) (by simp only [maxLen]; omega) (by omega) ?_
      intro p' c' w4 hsl4 hf4 hon4
      rw [AsSl_slice, w64 (n := (i : Int) + 1) (by omega) (by omega)]
      refine ⟨⟨i + 1, dn2, p', c', acc2 ++ [L[i]], by simp, by omega, by simp; omega, fun h => ⟨?_, (k1 h).2⟩, fun h => ?_, ?_, hf2.own hf4 (fun b hb hlt => by have := (hsl2.lt b hb).1; omega)⟩, ?_⟩
      · rw [(k1 h).1, List.take_add_one, List.getElem?_eq_getElem hil]; rfl
      · rw [← k2 h, List.append_assoc, List.drop_eq_getElem_cons hil]; rfl
      · have e : i64n (acc2 ++ [L[i]]) = i64n acc2 ++ [.int .i64 ((L[i] : Nat) : Int)] := by simp [i64n]
        rw [List.length_append, e]; exact hsl4
      · show L.length - ((i : Int) + 1).toNat < L.length - (i : Int).toNat
        omega
  · have hi2 : i = L.length := by omega
    subst hi2
    refine Join.at (fun s w' => ∃ (q : Option Addr) (d : Nat), s = [.slice q (putL t L).length d] ∧ Sl w' w.heap.size 3 1 q (putL t L).length d (i64n (putL t L)) ∧ Fr0 w w') ?_ ?_
    · rw [BIf_not]
      refine BIf_b (fun hd => ?_) (fun hd => ?_)
      · have e := h2 hd
        rw [List.drop_length, List.append_nil] at e
        subst e
        exact ⟨q, d, rfl, hsl, hf⟩
      · obtain ⟨ea, hle⟩ := h1 hd
        rw [List.take_length] at ea
        have e : putL t L = L ++ [t] := by rw [putL_at (i := L.length) hle (fun x hx => by rw [List.getElem?_eq_none (Nat.le_refl _)] at hx; cases hx) (Nat.le_refl _)]; simp
        subst ea
        refine push_sl E38 (by decide) hsl hf.size rfl (by intro u hu; simp [Value.cells] at hu; subst hu; rfl) (by simp only [maxLen]; omega) (by omega) ?_
        intro p' c' w4 hsl4 hf4 hon4
        rw [AsSl_slice]
        refine ⟨p', c', by rw [e]; simp, ?_, hf.own hf4 (fun b hb hlt => by have := (hsl.lt b hb).1; omega)⟩
        have e2 : i64n (acc ++ [t]) = i64n acc ++ [.int .i64 ((t : Nat) : Int)] := by simp [i64n]
        rw [e, List.length_append, e2]; exact hsl4
    · rintro _ w2 ⟨q2, d2, rfl, hsl2, hf2⟩
      simp only [UnC_cons, UnN_nil, AsSl_slice]
      refine (hS.fr0 hf2).st.st (by simp) rfl fun w3 st3 f3 s3 => ?_
      have hon : ∀ x, On q2 x → w.heap.size ≤ x := fun x hx => (hsl2.lt x hx).1
      refine ⟨by trivial, q2, d2, ⟨st3, (hsl2.mono (Nat.zero_le _)).fr f3 fun x hx h => by have := hon x hx; omega, fun h => by have := hon _ h; omega⟩, (hf2.mono fun _ _ h => h.elim).trans f3, hon⟩
end Go.Proofs.YthpodlcbikialaaDoor

set_option linter.unusedVariables false
set_option linter.unusedSimpArgs false
namespace Go.Proofs.YthpodlcbikialaaDoor
open Go Go.Sh Go.Fr

theorem mem_set_tabs {l : List Qr} {i k : Nat} {q : Qr} (hq : l[i]? = some q) (hk : k < 4) {x : Nat} : x ∈ tabs (l.set i (q.set k true)) ↔ x = 4 * q.f + k ∨ x ∈ tabs l := by
  have hil := (List.getElem?_eq_some_iff.1 hq).1
  have hy : (l.set i (q.set k true))[i]? = some (q.set k true) := by simp [hil]
  have hm : x ∈ (q.set k true).tabs 4 ↔ x = 4 * q.f + k ∨ x ∈ q.tabs 4 := by
    simp only [mem_qtabs]
    constructor
    · rintro ⟨k', hk', hu, rfl⟩
      by_cases e : k' = k
      · subst e; exact .inl rfl
      · simp only [Qr.set, if_neg e] at hu
        exact .inr ⟨k', hk', hu, rfl⟩
    · rintro (rfl | ⟨k', hk', hu, rfl⟩)
      · exact ⟨k, hk, by simp [Qr.set], rfl⟩
      · refine ⟨k', hk', ?_, rfl⟩
        simp only [Qr.set]; split
        · rfl
        · exact hu
  rw [tabs_cut hy, tabs_cut hq, List.take_set_of_le (Nat.le_refl _), List.drop_set_of_lt (by omega)]
  simp only [List.mem_append, hm]
  constructor
  · rintro (h | (h | h) | h)
    · exact .inr (.inl h)
    · exact .inl h
    · exact .inr (.inr (.inl h))
    · exact .inr (.inr (.inr h))
  · rintro (h | h | h | h)
    · exact .inr (.inl (.inl h))
    · exact .inl h
    · exact .inr (.inl (.inr h))
    · exact .inr (.inr h)
theorem ins_iff {f : Nat} {q : Qr} : ∀ {l : List Qr}, q ∈ insq f l ↔ q = Qr.new f ∨ q ∈ l
  | [] => by simp [insq]
  | x :: r => by
    unfold insq
    split
    · simp only [List.mem_cons, ins_iff (l := r)]
      constructor
      · rintro (h | h | h)
        · exact .inr (.inl h)
        · exact .inl h
        · exact .inr (.inr h)
      · rintro (h | h | h)
        · exact .inr (.inl h)
        · exact .inl h
        · exact .inr (.inr h)
    · simp
theorem mem_ins_tabs {l : List Qr} {f x : Nat} : x ∈ tabs (insq f l) ↔ x = 4 * f ∨ x ∈ tabs l := by
  simp only [mem_tabs]
  constructor
  · rintro ⟨q, hq, k, hk, hu, rfl⟩
    rcases ins_iff.1 hq with rfl | hq
    · have : k = 0 := by simpa [Qr.new] using hu
      subst this; exact .inl rfl
    · exact .inr ⟨q, hq, k, hk, hu, rfl⟩
  · rintro (rfl | ⟨q, hq, k, hk, hu, rfl⟩)
    · exact ⟨Qr.new f, ins_iff.2 (.inl rfl), 0, by decide, rfl, rfl⟩
    · exact ⟨q, ins_iff.2 (.inr hq), k, hk, hu, rfl⟩
theorem ins_rise {f : Nat} : ∀ {l : List Qr}, l.Pairwise (fun a b => a.f < b.f) → (∀ q ∈ l, q.f ≠ f) → (insq f l).Pairwise fun a b => a.f < b.f
  | [], _, _ => by simp [insq]
  | x :: r, h, hn => by
    obtain ⟨h1, h2⟩ := List.pairwise_cons.1 h
    have hx := hn x (by simp)
    unfold insq
    split
    · refine List.pairwise_cons.2 ⟨fun y hy => ?_, ins_rise h2 fun q hq => hn q (by simp [hq])⟩
      rcases ins_iff.1 hy with rfl | hy
      · assumption
      · exact h1 y hy
    · refine List.pairwise_cons.2 ⟨fun y hy => ?_, h⟩
      rcases List.mem_cons.1 hy with rfl | hy
      · show f < y.f; omega
      · have := h1 y hy; show f < y.f; omega
theorem SlabOk.insq {l : List Qr} (h : SlabOk l) {f : Nat} (hf : f < 268435456) (hn : ∀ q ∈ l, q.f ≠ f) : SlabOk (insq f l) := by
  refine ⟨fun q hq => ?_, ins_rise h.rise hn, fun q hq => ?_⟩
  · rcases ins_iff.1 hq with rfl | hq
    · exact hf
    · exact h.lt q hq
  · rcases ins_iff.1 hq with rfl | hq
    · exact ⟨0, by decide, rfl⟩
    · exact h.any q hq
/-- the document's slab and pool -/
def ROwnS (b bu s : Nat) (g : Option Addr) (x : Nat) : Prop := ROwn b bu x ∨ Sb s g x
theorem f57 {w : World} {b bu s c : Nat} {g : Option Addr} {p : Pool} {l : List Qr} (hP : RPoolAt w b bu p) (hok : SlabOk l) (hH : Held p l) (hS : RSlabAt w s b g c (tabs l)) (hsep : ∀ x, Sb s g x → ¬ ROwn b bu x) :
    Ret prog 57 #[.pointer (some ⟨s, 0, none⟩)] w fun v w' => ∃ (r e : Nat) (p' : Pool) (l' : List Qr) (g' : Option Addr) (c' : Nat), v = .tuple #[.int .i64 (r : Int), .int .i64 (e : Int)] ∧ STake p l r e p' l' ∧ RPoolAt w' b bu p' ∧ RSlabAt w' s b g' c' (tabs l') ∧ Fr (ROwnS b bu s g) w w' ∧ ∀ x, On g' x → On g x ∨ w.heap.size ≤ x := by
  have hN := hok.len
  have hT4 := tabs_len l
  have hL := hP.ok.le
  have hslt := hS.st.lt
  refine F57_of _ _ _ ?_
  unfold F57
  refine Ret.use (f60 hok hS) ?_
  rintro v w1 ⟨fq, fc, rfl, sl1, hf1⟩
  rw [AsSl_slice]
  have hS1 := hS.fr0 hf1
  have hP1 := hP.fr0 hf1
  have hfl : (l.map Qr.f).length = l.length := List.length_map _
  have hfn : ∀ x, On fq x → w.heap.size ≤ x := fun x hx => (sl1.lt x hx).1
  refine Loop.by (fun s w' => ∃ (i : Nat) (a b : Int), s = [.int .i64 (i : Int), .int .i64 a, .int .i64 b] ∧ i ≤ l.length ∧ w' = w1 ∧ ∀ i' q', i' < i → l[i']? = some q' → ∀ k', k' < 4 → q'.u k' = true)
    (fun s _ => match s with | [.int _ k, _, _] => l.length - k.toNat | _ => 0)
    ⟨0, 0, 0, rfl, by omega, rfl, fun i' q' h => by omega⟩ ?_
  rintro _ _ ⟨i, a, b', rfl, hi, hw, hfull⟩
  obtain rfl := hw.symm
  simp only [UnC_cons, UnN_nil, AsI_int]
  refine BIf_cases (fun hlt => ?_) (fun hge => ?_)
  · have hil : i < l.length := by omega
    obtain ⟨q, hq⟩ : ∃ q, l[i]? = some q := ⟨_, List.getElem?_eq_getElem hil⟩
    have hqm := List.mem_of_getElem? hq
    have hqf := hok.lt q hqm
    have hfi : (l.map Qr.f)[i]? = some q.f := by rw [List.getElem?_map, hq]; rfl
    refine Loop.by (fun s w' => ∃ (k : Nat) (a b : Int), s = [.int .i64 (k : Int), .int .i64 a, .int .i64 b] ∧ k ≤ 4 ∧ w' = w1 ∧ ∀ k', k' < k → q.u k' = true)
      (fun s _ => match s with | [.int _ k, _, _] => 4 - k.toNat | _ => 0)
      ⟨0, a, b', rfl, by omega, rfl, fun k' h => by omega⟩ ?_
    rintro _ _ ⟨k, a, b', rfl, hk, hw, hused⟩
    obtain rfl := hw.symm
    simp only [UnC_cons, UnN_nil, AsI_int]
    refine BIf_cases (fun hlt => ?_) (fun hge => ?_)
    · have hk4 : k < 4 := by omega
      have et : IntKind.i64.wrap (IntKind.i64.wrap ((4 : Int) * ((q.f : Nat) : Int)) + (k : Int)) = ((4 * q.f + k : Nat) : Int) := by
        rw [w64 (n := (4 : Int) * ((q.f : Nat) : Int)) (by omega) (by omega), w64 (by omega) (by omega)]; omega
      rw [← hfl]
      refine Rd.nat sl1.rd hfi ?_
      rw [et]
      refine Ret.use (f73 hS1 (by omega) _) ?_
      rintro v w2 ⟨⟨r, rfl, hr⟩, hw⟩
      obtain rfl := hw.symm
      rw [AsB_bool, BIf_not]
      have hr' : r = true ↔ q.u k = true := by
        rw [hr, ← has_tab hok hqm hk4]
        constructor
        · rintro ⟨x, hx, e⟩; have : x = 4 * q.f + k := by omega
          subst this; exact hx
        · intro h; exact ⟨_, h, rfl⟩
      refine BIf_b (fun hb => ?_) (fun hb => ?_)
      · rw [w64 (n := (k : Int) + 1) (by omega) (by omega)]
        refine ⟨⟨k + 1, a, b', by trivial, by omega, by trivial, fun k' hk' => ?_⟩, ?_⟩
        · by_cases e : k' = k
          · subst e; exact hr'.1 hb
          · exact hused k' (by omega)
        · show 4 - ((k : Int) + 1).toNat < 4 - (k : Int).toNat
          omega
      · have hu : q.u k = false := by
          cases h : q.u k
          · rfl
          · rw [hr'.2 h] at hb; cases hb
        refine Rd.nat sl1.rd hfi ?_
        rw [et]
        refine Ret.use (f74 hS1 (by omega) _) ?_
        rintro v w3 ⟨rfl, g', c', hS3, hf3, hon3⟩
        rw [show Value.tuple #[] = .tuple [].toArray from rfl]
        simp only [AsTup_tuple, UnN_nil]
        have hrd3 : Rd w3 fq (i64n (l.map Qr.f)) := sl1.rd.fr hf3 fun x hx h => by have := hfn x hx; omega
        refine Rd.nat hrd3 hfi ?_
        rw [et]
        have hokn := hok.set hq hk4
        have hput : putL (4 * q.f + k) (tabs l) = tabs (l.set i (q.set k true)) := by
          refine rise_ext (putL_rise (tabs_rise hok.rise) fun hm => ?_) (tabs_rise hokn.rise) fun x => ?_
          · rw [has_tab hok hqm hk4, hu] at hm; cases hm
          · rw [mem_putL, mem_set_tabs hq hk4]
        rw [hput] at hS3
        refine ⟨4 * q.f + k, 0, p, _, g', c', rfl, .old i k q hq hk4 hu hused hfull, hP1.fr hf3 fun x hx h => hsep s (.inl rfl) (h ▸ hx), hS3, ?_, fun x hx => .inr (by have := hon3 x hx; have := hf1.size; omega)⟩
        exact (hf1.mono fun _ _ h => h.elim).trans (hf3.mono fun x _ h => .inr (.inl h))
    · rw [w64 (n := (i : Int) + 1) (by omega) (by omega)]
      refine ⟨⟨i + 1, a, b', by trivial, by omega, by trivial, fun i' q' h h2 => ?_⟩, ?_⟩
      · by_cases e : i' = i
        · subst e; rw [hq] at h2; injection h2 with h2; subst h2; exact fun k' hk' => hused k' (by omega)
        · exact hfull i' q' (by omega) h2
      · show l.length - ((i : Int) + 1).toNat < l.length - (i : Int).toNat
        omega
  · have hi2 : i = l.length := by omega
    subst hi2
    have hall : ∀ q ∈ l, ∀ k, k < 4 → q.u k = true := by
      intro q hq
      obtain ⟨j, hj, rfl⟩ := List.getElem_of_mem hq
      exact hfull j _ hj (List.getElem?_eq_getElem hj)
    simp only [at0_mk, Nat.zero_add]
    refine hS1.st.ld rfl ?_
    rw [AsP_pointer]
    refine Ret.use (f53 hP1 1 1 ⟨by omega, by omega⟩) ?_
    rintro v w2 ⟨r, e, p', rfl, ht, hP2, hf2⟩
    simp only [AsTup_tuple, UnC_cons, UnN_nil, AsI_int]
    have hS2 := hS1.fr hf2 fun x hx h => hsep x hx (.inr h)
    have hf02 : Fr (ROwnS b bu s g) w w2 := (hf1.mono fun _ _ h => h.elim).trans (hf2.mono fun x _ h => .inl (.inr h))
    cases ht with
    | bad h => exact absurd h badTake11
    | none _ hno =>
      refine BIf_ne (fun _ => ?_) (fun h => by cases h)
      exact ⟨0, 42, p, l, g, c, rfl, .none hall hno, hP2, hS2, hf02, fun x hx => .inl hx⟩
    | ok _ a1 hfit hleast =>
      refine BIf_ne (fun h => absurd rfl h) (fun _ => ?_)
      have ha : a1 + 1 ≤ p.u.length := hfit.2.1
      have h0 : p.u.getD a1 0 = 0 := hfit.2.2 a1 (Nat.le_refl _) (by show a1 < a1 + 1; omega)
      have hnew : ∀ q ∈ l, q.f ≠ p.first + a1 := by
        intro q hq e
        obtain ⟨h1, h2, h3⟩ := hH q hq
        rw [e, Nat.add_sub_cancel_left, h0] at h3
        omega
      rw [w64 (n := (4 : Int) * ((p.first + a1 : Nat) : Int)) (by omega) (by omega), show (4 : Int) * ((p.first + a1 : Nat) : Int) = ((4 * (p.first + a1) : Nat) : Int) by omega]
      refine Ret.use (f74 hS2 (by omega) _) ?_
      rintro v w3 ⟨rfl, g', c', hS3, hf3, hon3⟩
      rw [show Value.tuple #[] = .tuple [].toArray from rfl]
      simp only [AsTup_tuple, UnN_nil]
      have hokn := hok.insq (f := p.first + a1) (by omega) hnew
      have hput : putL (4 * (p.first + a1)) (tabs l) = tabs (insq (p.first + a1) l) := by
        refine rise_ext (putL_rise (tabs_rise hok.rise) fun hm => ?_) (tabs_rise hokn.rise) fun x => ?_
        · obtain ⟨q, hq, k, hk, _, e⟩ := mem_tabs.1 hm
          exact hnew q hq (by omega)
        · rw [mem_putL, mem_ins_tabs]
      rw [hput] at hS3
      refine ⟨4 * (p.first + a1), 0, _, _, g', c', rfl, .fresh hall a1 hfit hleast, hP2.fr hf3 fun x hx h => hsep s (.inl rfl) (h ▸ hx), hS3, hf02.trans (hf3.mono fun x _ h => .inr (.inl h)), fun x hx => .inr ?_⟩
      have := hon3 x hx; have := hf1.size; have := hf2.size; omega
theorem drop_case {p : Pool} {l : List Qr} (hok : SlabOk l) {x : Nat} (hx : x ∈ tabs l) : (∃ l', SDrop p l (x : Int) 0 p l' ∧ ∃ y ∈ tabs l, y ≠ x ∧ y / 4 = x / 4) ∨
    (∃ l', SDrop p l (x : Int) 0 (p.turned (x / 4 - p.first) (· - 1) 1) l' ∧ (∀ y ∈ tabs l, y ≠ x → y / 4 ≠ x / 4) ∧ ∃ q ∈ l, q.f = x / 4) := by
  obtain ⟨q, hq, k, hk, hu, rfl⟩ := mem_tabs.1 hx
  obtain ⟨i, hi, e⟩ := List.getElem_of_mem hq
  have hqi : l[i]? = some q := by rw [List.getElem?_eq_getElem hi, e]
  by_cases h : ∃ k', k' < 4 ∧ k' ≠ k ∧ q.u k' = true
  · obtain ⟨k', h1, h2, h3⟩ := h
    exact .inl ⟨_, .more i k q hqi hk hu (by omega) ⟨k', h1, h2, h3⟩, 4 * q.f + k', mem_tabs.2 ⟨q, hq, k', h1, h3, rfl⟩, by omega, by omega⟩
  · have hm : ∀ k', k' < 4 → k' ≠ k → q.u k' = false := by
      intro k' h1 h2
      cases h3 : q.u k'
      · rfl
      · exact absurd ⟨k', h1, h2, h3⟩ h
    refine .inr ⟨l.take i ++ l.drop (i + 1), ?_, fun y hy hne e => ?_, q, hq, by omega⟩
    · rw [show (4 * q.f + k) / 4 = q.f by omega]
      exact .last i k q hqi hk hu (by omega) hm
    · obtain ⟨q', hq', k', hk', hu', rfl⟩ := mem_tabs.1 hy
      have := same_f hok hq' hq (by omega)
      subst this
      have hkk : k' ≠ k := fun e => hne (by rw [e])
      rw [hm k' hk' hkk] at hu'; cases hu'
theorem f58 {w : World} {b bu s c : Nat} {g : Option Addr} {p : Pool} {l : List Qr} (hP : RPoolAt w b bu p) (hok : SlabOk l) (hH : Held p l) (hS : RSlabAt w s b g c (tabs l)) (hsep : ∀ x, Sb s g x → ¬ ROwn b bu x) (t : Int) (ht : I64 t) :
    Ret prog 58 #[.pointer (some ⟨s, 0, none⟩), .int .i64 t] w fun v w' => ∃ (e : Nat) (p' : Pool) (l' : List Qr) (g' : Option Addr) (c' : Nat), v = .int .i64 (e : Int) ∧ SDrop p l t e p' l' ∧ RPoolAt w' b bu p' ∧ RSlabAt w' s b g' c' (tabs l') ∧ Fr (ROwnS b bu s g) w w' ∧ ∀ x, On g' x → On g x ∨ w.heap.size ≤ x := by
  have hN := hok.len
  have hT4 := tabs_len l
  have hL := hP.ok.le
  have hslt := hS.st.lt
  refine F58_of _ _ _ _ ?_
  unfold F58
  refine Ret.use (f73 hS (by omega) t) ?_
  rintro v w1 ⟨⟨r, rfl, hr⟩, hw⟩
  obtain rfl := hw.symm
  rw [AsB_bool, BIf_not]
  refine BIf_b (fun hb => ?_) (fun hb => ?_)
  rotate_left
  · refine ⟨45, p, l, g, c, rfl, .none fun q hq k hk hu e => ?_, hP, hS, Fr.refl _ _, fun x hx => .inl hx⟩
    have := hr.2 ⟨4 * q.f + k, mem_tabs.2 ⟨q, hq, k, hk, hu, rfl⟩, by omega⟩
    rw [hb] at this; cases this
  obtain ⟨x, hx, rfl⟩ := hr.1 hb
  have hxl := tabs_lt hok hx
  have e4 : ∀ y : Nat, y < 1073741824 → IntKind.i64.wrap (((y : Nat) : Int).tdiv 4) = ((y / 4 : Nat) : Int) := by
    intro y hy
    rw [IntWalk.i64_quo _ _ ⟨by omega, by omega, by omega⟩]; omega
  simp only [at0_mk, Nat.zero_add]
  rw [e4 x hxl]
  refine Loop.by (fun s w' => ∃ (i : Nat) (more : Bool) (q : Option Addr) (d : Nat), s = [.int .i64 (i : Int), .bool more, .slice q (((tabs l).take i).filter fun y => decide (y ≠ x)).length d] ∧ i ≤ (tabs l).length ∧ (((tabs l).take i).filter fun y => decide (y ≠ x)).length ≤ i ∧
      (more = true ↔ ∃ y ∈ (tabs l).take i, y ≠ x ∧ y / 4 = x / 4) ∧ Sl w' w.heap.size 3 1 q (((tabs l).take i).filter fun y => decide (y ≠ x)).length d (i64n (((tabs l).take i).filter fun y => decide (y ≠ x))) ∧ Fr0 w w')
    (fun s _ => match s with | [.int _ x, _, _] => (tabs l).length - x.toNat | _ => 0)
    ⟨0, false, none, 0, rfl, by omega, by simp, by simp, Sl.nil _ _ _ _, Fr.refl _ _⟩ ?_
  rintro _ w1 ⟨i, more, q, d, rfl, hi, hal, hmore, hsl, hf⟩
  have hS1 := hS.fr0 hf
  simp only [UnC_cons, UnN_nil, AsI_int, AsSl_slice, AsB_bool]
  refine hS1.st.ld rfl ?_
  rw [AsSl_slice]
  refine BIf_cases (fun hlt => ?_) (fun hge => ?_)
  · have hil : i < (tabs l).length := by omega
    have hyl := tabs_lt hok (List.getElem_mem hil)
    have htk : (tabs l).take (i + 1) = (tabs l).take i ++ [(tabs l)[i]] := by rw [List.take_add_one, List.getElem?_eq_getElem hil]; rfl
    refine Join.triv ?_
    refine hS1.st.ld rfl ?_
    rw [AsSl_slice]
    refine Rd.nat hS1.rd (List.getElem?_eq_getElem hil) ?_
    simp only [UnC_cons, UnN_nil, AsSl_slice, AsB_bool]
    rw [w64 (n := (i : Int) + 1) (by omega) (by omega)]
    have hm : (tabs l).length - ((i : Int) + 1).toNat < (tabs l).length - (i : Int).toNat := by omega
    refine BIf_ne (fun hne => ?_) (fun heq => ?_)
    · have hstep : ((tabs l).take (i + 1)).filter (fun y => decide (y ≠ x)) = ((tabs l).take i).filter (fun y => decide (y ≠ x)) ++ [(tabs l)[i]] := by
        rw [htk, List.filter_append, List.filter_cons, if_pos (by simp; omega)]; rfl
      refine hS1.st.ld rfl ?_
      rw [AsSl_slice]
      refine Rd.nat hS1.rd (List.getElem?_eq_getElem hil) ?_
      refine push_sl E38 (by decide) hsl hf.size rfl (by intro u hu; simp [Value.cells] at hu; subst hu; rfl) (by simp only [maxLen]; omega) (by omega) ?_
      intro p' c' w4 hsl4 hf4 hon4
      rw [AsSl_slice]
      have hf04 : Fr0 w w4 := hf.own hf4 (fun b hb hlt => by have := (hsl.lt b hb).1; omega)
      have fin : ∀ m' : Bool, (m' = true ↔ ∃ y ∈ (tabs l).take (i + 1), y ≠ x ∧ y / 4 = x / 4) → (∃ (i_1 : Nat) (more : Bool) (q_1 : Option Addr) (d_1 : Nat), [Value.int .i64 ((i : Int) + 1), .bool m', .slice p' ((((tabs l).take i).filter fun y => decide (y ≠ x)).length + 1) c'] = [.int .i64 (i_1 : Int), .bool more, .slice q_1 (((tabs l).take i_1).filter fun y => decide (y ≠ x)).length d_1] ∧ i_1 ≤ (tabs l).length ∧ (((tabs l).take i_1).filter fun y => decide (y ≠ x)).length ≤ i_1 ∧
          (more = true ↔ ∃ y ∈ (tabs l).take i_1, y ≠ x ∧ y / 4 = x / 4) ∧ Sl w4 w.heap.size 3 1 q_1 (((tabs l).take i_1).filter fun y => decide (y ≠ x)).length d_1 (i64n (((tabs l).take i_1).filter fun y => decide (y ≠ x))) ∧ Fr0 w w4) := by
        intro m' hm'
        refine ⟨i + 1, m', p', c', by rw [hstep, List.length_append]; rfl, by omega, by rw [hstep, List.length_append, List.length_singleton]; omega, hm', ?_, hf04⟩
        rw [hstep, List.length_append]
        have e : i64n (((tabs l).take i).filter (fun y => decide (y ≠ x)) ++ [(tabs l)[i]]) = i64n (((tabs l).take i).filter fun y => decide (y ≠ x)) ++ [.int .i64 (((tabs l)[i] : Nat) : Int)] := by simp [i64n]
        rw [e]; exact hsl4
      refine BIf_b (fun hb => ?_) (fun hb => ?_)
      · refine ⟨fin true ?_, hm⟩
        simp only [true_iff]
        obtain ⟨y, hy, h1, h2⟩ := hmore.1 hb
        exact ⟨y, by rw [htk]; exact List.mem_append.2 (.inl hy), h1, h2⟩
      · have hS4 := hS.fr0 hf04
        refine hS4.st.ld rfl ?_
        rw [AsSl_slice]
        refine Rd.nat hS4.rd (List.getElem?_eq_getElem hil) ?_
        rw [e4 _ hyl]
        refine ⟨fin _ ?_, hm⟩
        rw [beq_iff_eq]
        constructor
        · intro h; exact ⟨(tabs l)[i], by rw [htk]; exact List.mem_append.2 (.inr (List.mem_singleton.2 rfl)), by omega, by omega⟩
        · rintro ⟨y, hy, h1, h2⟩
          rw [htk, List.mem_append, List.mem_singleton] at hy
          rcases hy with hy | rfl
          · have := hmore.2 ⟨y, hy, h1, h2⟩; rw [hb] at this; cases this
          · omega
    · have hxe : (tabs l)[i] = x := by omega
      have hstep : ((tabs l).take (i + 1)).filter (fun y => decide (y ≠ x)) = ((tabs l).take i).filter (fun y => decide (y ≠ x)) := by
        rw [htk, List.filter_append, List.filter_cons, if_neg (by simp [hxe])]; simp
      refine ⟨⟨i + 1, more, q, d, by rw [hstep]; rfl, by omega, by rw [hstep]; omega, ?_, by rw [hstep]; exact hsl, hf⟩, hm⟩
      rw [hmore, htk]
      constructor
      · rintro ⟨y, hy, h1, h2⟩; exact ⟨y, List.mem_append.2 (.inl hy), h1, h2⟩
      · rintro ⟨y, hy, h1, h2⟩
        rw [List.mem_append, List.mem_singleton] at hy
        rcases hy with hy | rfl
        · exact ⟨y, hy, h1, h2⟩
        · exact absurd hxe h1
  · have hi2 : i = (tabs l).length := by omega
    rw [hi2, List.take_length] at hmore hsl hal ⊢
    have hon : ∀ y, On q y → w.heap.size ≤ y := fun y hy => (hsl.lt y hy).1
    refine hS1.st.st (by simp) rfl fun w2 st2 f2 s2 => ?_
    have hS2 : RSlabAt w2 s b q d ((tabs l).filter fun y => decide (y ≠ x)) := ⟨st2, (hsl.mono (Nat.zero_le _)).fr f2 fun y hy h => by have := hon y hy; omega, fun h => by have := hon _ h; omega⟩
    have hf02 : Fr (ROwnS b bu s g) w w2 := (hf.mono fun _ _ h => h.elim).trans (f2.mono fun y _ h => .inr (.inl h))
    have hP2 := (hP.fr0 hf).fr f2 fun y hy h => hsep s (.inl rfl) (h ▸ hy)
    rw [BIf_not]
    refine BIf_b (fun hb => ?_) (fun hb => ?_)
    · rcases drop_case (p := p) hok hx with ⟨l', hd, _⟩ | ⟨l', _, hno, _⟩
      · rcases hd.tabs_eq hok rfl with ⟨h, _⟩ | ⟨_, _, htab⟩
        · cases h
        rw [← htab] at hS2
        exact ⟨0, p, l', q, d, rfl, hd, hP2, hS2, hf02, fun y hy => .inr (hon y hy)⟩
      · obtain ⟨y, hy, h1, h2⟩ := hmore.1 hb
        exact absurd h2 (hno y hy h1)
    · rcases drop_case (p := p) hok hx with ⟨l', _, y, hy, h1, h2⟩ | ⟨l', hd, _, q0, hq0, hq0f⟩
      · have := hmore.2 ⟨y, hy, h1, h2⟩; rw [hb] at this; cases this
      · rcases hd.tabs_eq hok rfl with ⟨h, _⟩ | ⟨_, _, htab⟩
        · cases h
        rw [← htab] at hS2
        obtain ⟨m1, m2, m3⟩ := hH q0 hq0
        rw [hq0f] at m1 m2 m3
        have hrun := run_held m1 m2 m3
        refine hS2.st.ld rfl ?_
        rw [AsP_pointer]
        refine Ret.use (f56 hP2 ((x / 4 : Nat) : Int) 1 ⟨by omega, by omega⟩ ⟨by omega, by omega⟩) ?_
        rintro v w3 ⟨(⟨hbad, _⟩ | ⟨_, rfl, hP3⟩), hf3⟩
        · exact absurd (by rw [hrun]) hbad
        simp only [AsTup_tuple, UnC_cons, UnN_nil, AsI_int]
        have e5 : (((x / 4 : Nat) : Int) - (p.first : Int)).toNat = x / 4 - p.first := by omega
        rw [e5] at hP3
        have hlt := hP.lt
        refine ⟨0, _, l', q, d, rfl, hd, hP3, hS2.fr hf3 ?_, hf02.trans (hf3.mono fun y _ h => .inl (.inr h)), fun y hy => .inr (hon y hy)⟩
        rintro y (rfl | hy) h
        · exact hsep y (.inl rfl) (.inr h)
        · have := hon y hy; have := hlt y (.inr h); omega
end Go.Proofs.YthpodlcbikialaaDoor

set_option linter.unusedVariables false
set_option linter.unusedSimpArgs false
namespace Go.Proofs.YthpodlcbikialaaDoor
open Go Go.Sh Go.Fr

/-! ## the pool with two slabs, and the document's -/
structure Nm where
  b : Nat
  bu : Nat
  bd : Nat
  rb : Nat
  rbu : Nat
  x : Nat
  bs : Nat
  bt : Nat
  cs : Nat
  ct : Nat
  ls : List Value
  lt : List Value
def Stat (N : Nm) (y : Nat) : Prop := y = N.x ∨ y = N.bs ∨ y = N.bt
structure Both (w0 w : World) (N : Nm) (lab : Nat → Nat) (sa sb ra rc : Nat) (ga gb gra grc : Option Addr) (ca cb cra crc : Nat) (la lb : List Qr) (p : Pool) (ma mb : List Qr) (r : Pool) : Prop where
  two : Two w0 w N.b N.bu N.bd sa sb ga gb ca cb la lb p
  rp : RPoolAt w N.rb N.rbu r
  RA : RSlabAt w ra N.rb gra cra (tabs ma)
  RC : RSlabAt w rc N.rb grc crc (tabs mb)
  okA : SlabOk ma
  okB : SlabOk mb
  hRA : Held r ma
  hRB : Held r mb
  dj : ∀ q ∈ ma, ∀ q' ∈ mb, q.f ≠ q'.f
  bx : Has w N.x [.pointer (some ⟨N.b, 0, none⟩), .pointer (some ⟨N.rb, 0, none⟩), .slice (some ⟨N.bs, 0, none⟩) 2 N.cs, .slice (some ⟨N.bt, 0, none⟩) 2 N.ct]
  ss : Rd w (some ⟨N.bs, 0, none⟩) N.ls
  tt : Rd w (some ⟨N.bt, 0, none⟩) N.lt
  l1 : ∀ y, Own N.b N.bu N.bd y → lab y = 1
  l2 : ∀ y, Sb sa ga y → lab y = 2
  l3 : ∀ y, Sb sb gb y → lab y = 3
  l4 : ∀ y, ROwn N.rb N.rbu y → lab y = 4
  l5 : ∀ y, Sb ra gra y → lab y = 5
  l6 : ∀ y, Sb rc grc y → lab y = 6
  l7 : ∀ y, Stat N y → lab y = 7
  st : ∀ y, Stat N y → y < w.heap.size
  lo : ∀ y, ROwn N.rb N.rbu y ∨ Sb ra gra y ∨ Sb rc grc y ∨ Stat N y → w0.heap.size ≤ y
theorem Two.frT {w0 w w' : World} {b bu bd sa sb : Nat} {ga gb : Option Addr} {ca cb : Nat} {la lb : List Qr} {p : Pool} {T : Nat → Prop} (h : Two w0 w b bu bd sa sb ga gb ca cb la lb p) (f : Fr T w w') (hT : ∀ y, T y → ¬ Own b bu bd y ∧ ¬ Sb sa ga y ∧ ¬ Sb sb gb y) (hlo : ∀ y, T y → w0.heap.size ≤ y) :
    Two w0 w' b bu bd sa sb ga gb ca cb la lb p :=
  ⟨h.pool.fr f (fun ht => (hT _ ht).1 (.inl rfl)) (fun ht => (hT _ ht).1 (.inr (.inl rfl))) (fun ht => (hT _ ht).1 (.inr (.inr rfl))), h.A.fr f (fun ht => (hT _ ht).2.1 (.inl rfl)) fun y hy ht => (hT _ ht).2.1 (.inr hy),
    h.B.fr f (fun ht => (hT _ ht).2.2 (.inl rfl)) fun y hy ht => (hT _ ht).2.2 (.inr hy), h.hA, h.hB, h.dj, h.sab, h.sbp, h.lo, Fr.news h.fr f hlo, h.tz⟩
section
variable {w0 w w' : World} {N : Nm} {lab : Nat → Nat} {sa sb ra rc : Nat} {ga gb gra grc : Option Addr} {ca cb cra crc : Nat} {la lb ma mb : List Qr} {p r : Pool}
theorem Both.onS (h : Both w0 w N lab sa sb ra rc ga gb gra grc ca cb cra crc la lb p ma mb r) {T : Nat → Prop} (f : Fr T w w') (hT : ∀ y, T y → lab y ≠ 7) :
    Has w' N.x [.pointer (some ⟨N.b, 0, none⟩), .pointer (some ⟨N.rb, 0, none⟩), .slice (some ⟨N.bs, 0, none⟩) 2 N.cs, .slice (some ⟨N.bt, 0, none⟩) 2 N.ct] ∧ Rd w' (some ⟨N.bs, 0, none⟩) N.ls ∧ Rd w' (some ⟨N.bt, 0, none⟩) N.lt := by
  refine ⟨h.bx.fr f fun ht => hT _ ht (h.l7 _ (.inl rfl)), h.ss.fr f ?_, h.tt.fr f ?_⟩
  · rintro y ⟨a, ha, rfl⟩ ht
    injection ha with ha; subst ha
    exact hT _ ht (h.l7 _ (.inr (.inl rfl)))
  · rintro y ⟨a, ha, rfl⟩ ht
    injection ha with ha; subst ha
    exact hT _ ht (h.l7 _ (.inr (.inr rfl)))
theorem Both.fr0 (h : Both w0 w N lab sa sb ra rc ga gb gra grc ca cb cra crc la lb p ma mb r) (f : Fr0 w w') : Both w0 w' N lab sa sb ra rc ga gb gra grc ca cb cra crc la lb p ma mb r := by
  obtain ⟨h1, h2, h3⟩ := h.onS f fun _ h => h.elim
  exact ⟨h.two.fr0 f, h.rp.fr0 f, h.RA.fr0 f, h.RC.fr0 f, h.okA, h.okB, h.hRA, h.hRB, h.dj, h1, h2, h3, h.l1, h.l2, h.l3, h.l4, h.l5, h.l6, h.l7, fun y hy => Nat.lt_of_lt_of_le (h.st y hy) f.size, h.lo⟩
theorem Both.swap (h : Both w0 w N lab sa sb ra rc ga gb gra grc ca cb cra crc la lb p ma mb r) : Both w0 w N (fun y => if lab y = 2 then 3 else if lab y = 3 then 2 else if lab y = 5 then 6 else if lab y = 6 then 5 else lab y) sb sa rc ra gb ga grc gra cb ca crc cra lb la p mb ma r := by
  refine ⟨h.two.swap, h.rp, h.RC, h.RA, h.okB, h.okA, h.hRB, h.hRA, fun q hq q' hq' e => h.dj q' hq' q hq e.symm, h.bx, h.ss, h.tt, fun y hy => ?_, fun y hy => ?_, fun y hy => ?_, fun y hy => ?_, fun y hy => ?_, fun y hy => ?_, fun y hy => ?_, h.st, fun y hy => h.lo y (by rcases hy with h | h | h | h <;> simp [h])⟩
  · simp [h.l1 y hy]
  · simp [h.l3 y hy]
  · simp [h.l2 y hy]
  · simp [h.l4 y hy]
  · simp [h.l6 y hy]
  · simp [h.l5 y hy]
  · simp [h.l7 y hy]
/-- the program's pool alone has turned -/
theorem Both.pool (h : Both w0 w N lab sa sb ra rc ga gb gra grc ca cb cra crc la lb p ma mb r) {p' : Pool} (hP : PoolAt w' N.b N.bu N.bd p') (f : Fr (Own N.b N.bu N.bd) w w') (k1 : Held p' la) (k2 : Held p' lb) :
    Both w0 w' N lab sa sb ra rc ga gb gra grc ca cb cra crc la lb p' ma mb r := by
  have hT := h.l1
  obtain ⟨h1, h2, h3⟩ := h.onS f fun y hy => by rw [hT y hy]; decide
  refine ⟨h.two.pooled hP f k1 k2, h.rp.fr f fun y hy ht => ?_, h.RA.fr f fun y hy ht => ?_, h.RC.fr f fun y hy ht => ?_, h.okA, h.okB, h.hRA, h.hRB, h.dj, h1, h2, h3, h.l1, h.l2, h.l3, h.l4, h.l5, h.l6, h.l7, fun y hy => Nat.lt_of_lt_of_le (h.st y hy) f.size, h.lo⟩
  · have := h.l4 y hy; have := hT y ht; omega
  · have := h.l5 y hy; have := hT y ht; omega
  · have := h.l6 y hy; have := hT y ht; omega
/-- the document's pool alone has turned -/
theorem Both.rpool (h : Both w0 w N lab sa sb ra rc ga gb gra grc ca cb cra crc la lb p ma mb r) {r' : Pool} (hP : RPoolAt w' N.rb N.rbu r') (f : Fr (· = N.rbu) w w') (k1 : Held r' ma) (k2 : Held r' mb) :
    Both w0 w' N lab sa sb ra rc ga gb gra grc ca cb cra crc la lb p ma mb r' := by
  have hT : ∀ y, y = N.rbu → lab y = 4 := fun y hy => h.l4 y (.inr hy)
  obtain ⟨h1, h2, h3⟩ := h.onS f fun y hy => by rw [hT y hy]; decide
  refine ⟨h.two.frT f (fun y hy => ⟨fun h' => ?_, fun h' => ?_, fun h' => ?_⟩) fun y hy => h.lo y (.inl (.inr hy)), hP, h.RA.fr f fun y hy ht => ?_, h.RC.fr f fun y hy ht => ?_, h.okA, h.okB, k1, k2, h.dj, h1, h2, h3, h.l1, h.l2, h.l3, h.l4, h.l5, h.l6, h.l7, fun y hy => Nat.lt_of_lt_of_le (h.st y hy) f.size, h.lo⟩
  · have := h.l1 y h'; have := hT y hy; omega
  · have := h.l2 y h'; have := hT y hy; omega
  · have := h.l3 y h'; have := hT y hy; omega
  · have := h.l5 y hy; have := hT y ht; omega
  · have := h.l6 y hy; have := hT y ht; omega
/-- a call of the program's slab A -/
theorem Both.slab (h : Both w0 w N lab sa sb ra rc ga gb gra grc ca cb cra crc la lb p ma mb r) {p' : Pool} {la' : List Qr} {ga' : Option Addr} {ca' : Nat} (hP : PoolAt w' N.b N.bu N.bd p') (hA : SlabAt w' sa N.b ga' ca' la') (f : Fr (OwnS N.b N.bu N.bd sa ga) w w') (hon : ∀ x, On ga' x → On ga x ∨ w.heap.size ≤ x)
    (k1 : Held p' la') (k2 : Held p' lb) (dj : ∀ q ∈ la', ∀ q' ∈ lb, q.f ≠ q'.f) : ∃ lab', Both w0 w' N lab' sa sb ra rc ga' gb gra grc ca' cb cra crc la' lb p' ma mb r := by
  have hT : ∀ y, OwnS N.b N.bu N.bd sa ga y → lab y = 1 ∨ lab y = 2 := by
    rintro y (hy | hy | hy)
    · exact .inl (h.l1 y hy)
    · exact .inr (h.l2 y (.inl hy))
    · exact .inr (h.l2 y (.inr hy))
  obtain ⟨h1, h2, h3⟩ := h.onS f fun y hy => by rcases hT y hy with e | e <;> rw [e] <;> decide
  have hpl := h.two.pool.lt
  have hbl := h.two.B.lt
  have hal := h.two.A.lt
  have hrl := h.rp.lt
  have hral := h.RA.lt
  have hrcl := h.RC.lt
  refine ⟨fun y => if y < w.heap.size then lab y else 2, h.two.turned hP hA f hon k1 k2 dj, h.rp.fr f fun y hy ht => ?_, h.RA.fr f fun y hy ht => ?_, h.RC.fr f fun y hy ht => ?_, h.okA, h.okB, h.hRA, h.hRB, h.dj, h1, h2, h3,
    fun y hy => ?_, fun y hy => ?_, fun y hy => ?_, fun y hy => ?_, fun y hy => ?_, fun y hy => ?_, fun y hy => ?_, fun y hy => Nat.lt_of_lt_of_le (h.st y hy) f.size, h.lo⟩
  · have := h.l4 y hy; have := hT y ht; omega
  · have := h.l5 y hy; have := hT y ht; omega
  · have := h.l6 y hy; have := hT y ht; omega
  · rw [if_pos (hpl y hy)]; exact h.l1 y hy
  · rcases hy with rfl | hy
    · rw [if_pos (hal _ (.inl rfl))]; exact h.l2 _ (.inl rfl)
    · rcases hon y hy with h4 | h4
      · rw [if_pos (hal _ (.inr h4))]; exact h.l2 _ (.inr h4)
      · rw [if_neg (by omega)]
  · rw [if_pos (hbl y hy)]; exact h.l3 y hy
  · rw [if_pos (hrl y hy)]; exact h.l4 y hy
  · rw [if_pos (hral y hy)]; exact h.l5 y hy
  · rw [if_pos (hrcl y hy)]; exact h.l6 y hy
  · rw [if_pos (h.st y hy)]; exact h.l7 y hy
/-- a call of the document's slab A -/
theorem Both.rslab (h : Both w0 w N lab sa sb ra rc ga gb gra grc ca cb cra crc la lb p ma mb r) {r' : Pool} {ma' : List Qr} {gra' : Option Addr} {cra' : Nat} (hP : RPoolAt w' N.rb N.rbu r') (hA : RSlabAt w' ra N.rb gra' cra' (tabs ma')) (f : Fr (ROwnS N.rb N.rbu ra gra) w w') (hon : ∀ x, On gra' x → On gra x ∨ w.heap.size ≤ x)
    (hok : SlabOk ma') (k1 : Held r' ma') (k2 : Held r' mb) (dj : ∀ q ∈ ma', ∀ q' ∈ mb, q.f ≠ q'.f) : ∃ lab', Both w0 w' N lab' sa sb ra rc ga gb gra' grc ca cb cra' crc la lb p ma' mb r' := by
  have hT : ∀ y, ROwnS N.rb N.rbu ra gra y → lab y = 4 ∨ lab y = 5 := by
    rintro y (hy | hy)
    · exact .inl (h.l4 y hy)
    · exact .inr (h.l5 y hy)
  obtain ⟨h1, h2, h3⟩ := h.onS f fun y hy => by rcases hT y hy with e | e <;> rw [e] <;> decide
  have hpl := h.two.pool.lt
  have hbl := h.two.B.lt
  have hal := h.two.A.lt
  have hrl := h.rp.lt
  have hral := h.RA.lt
  have hrcl := h.RC.lt
  have hTlo : ∀ y, ROwnS N.rb N.rbu ra gra y → w0.heap.size ≤ y := by
    rintro y (hy | hy)
    · exact h.lo y (.inl hy)
    · exact h.lo y (.inr (.inl hy))
  have hsz := h.two.fr.size
  refine ⟨fun y => if y < w.heap.size then lab y else 5, h.two.frT f (fun y hy => ⟨fun h' => ?_, fun h' => ?_, fun h' => ?_⟩) hTlo, hP, hA, h.RC.fr f fun y hy ht => ?_, hok, h.okB, k1, k2, dj, h1, h2, h3,
    fun y hy => ?_, fun y hy => ?_, fun y hy => ?_, fun y hy => ?_, fun y hy => ?_, fun y hy => ?_, fun y hy => ?_, fun y hy => Nat.lt_of_lt_of_le (h.st y hy) f.size, ?_⟩
  · have := h.l1 y h'; have := hT y hy; omega
  · have := h.l2 y h'; have := hT y hy; omega
  · have := h.l3 y h'; have := hT y hy; omega
  · have := h.l6 y hy; have := hT y ht; omega
  · rw [if_pos (hpl y hy)]; exact h.l1 y hy
  · rw [if_pos (hal y hy)]; exact h.l2 y hy
  · rw [if_pos (hbl y hy)]; exact h.l3 y hy
  · rw [if_pos (hrl y hy)]; exact h.l4 y hy
  · rcases hy with rfl | hy
    · rw [if_pos (hral _ (.inl rfl))]; exact h.l5 _ (.inl rfl)
    · rcases hon y hy with h4 | h4
      · rw [if_pos (hral _ (.inr h4))]; exact h.l5 _ (.inr h4)
      · rw [if_neg (by omega)]
  · rw [if_pos (hrcl y hy)]; exact h.l6 y hy
  · rw [if_pos (h.st y hy)]; exact h.l7 y hy
  · rintro y (h4 | (h4 | h4) | h4 | h4)
    · exact h.lo y (.inl h4)
    · exact h.lo y (.inr (.inl (.inl h4)))
    · rcases hon y h4 with h5 | h5
      · exact h.lo y (.inr (.inl (.inr h5)))
      · omega
    · exact h.lo y (.inr (.inr (.inl h4)))
    · exact h.lo y (.inr (.inr (.inr h4)))
end
/-! ### the answers are one and the same -/
theorem PTake.det {p p1 p2 : Pool} {n al : Int} {r1 r2 e1 e2 : Nat} (h1 : PTake p n al r1 e1 p1) (h2 : PTake p n al r2 e2 p2) : r1 = r2 ∧ e1 = e2 ∧ p1 = p2 := by
  cases h1 with
  | bad h => cases h2 with
    | bad => exact ⟨rfl, rfl, rfl⟩
    | none h' => exact absurd h h'
    | ok h' => exact absurd h h'
  | none h hn => cases h2 with
    | bad h' => exact absurd h' h
    | none => exact ⟨rfl, rfl, rfl⟩
    | ok _ a hf => exact absurd hf (hn a)
  | ok h a hf hl =>
    obtain ⟨rfl, rfl, rfl⟩ := h2.eq h hf hl
    exact ⟨rfl, rfl, rfl⟩
theorem shareErr_det {p : Pool} {f n : Int} {e1 e2 : Nat} (h1 : p.shareErr f n e1) (h2 : p.shareErr f n e2) : e1 = e2 := by
  unfold Pool.shareErr at h1 h2
  split at h1
  · rw [if_pos (by assumption)] at h2; omega
  · rw [if_neg (by assumption)] at h2
    rcases h1 with ⟨h1, h3⟩ | ⟨h1, h3⟩ <;> rcases h2 with ⟨h2, h4⟩ | ⟨h2, h4⟩
    · omega
    · exact absurd h3 h4
    · exact absurd h4 h3
    · omega
theorem STake.det {p p1 p2 : Pool} {l l1 l2 : List Qr} {r1 r2 e1 e2 : Nat} (h1 : STake p l r1 e1 p1 l1) (h2 : STake p l r2 e2 p2 l2) : r1 = r2 ∧ e1 = e2 ∧ p1 = p2 ∧ l1 = l2 := by
  cases h1 with
  | old i k q hq hk h0 hu hf => cases h2 with
    | old i' k' q' hq' hk' h0' hu' hf' =>
      have ei : i = i' := by
        rcases Nat.lt_trichotomy i i' with h | h | h
        · have := hf' i q h hq k hk; rw [h0] at this; cases this
        · exact h
        · have := hf i' q' h hq' k' hk'; rw [h0'] at this; cases this
      subst ei
      rw [hq] at hq'; injection hq' with hq'; subst hq'
      have ek : k = k' := by
        rcases Nat.lt_trichotomy k k' with h | h | h
        · have := hu' k h; rw [h0] at this; cases this
        · exact h
        · have := hu k' h; rw [h0'] at this; cases this
      subst ek
      exact ⟨rfl, rfl, rfl, rfl⟩
    | none h => have := h q (List.mem_of_getElem? hq) k hk; rw [h0] at this; cases this
    | fresh h => have := h q (List.mem_of_getElem? hq) k hk; rw [h0] at this; cases this
  | none h hn => cases h2 with
    | old i k q hq hk h0 => have := h q (List.mem_of_getElem? hq) k hk; rw [h0] at this; cases this
    | none => exact ⟨rfl, rfl, rfl, rfl⟩
    | fresh _ a hf => exact absurd hf (hn a)
  | fresh h a hf hl => cases h2 with
    | old i k q hq hk h0 => have := h q (List.mem_of_getElem? hq) k hk; rw [h0] at this; cases this
    | none _ hn => exact absurd hf (hn a)
    | fresh _ a' hf' hl' =>
      have : a = a' := by
        rcases Nat.lt_trichotomy a a' with h | h | h
        · exact absurd hf (hl' a h)
        · exact h
        · exact absurd hf' (hl a' h)
      subst this; exact ⟨rfl, rfl, rfl, rfl⟩
theorem SDrop.det {p p1 p2 : Pool} {l l1 l2 : List Qr} {t : Int} {e1 e2 : Nat} (hok : SlabOk l) (h1 : SDrop p l t e1 p1 l1) (h2 : SDrop p l t e2 p2 l2) : e1 = e2 ∧ p1 = p2 ∧ l1 = l2 := by
  have uni : ∀ {i k i' k' : Nat} {q q' : Qr}, l[i]? = some q → l[i']? = some q' → k < 4 → k' < 4 → t = 4 * (q.f : Int) + k → t = 4 * (q'.f : Int) + k' → i = i' ∧ k = k' ∧ q = q' := by
    intro i k i' k' q q' hq hq' hk hk' e e'
    have hqq := same_f hok (List.mem_of_getElem? hq) (List.mem_of_getElem? hq') (by omega)
    subst hqq
    refine ⟨?_, by omega, rfl⟩
    obtain ⟨hi, hi2⟩ := List.getElem?_eq_some_iff.1 hq
    obtain ⟨hi', hi2'⟩ := List.getElem?_eq_some_iff.1 hq'
    rcases Nat.lt_trichotomy i i' with h | h | h
    · have := List.pairwise_iff_getElem.1 hok.rise i i' hi hi' h; rw [hi2, hi2'] at this; omega
    · exact h
    · have := List.pairwise_iff_getElem.1 hok.rise i' i hi' hi h; rw [hi2, hi2'] at this; omega
  cases h1 with
  | none h => cases h2 with
    | none => exact ⟨rfl, rfl, rfl⟩
    | more i k q hq hk hu ht => exact absurd ht (h q (List.mem_of_getElem? hq) k hk hu)
    | last i k q hq hk hu ht => exact absurd ht (h q (List.mem_of_getElem? hq) k hk hu)
  | more i k q hq hk hu ht hm => cases h2 with
    | none h => exact absurd ht (h q (List.mem_of_getElem? hq) k hk hu)
    | more i' k' q' hq' hk' hu' ht' hm' =>
      obtain ⟨rfl, rfl, rfl⟩ := uni hq hq' hk hk' ht ht'
      exact ⟨rfl, rfl, rfl⟩
    | last i' k' q' hq' hk' hu' ht' hm' =>
      obtain ⟨rfl, rfl, rfl⟩ := uni hq hq' hk hk' ht ht'
      obtain ⟨j, j1, j2, j3⟩ := hm
      rw [hm' j j1 j2] at j3; cases j3
  | last i k q hq hk hu ht hm => cases h2 with
    | none h => exact absurd ht (h q (List.mem_of_getElem? hq) k hk hu)
    | more i' k' q' hq' hk' hu' ht' hm' =>
      obtain ⟨rfl, rfl, rfl⟩ := uni hq hq' hk hk' ht ht'
      obtain ⟨j, j1, j2, j3⟩ := hm'
      rw [hm j j1 j2] at j3; cases j3
    | last i' k' q' hq' hk' hu' ht' hm' =>
      obtain ⟨rfl, rfl, rfl⟩ := uni hq hq' hk hk' ht ht'
      exact ⟨rfl, rfl, rfl⟩
theorem turned_held {p : Pool} {l : List Qr} {k0 N : Nat} {fn : Nat → Nat} (h : Held p l) (hl : k0 + N ≤ p.u.length) (hf : ∀ q ∈ l, k0 ≤ q.f - p.first → q.f - p.first < k0 + N → 0 < fn (p.u.getD (q.f - p.first) 0)) : Held (p.turned k0 fn N) l := by
  intro q hq
  obtain ⟨h1, h2, h3⟩ := h q hq
  refine ⟨h1, by simp only [Pool.turned, turn_len]; exact h2, ?_⟩
  show 0 < (turn p.u k0 fn N).getD (q.f - p.first) 0
  rw [turn_get _ _ _ _ _ hl]
  split
  · rename_i hc; exact hf q hq hc.1 hc.2
  · exact h3
theorem PTake.held {p p' : Pool} {n al : Int} {r e : Nat} (h : PTake p n al r e p') {l : List Qr} (hl : Held p l) : Held p' l := by
  cases h with
  | bad => exact hl
  | none => exact hl
  | ok _ a hf => exact turned_held hl hf.2.1 fun q hq _ _ => Nat.one_pos
end Go.Proofs.YthpodlcbikialaaDoor

set_option linter.unusedVariables false
set_option linter.unusedSimpArgs false
namespace Go.Proofs.YthpodlcbikialaaDoor
open Go Go.Sh Go.Fr

theorem Rd.cell0 {w : World} {b : Nat} {xs : List Value} (h : Rd w (some ⟨b, 0, none⟩) xs) {i : Nat} {v : Value} (hi : xs[i]? = some v) : w.cell? ⟨b, i, none⟩ = some v := by
  obtain ⟨b', o', e, hc⟩ := h i v hi
  injection e with e; injection e with e1 e2; subst e1 e2
  rw [Nat.zero_add] at hc; exact hc
theorem Rd.ptr {w : World} {b : Nat} {xs : List Value} (h : Rd w (some ⟨b, 0, none⟩) xs) {n : Nat} {k : Nat} (hn : k < n) {a : Option Addr} (hk : xs[k]? = some (.pointer a)) {K : Option Addr → Prop} (hK : K a) :
    NilP (some ⟨b, 0, none⟩) fun a => (0 : Int) ≤ (k : Int) ∧ (k : Int) < (n : Int) ∧ Ld w (at0 a ((k : Int).toNat * 1)) fun v => AsP v K := by
  refine ⟨by omega, by omega, ?_⟩
  rw [at0_mk, Int.toNat_natCast, Nat.mul_one, Nat.zero_add]
  exact Ld.of (Rd.cell0 h hk) (AsP_pointer.2 hK)
section
variable {w0 w w' : World} {N : Nm} {lab : Nat → Nat} {sa sb ra rc : Nat} {ga gb gra grc : Option Addr} {ca cb cra crc : Nat} {la lb ma mb : List Qr} {p r : Pool}
theorem f15 (h : Both w0 w N lab sa sb ra rc ga gb gra grc ca cb cra crc la lb p ma mb p) : Ret prog 15 #[.pointer (some ⟨N.x, 0, none⟩)] w fun v w' => v = .bool true ∧ Fr0 w w' := by
  have hN := h.two.pool.ok.n
  refine F15_of _ _ _ ?_
  unfold F15
  simp only [at0_mk, Nat.zero_add]
  refine h.bx.drew.ld rfl ?_
  rw [AsP_pointer]
  refine h.bx.drew.ld rfl ?_
  rw [AsP_pointer]
  have h1 := h.fr0 (Qt.refl w).drew.fr
  refine Ret.use (f26 h1.two.pool) ?_
  rintro v w1 ⟨rfl, hw⟩
  obtain rfl := hw.symm
  rw [AsI_int]
  refine ⟨h1.bx.cell, ?_⟩
  refine Ret.use (f44 h1.rp) ?_
  rintro v w1 ⟨rfl, hw⟩
  obtain rfl := hw.symm
  rw [AsI_int]
  refine BIf_eq (fun _ => ?_) (fun hh => absurd rfl hh)
  refine h1.bx.ld rfl ?_
  rw [AsP_pointer]
  refine h1.bx.ld rfl ?_
  rw [AsP_pointer]
  refine Ret.use (f28 h1.two.pool h1.two.tz') ?_
  rintro v w2 ⟨q2, c2, rfl, sl2, hf2⟩
  rw [AsSl_slice]
  have h2 := h1.fr0 hf2
  refine ⟨h2.bx.cell, ?_⟩
  refine Ret.use (f45 h2.rp) ?_
  rintro v w3 ⟨q3, c3, rfl, sl3, hf3⟩
  rw [AsSl_slice]
  have h3 := h2.fr0 hf3
  have hrl : p.runs.length ≤ p.u.length := Nat.le_trans (runs_len _ _) (by omega)
  refine Ret.use (f27 (ac := c2) (bc := c3) (first := p.first) ⟨sl2.rd.fr0 hf3, rfl⟩ ⟨sl3.rd, rfl⟩ (by omega)) ?_
  rintro v w4 ⟨rfl, hq4⟩
  rw [AsB_bool, decide_eq_true rfl, BIf_true]
  have h4 := h3.fr0 hq4.fr
  refine h4.bx.ld rfl ?_
  rw [AsP_pointer]
  refine h4.bx.ld rfl ?_
  rw [AsP_pointer]
  refine Ret.use (f29 h4.two.pool) ?_
  rintro v w5 ⟨rfl, hf5⟩
  rw [show (Value.agg #[.int .i64 (p.first : Int), .int .i64 (p.u.length : Int)]) = .agg [Value.int .i64 (p.first : Int), .int .i64 (p.u.length : Int)].toArray from rfl]
  simp only [AsAgg_agg, UnC_cons, UnN_nil, AsI_int]
  have h5 := h4.fr0 hf5
  refine ⟨h5.bx.cell, ?_⟩
  refine Ret.use (f46 h5.rp) ?_
  rintro v w6 ⟨rfl, hf6⟩
  rw [show (Value.agg #[.int .i64 (p.first : Int), .int .i64 (p.u.length : Int)]) = .agg [Value.int .i64 (p.first : Int), .int .i64 (p.u.length : Int)].toArray from rfl]
  simp only [AsAgg_agg, UnC_cons, UnN_nil, AsI_int]
  refine eql58 _ _ _ _ fun rr hr => ?_
  rw [AsB_bool, hr.2 ⟨rfl, rfl⟩]
  exact ⟨rfl, ((((Qt.refl w).drew.fr.trans hf2).trans hf3).trans hq4.fr |>.trans hf5).trans hf6⟩
/-- the op would take no slab's frame -/
def Safe (o : Op5) (p : Pool) (l : List Qr) : Prop := o.k = 3 → o.n ≥ 1 → ∀ q ∈ l, ((q.f : Nat) : Int) ≥ o.f → IntKind.i64.wrap (((q.f : Nat) : Int) - o.f) < o.n → p.at_ ((q.f : Nat) : Int) ≠ 1
theorem f55 (h : Both w0 w N lab sa sb ra rc ga gb gra grc ca cb cra crc la lb p la lb p) (hlt : N.lt = [.pointer (some ⟨ra, 0, none⟩), .pointer (some ⟨rc, 0, none⟩)]) (o : Op5) (ho : o.Ok) :
    Ret prog 55 #[.pointer (some ⟨N.x, 0, none⟩), .agg #[.int .i64 o.k, .int .i64 o.f, .int .i64 o.n, .int .i64 o.al, .int .i64 o.y]] w fun v w' => (∃ b : Bool, v = .bool b ∧ (b = false → Safe o p la ∧ Safe o p lb)) ∧ Fr0 w w' := by
  have hNA := h.two.A.ok.len
  have hNB := h.two.B.ok.len
  refine F55_of _ _ _ _ _ _ _ _ ?_
  unfold F55
  refine New.mk fun w1 n1 f1 s1 => ?_
  replace n1 : Has w1 w.heap.size o.cells := n1
  obtain ⟨oa, hoa⟩ : ∃ oa, w.heap.size = oa := ⟨_, rfl⟩
  rw [hoa] at n1 ⊢
  have h1 := h.fr0 f1
  refine Loop.by (fun s w' => ∃ (i : Nat) (b : Bool), s = [.int .i64 (i : Int), .bool b] ∧ i ≤ 2 ∧ (1 ≤ i → Safe o p la) ∧ (2 ≤ i → Safe o p lb) ∧ Fr0 w1 w')
    (fun s _ => match s with | [.int _ x, _] => 2 - x.toNat | _ => 0)
    ⟨0, false, rfl, by omega, fun h => by omega, fun h => by omega, Fr.refl _ _⟩ ?_
  rintro _ w2 ⟨i, b, rfl, hi, k1, k2, hf2⟩
  simp only [UnC_cons, UnN_nil, AsI_int, AsB_bool, Ld_drew, at0_mk, Nat.zero_add]
  have h2 := h1.fr0 hf2
  refine BIf_cases (fun hlt2 => ?_) (fun hge => ?_)
  · obtain ⟨s', g', c', l', hS, hok, hcell, back, hH⟩ : ∃ (s' : Nat) (g' : Option Addr) (c' : Nat) (l' : List Qr), RSlabAt w2 s' N.rb g' c' (tabs l') ∧ SlabOk l' ∧ N.lt[i]? = some (.pointer (some ⟨s', 0, none⟩)) ∧ (Safe o p l' → (1 ≤ i + 1 → Safe o p la) ∧ (2 ≤ i + 1 → Safe o p lb)) ∧ Held p l' := by
      rcases (show i = 0 ∨ i = 1 by omega) with rfl | rfl
      · exact ⟨ra, gra, cra, la, h2.RA, h2.okA, by rw [hlt]; rfl, fun hs => ⟨fun _ => hs, fun h => by omega⟩, h2.hRA⟩
      · exact ⟨rc, grc, crc, lb, h2.RC, h2.okB, by rw [hlt]; rfl, fun hs => ⟨fun _ => k1 (by omega), fun _ => hs⟩, h2.hRB⟩
    have hN' := hok.len
    refine h2.bx.ld rfl ?_
    rw [AsSl_slice]
    refine Rd.ptr h2.tt (by omega) hcell ?_
    refine Ret.use (f60 hok hS) ?_
    rintro v w3 ⟨fq, fc, rfl, sl3, hf3⟩
    rw [AsSl_slice]
    have hfl : (l'.map Qr.f).length = l'.length := List.length_map _
    refine Loop.by (fun s w' => ∃ (j : Nat) (b : Bool), s = [.int .i64 (j : Int), .bool b] ∧ j ≤ l'.length ∧ (o.k = 3 → o.n ≥ 1 → ∀ (j' : Nat) (q : Qr), j' < j → l'[j']? = some q → ((q.f : Nat) : Int) ≥ o.f → IntKind.i64.wrap (((q.f : Nat) : Int) - o.f) < o.n → p.at_ ((q.f : Nat) : Int) ≠ 1) ∧ Qt w3 w')
      (fun s _ => match s with | [.int _ x, _] => l'.length - x.toNat | _ => 0)
      ⟨0, b, rfl, by omega, fun _ _ j' q h => by omega, Qt.refl _⟩ ?_
    rintro _ w4 ⟨j, b1, rfl, hj, hsafe, hq4⟩
    simp only [UnC_cons, UnN_nil, AsI_int, AsB_bool, Ld_drew]
    have hfw : Fr0 w1 w4 := (hf2.trans hf3).trans hq4.fr
    have n4 := n1.fr0 hfw
    have h4 := h1.fr0 hfw
    refine BIf_cases (fun hjl => ?_) (fun hjg => ?_)
    · have hjl : j < l'.length := by omega
      obtain ⟨q, hq⟩ : ∃ q, l'[j]? = some q := ⟨_, List.getElem?_eq_getElem hjl⟩
      have hqf := hok.lt q (List.mem_of_getElem? hq)
      have hfi : (l'.map Qr.f)[j]? = some q.f := by rw [List.getElem?_map, hq]; rfl
      have rd4 := sl3.rd.qt hq4
      have hm : l'.length - ((j : Int) + 1).toNat < l'.length - (j : Int).toNat := by omega
      have goOn : (o.k = 3 → o.n ≥ 1 → ((q.f : Nat) : Int) ≥ o.f → IntKind.i64.wrap (((q.f : Nat) : Int) - o.f) < o.n → p.at_ ((q.f : Nat) : Int) ≠ 1) → ∀ w', Qt w3 w' → (∃ (j_1 : Nat) (b : Bool), [Value.int .i64 ((j : Int) + 1), .bool b1] = [.int .i64 (j_1 : Int), .bool b] ∧ j_1 ≤ l'.length ∧
          (o.k = 3 → o.n ≥ 1 → ∀ (j' : Nat) (q : Qr), j' < j_1 → l'[j']? = some q → ((q.f : Nat) : Int) ≥ o.f → IntKind.i64.wrap (((q.f : Nat) : Int) - o.f) < o.n → p.at_ ((q.f : Nat) : Int) ≠ 1) ∧ Qt w3 w') := by
        intro hq' w' hqt
        refine ⟨j + 1, b1, rfl, by omega, fun h3 hn j' q' hj' hq'' => ?_, hqt⟩
        by_cases e : j' = j
        · subst e; rw [hq] at hq''; injection hq'' with hq''; subst hq''; exact hq' h3 hn
        · exact hsafe h3 hn j' q' (by omega) hq''
      rw [w64 (n := (j : Int) + 1) (by omega) (by omega)]
      refine n4.ld rfl ?_
      rw [AsI_int]
      refine BIf_eq (fun hk => ?_) (fun hk => ⟨goOn (fun h3 => absurd h3 hk) _ hq4.drew, hm⟩)
      refine n4.ld rfl ?_
      rw [AsI_int]
      refine BIf_cases (fun hn => ?_) (fun hn => ⟨goOn (fun _ h3 => absurd h3 hn) _ hq4.drew, hm⟩)
      rw [← hfl]
      refine Rd.nat rd4 hfi ?_
      refine n4.ld rfl ?_
      rw [AsI_int]
      refine BIf_cases (fun hge => ?_) (fun hge => ⟨by rw [hfl]; exact goOn (fun _ _ h3 => absurd h3 hge) _ hq4.drew, by rw [hfl]; exact hm⟩)
      refine Rd.nat rd4 hfi ?_
      refine n4.ld rfl ?_
      rw [AsI_int]
      refine n4.ld rfl ?_
      rw [AsI_int]
      refine BIf_cases (fun hw => ?_) (fun hw => ⟨by rw [hfl]; exact goOn (fun _ _ _ h3 => absurd h3 hw) _ hq4.drew, by rw [hfl]; exact hm⟩)
      refine h4.bx.ld rfl ?_
      rw [AsP_pointer]
      refine Rd.nat rd4 hfi ?_
      refine Ret.use (f36 (h4.rp.qt (Qt.refl _).drew) ((q.f : Nat) : Int) ⟨by omega, by omega⟩) ?_
      rintro v w5 ⟨rfl, hq5⟩
      rw [AsI_int]
      have hq05 := hq4.trans hq5.of_drew
      refine BIf_eq (fun h1' => ?_) (fun h1' => ⟨by rw [hfl]; exact goOn (fun _ _ _ _ h3 => h1' (by omega)) _ hq05, by rw [hfl]; exact hm⟩)
      refine ⟨⟨true, rfl, (fun h => by cases h)⟩, (f1.trans (hf2.trans hf3)).trans hq05.fr⟩
    · rw [w64 (n := (i : Int) + 1) (by omega) (by omega)]
      obtain ⟨b2, b3⟩ := back fun h3 hn q hqm => by
        obtain ⟨j', hj', rfl⟩ := List.getElem_of_mem hqm
        exact hsafe h3 hn j' _ (by omega) (List.getElem?_eq_getElem hj')
      refine ⟨⟨i + 1, b1, rfl, by omega, b2, b3, hfw⟩, ?_⟩
      show 2 - ((i : Int) + 1).toNat < 2 - (i : Int).toNat
      omega
  · exact ⟨⟨false, rfl, fun _ => ⟨k1 (by omega), k2 (by omega)⟩⟩, f1.trans hf2⟩
end
end Go.Proofs.YthpodlcbikialaaDoor

set_option linter.unusedVariables false
set_option linter.unusedSimpArgs false
namespace Go.Proofs.YthpodlcbikialaaDoor
open Go Go.Sh Go.Fr

def Play (w0 w : World) (N : Nm) (sa sb ra rc : Nat) (la lb : List Qr) (p : Pool) : Prop := ∃ lab ga gb gra grc ca cb cra crc, Both w0 w N lab sa sb ra rc ga gb gra grc ca cb cra crc la lb p la lb p
theorem Play.fr0 {w0 w w' : World} {N : Nm} {sa sb ra rc : Nat} {la lb : List Qr} {p : Pool} (h : Play w0 w N sa sb ra rc la lb p) (f : Fr0 w w') : Play w0 w' N sa sb ra rc la lb p := by
  obtain ⟨lab, ga, gb, gra, grc, ca, cb, cra, crc, h⟩ := h
  exact ⟨lab, ga, gb, gra, grc, ca, cb, cra, crc, h.fr0 f⟩
theorem safe_held {p : Pool} {o : Op5} {l : List Qr} (hok : SlabOk l) (hH : Held p l) (hs : Safe o p l) (hk : o.k = 3) (hr : (p.run o.f o.n).2 = 0) : Held (p.turned (o.f - p.first).toNat (· - 1) o.n.toNat) l := by
  obtain ⟨r1, r2, r3, _, r5⟩ := run_ok hr
  refine turned_held hH (by omega) fun q hq h1 h2 => ?_
  obtain ⟨k1, k2, k3⟩ := hH q hq
  have hqf := hok.lt q hq
  have := hs hk (by omega) q hq (by omega) (by rw [w64 (by omega) (by omega)]; omega)
  have hat : p.at_ ((q.f : Nat) : Int) = p.u.getD (q.f - p.first) 0 := by
    unfold Pool.at_
    rw [if_neg (by omega)]
    congr 1
    omega
  rw [hat] at this
  show 0 < p.u.getD (q.f - p.first) 0 - 1
  omega
theorem share_held {p : Pool} {f n : Int} {l : List Qr} (hH : Held p l) (hs : p.shareErr f n 0) : Held (p.turned (f - p.first).toNat (· + 1) n.toNat) l := by
  have hr : (p.run f n).2 = 0 := by
    unfold Pool.shareErr at hs
    split at hs
    · omega
    · omega
  obtain ⟨r1, r2, r3, _, r5⟩ := run_ok hr
  exact turned_held hH (by omega) fun q hq h1 h2 => Nat.succ_pos _
theorem f35 {w0 w : World} {N : Nm} {sa sb ra rc : Nat} {la lb : List Qr} {p : Pool} (h : Play w0 w N sa sb ra rc la lb p) (hls : N.ls = [.pointer (some ⟨sa, 0, none⟩), .pointer (some ⟨sb, 0, none⟩)]) (hlt : N.lt = [.pointer (some ⟨ra, 0, none⟩), .pointer (some ⟨rc, 0, none⟩)]) (o : Op5) (ho : o.Ok) :
    Ret prog 35 #[.pointer (some ⟨N.x, 0, none⟩), .agg #[.int .i64 o.k, .int .i64 o.f, .int .i64 o.n, .int .i64 o.al, .int .i64 o.y]] w fun v w' => v = .bool true ∧ ∃ la' lb' p', Play w0 w' N sa sb ra rc la' lb' p' ∧ p'.first = p.first ∧ p'.u.length = p.u.length := by
  refine F35_of _ _ _ _ _ _ _ _ ?_
  unfold F35
  refine New.mk fun w1 n1 f1 s1 => ?_
  replace n1 : Has w1 w.heap.size o.cells := n1
  obtain ⟨oa, hoa⟩ : ∃ oa, w.heap.size = oa := ⟨_, rfl⟩
  rw [hoa] at n1 ⊢
  have hPlay := h
  obtain ⟨lab, ga, gb, gra, grc, ca, cb, cra, crc, h0⟩ := h
  have hN := h0.two.pool.ok.n
  have hL := h0.two.pool.ok.le
  have ol1 : ∀ y, Own N.b N.bu N.bd y → y ≠ oa := fun y hy e => by have := h0.two.pool.lt y hy; omega
  have ol2 : ∀ y, Sb sa ga y → y ≠ oa := fun y hy e => by have := h0.two.A.lt y hy; omega
  have ol3 : ∀ y, Sb sb gb y → y ≠ oa := fun y hy e => by have := h0.two.B.lt y hy; omega
  have h1 := h0.fr0 f1
  simp only [at0_mk, Nat.zero_add, Ld_drew]
  refine n1.ld rfl ?_
  rw [AsI_int]
  refine n1.ld rfl ?_
  rw [AsI_int]
  have hD : Both w0 w1.drew N lab sa sb ra rc ga gb gra grc ca cb cra crc la lb p la lb p := h1.fr0 (Qt.refl w1).drew.fr
  have nD : Has w1.drew oa o.cells := n1
  refine BIf_eq (fun hk => ?_) (fun hk1 => ?_)
  · refine h1.bx.ld rfl ?_
    rw [AsP_pointer]
    refine n1.ld rfl ?_
    rw [AsI_int]
    refine n1.ld rfl ?_
    rw [AsI_int]
    refine Ret.use (f23' hD.two.pool hD.two.tz' hD.two.z.1 o.n o.al ho.n.2) ?_
    rintro v w2 ⟨r, e, p', rfl, ht, hP2, hf2⟩
    simp only [AsTup_tuple, UnC_cons, UnN_nil, AsI_int]
    have h2 := hD.pool hP2 hf2 (ht.held hD.two.hA) (ht.held hD.two.hB)
    have n2 := nD.fr hf2 fun hx => ol1 _ hx rfl
    refine h2.bx.ld rfl ?_
    rw [AsP_pointer]
    refine n2.ld rfl ?_
    rw [AsI_int]
    refine n2.ld rfl ?_
    rw [AsI_int]
    refine Ret.use (f53 (w := w2.drew) (h2.rp.qt (Qt.refl _).drew) o.n o.al ho.n) ?_
    rintro v w3 ⟨r2, e2, p2, rfl, ht2, hP3, hf3⟩
    simp only [AsTup_tuple, UnC_cons, UnN_nil, AsI_int]
    obtain ⟨rfl, rfl, rfl⟩ := ht.det ht2
    have h3 := h2.rpool hP3 hf3.of_drew (ht.held hD.two.hA) (ht.held hD.two.hB)
    refine BIf_eq (fun _ => ?_) (fun hh => absurd rfl hh)
    refine Ret.use (f14 _) ?_
    rintro v w4 ⟨rfl, hw⟩
    obtain rfl := hw.symm
    rw [AsI_int]
    obtain ⟨q1, q2⟩ := ht.same
    exact ⟨by simp, la, lb, p', ⟨_, _, _, _, _, _, _, _, _, h3⟩, q1, q2⟩
  refine BIf_eq (fun hk => ?_) (fun hk2 => ?_)
  · refine h1.bx.ld rfl ?_
    rw [AsP_pointer]
    refine n1.ld rfl ?_
    rw [AsI_int]
    refine n1.ld rfl ?_
    rw [AsI_int]
    refine h1.bx.ld rfl ?_
    rw [AsP_pointer]
    refine n1.ld rfl ?_
    rw [AsI_int]
    refine n1.ld rfl ?_
    rw [AsI_int]
    refine Ret.use (f47 hD.two.pool hD.two.tz' o.f o.n ho.f ho.n.2) ?_
    rintro v w2 ⟨e, rfl, he, hcase⟩
    rw [AsI_int]
    obtain ⟨p', h2, n2, hp', q1, q2⟩ : ∃ p', Both w0 w2 N lab sa sb ra rc ga gb gra grc ca cb cra crc la lb p' la lb p ∧ Has w2 oa o.cells ∧ ((e ≠ 0 ∧ p' = p) ∨ (e = 0 ∧ p' = p.turned (o.f - p.first).toNat (· + 1) o.n.toNat)) ∧ p'.first = p.first ∧ p'.u.length = p.u.length := by
      rcases hcase with ⟨h0, hq⟩ | ⟨rfl, hP2, hf2⟩
      · exact ⟨p, hD.fr0 hq.fr, nD.qt hq, .inl ⟨h0, rfl⟩, rfl, rfl⟩
      · exact ⟨_, hD.pool hP2 hf2 (share_held hD.two.hA he) (share_held hD.two.hB he), nD.fr hf2 fun hx => ol1 _ hx rfl, .inr ⟨rfl, rfl⟩, rfl, turn_len _ _ _ _⟩
    refine ⟨n2.cell, n2.cell, h2.bx.cell, ?_⟩
    refine Ret.use (f14 _) ?_
    rintro v w3 ⟨rfl, hw⟩
    obtain rfl := hw.symm
    rw [AsI_int]
    refine ⟨n2.cell, n2.cell, h2.bx.cell, ?_⟩
    refine Ret.use (f54 h2.rp o.f o.n ho.f ho.n) ?_
    rintro v w3 ⟨e2, rfl, he2, hcase2, hf3⟩
    rw [AsI_int]
    obtain rfl := shareErr_det he he2
    refine ⟨by simp, la, lb, p', ?_, q1, q2⟩
    rcases hp' with ⟨he0, rfl⟩ | ⟨he0, rfl⟩
    · rcases hcase2 with ⟨_, hP3⟩ | ⟨he0', _⟩
      · exact ⟨_, _, _, _, _, _, _, _, _, h2.rpool hP3 hf3 h2.hRA h2.hRB⟩
      · exact absurd he0' he0
    · rcases hcase2 with ⟨he0', _⟩ | ⟨_, hP3⟩
      · exact absurd he0 he0'
      · subst he0
        exact ⟨_, _, _, _, _, _, _, _, _, h2.rpool hP3 hf3 (share_held h2.hRA he) (share_held h2.hRB he)⟩
  refine BIf_eq (fun hk => ?_) (fun hk3 => ?_)
  · refine n1.ld rfl ?_
    rw [AsI_int]
    refine n1.ld rfl ?_
    rw [AsI_int]
    refine n1.ld rfl ?_
    rw [AsI_int]
    refine n1.ld rfl ?_
    rw [AsI_int]
    refine n1.ld rfl ?_
    rw [AsI_int]
    refine Ret.use (f55 h1 hlt o ho) ?_
    rintro v w2 ⟨⟨bb, rfl, hsafe⟩, hf2⟩
    rw [AsB_bool]
    have h2 := h1.fr0 hf2
    refine BIf_b (fun hb => ?_) (fun hb => ?_)
    · exact ⟨by trivial, la, lb, p, ⟨_, _, _, _, _, _, _, _, _, h2⟩, rfl, rfl⟩
    obtain ⟨sA, sB⟩ := hsafe hb
    have n2 := n1.fr0 hf2
    refine h2.bx.ld rfl ?_
    rw [AsP_pointer]
    refine n2.ld rfl ?_
    rw [AsI_int]
    refine n2.ld rfl ?_
    rw [AsI_int]
    have hD2 : Both w0 w2.drew N lab sa sb ra rc ga gb gra grc ca cb cra crc la lb p la lb p := h2.fr0 (Qt.refl w2).drew.fr
    have nD2 : Has w2.drew oa o.cells := n2
    refine Ret.use (f25 hD2.two.pool hD2.two.tz' hD2.two.z.1 o.f o.n ho.f ho.n.2) ?_
    rintro v w3 hcase
    obtain ⟨x, e, p', rfl, h3, n3, hp', q1, q2⟩ : ∃ (x : Int) (e : Nat) (p' : Pool), v = .tuple #[.int .i64 x, .int .i64 (e : Int)] ∧ Both w0 w3 N lab sa sb ra rc ga gb gra grc ca cb cra crc la lb p' la lb p ∧ Has w3 oa o.cells ∧
        (((p.run o.f o.n).2 ≠ 0 ∧ p' = p ∧ x = 0 ∧ e = (p.run o.f o.n).2) ∨ ((p.run o.f o.n).2 = 0 ∧ p' = p.turned (o.f - p.first).toNat (· - 1) o.n.toNat ∧ x = ((p.turned (o.f - p.first).toNat (· - 1) o.n.toNat).free : Int) - p.free ∧ e = 0)) ∧ p'.first = p.first ∧ p'.u.length = p.u.length := by
      rcases hcase with ⟨h0, rfl, hq⟩ | ⟨h0, rfl, hP3, hf3⟩
      · exact ⟨_, _, p, rfl, hD2.fr0 hq.fr, nD2.qt hq, .inl ⟨h0, rfl, rfl, rfl⟩, rfl, rfl⟩
      · exact ⟨_, 0, _, rfl, hD2.pool hP3 hf3 (safe_held hD2.two.A.ok hD2.two.hA sA hk h0) (safe_held hD2.two.B.ok hD2.two.hB sB hk h0), nD2.fr hf3 fun hx => ol1 _ hx rfl, .inr ⟨h0, rfl, rfl, rfl⟩, rfl, turn_len _ _ _ _⟩
    simp only [AsTup_tuple, UnC_cons, UnN_nil, AsI_int]
    refine h3.bx.ld rfl ?_
    rw [AsP_pointer]
    refine n3.ld rfl ?_
    rw [AsI_int]
    refine n3.ld rfl ?_
    rw [AsI_int]
    refine Ret.use (f56 (w := w3.drew) (h3.rp.qt (Qt.refl _).drew) o.f o.n ho.f ho.n) ?_
    rintro v w4 ⟨hcase2, hf4⟩
    obtain ⟨rfl, h4⟩ : v = .tuple #[.int .i64 x, .int .i64 (e : Int)] ∧ Both w0 w4 N lab sa sb ra rc ga gb gra grc ca cb cra crc la lb p' la lb p' := by
      rcases hp' with ⟨h0, rfl, rfl, rfl⟩ | ⟨h0, rfl, rfl, rfl⟩
      · rcases hcase2 with ⟨_, rfl, hP4⟩ | ⟨h0', _⟩
        · exact ⟨rfl, h3.rpool hP4 hf4.of_drew h3.hRA h3.hRB⟩
        · exact absurd h0' h0
      · rcases hcase2 with ⟨h0', _⟩ | ⟨_, rfl, hP4⟩
        · exact absurd h0 h0'
        · exact ⟨rfl, h3.rpool hP4 hf4.of_drew (safe_held h3.okA h3.hRA sA hk h0) (safe_held h3.okB h3.hRB sB hk h0)⟩
    simp only [AsTup_tuple, UnC_cons, UnN_nil, AsI_int]
    refine BIf_eq (fun _ => ?_) (fun hh => absurd rfl hh)
    refine Ret.use (f14 _) ?_
    rintro v w5 ⟨rfl, hw⟩
    obtain rfl := hw.symm
    rw [AsI_int]
    exact ⟨by simp, la, lb, p', ⟨_, _, _, _, _, _, _, _, _, h4⟩, q1, q2⟩
  refine BIf_eq (fun hk => ?_) (fun hk4 => ?_)
  · refine h1.bx.ld rfl ?_
    rw [AsP_pointer]
    refine n1.ld rfl ?_
    rw [AsI_int]
    refine h1.bx.ld rfl ?_
    rw [AsP_pointer]
    refine n1.ld rfl ?_
    rw [AsI_int]
    refine Ret.use (f16 hD.two.pool o.f ho.f) ?_
    rintro v w2 ⟨rfl, hq2⟩
    rw [AsI_int]
    have h2 := hD.fr0 hq2.fr
    refine ⟨(nD.qt hq2).cell, h2.bx.cell, ?_⟩
    refine Ret.use (f36 h2.rp o.f ho.f) ?_
    rintro v w3 ⟨rfl, hq3⟩
    rw [AsI_int]
    exact ⟨by simp, la, lb, p, ⟨_, _, _, _, _, _, _, _, _, h2.fr0 hq3.fr⟩, rfl, rfl⟩
  rw [andI_one ho.y]
  obtain ⟨k, sx, sy, rx, ry, gx, gy, grx, gry, cx, cy, crx, cry, lx, ly, lab', hkk, hX, hcell, hrcell, back, ol2'⟩ : ∃ (k sx sy rx ry : Nat) (gx gy grx gry : Option Addr) (cx cy crx cry : Nat) (lx ly : List Qr) (lab' : Nat → Nat), o.y % 2 = (k : Int) ∧ Both w0 w1 N lab' sx sy rx ry gx gy grx gry cx cy crx cry lx ly p lx ly p ∧
      N.ls[k]? = some (.pointer (some ⟨sx, 0, none⟩)) ∧ N.lt[k]? = some (.pointer (some ⟨rx, 0, none⟩)) ∧ (∀ w'' lx' p', Play w0 w'' N sx sy rx ry lx' ly p' → ∃ la' lb', Play w0 w'' N sa sb ra rc la' lb' p') ∧ (∀ y, Sb sx gx y → y ≠ oa) := by
    rcases (show o.y % 2 = 0 ∨ o.y % 2 = 1 by omega) with h | h
    · exact ⟨0, sa, sb, ra, rc, ga, gb, gra, grc, ca, cb, cra, crc, la, lb, lab, by omega, h1, by rw [hls]; rfl, by rw [hlt]; rfl, fun w'' lx' p' h => ⟨_, _, h⟩, ol2⟩
    · exact ⟨1, sb, sa, rc, ra, gb, ga, grc, gra, cb, ca, crc, cra, lb, la, _, by omega, h1.swap, by rw [hls]; rfl, by rw [hlt]; rfl, fun w'' lx' p' h => by
        obtain ⟨l1, a1, a2, a3, a4, a5, a6, a7, a8, hh⟩ := h
        exact ⟨_, _, ⟨_, _, _, _, _, _, _, _, _, hh.swap⟩⟩, ol3⟩
  have hk2' : k < 2 := by omega
  rw [hkk]
  have hokx := hX.two.A.ok
  have hNx := hokx.len
  have hTx := tabs_len lx
  have hXD : Both w0 w1.drew N lab' sx sy rx ry gx gy grx gry cx cy crx cry lx ly p lx ly p := hX.fr0 (Qt.refl w1).drew.fr
  have idx : ∀ b : Nat, at0 (⟨b, 0, none⟩ : Addr) (((k : Nat) : Int).toNat * 1) = ⟨b, k, none⟩ := fun b => by rw [at0_mk, Int.toNat_natCast, Nat.mul_one, Nat.zero_add]
  refine BIf_eq (fun hk6 => ?_) (fun hk6 => ?_)
  · refine hX.bx.ld rfl ?_
    rw [AsSl_slice]
    refine Rd.ptr hX.ss hk2' hcell ?_
    refine Ret.use (f30 hX.two.pool hX.two.tz' hX.two.z.1 hX.two.A hX.two.hA (hX.two.sab sx (.inl rfl)).1 fun y hy => (hX.two.sab y (.inr hy)).1) ?_
    rintro v w2 ⟨r, e, p', lx', gx', cx', rfl, hst, hP2, hS2, hf2, hon2⟩
    obtain ⟨k1, k2, k3⟩ := hst.held hX.two.hA
    obtain ⟨lab2, h2⟩ := hX.slab hP2 hS2 hf2 hon2 k1 (k2 ly hX.two.hB) (k3 ly hX.two.hB hX.two.dj)
    simp only [AsTup_tuple, UnC_cons, UnN_nil, AsI_int]
    refine h2.bx.ld rfl ?_
    rw [AsSl_slice]
    refine Rd.ptr h2.tt hk2' hrcell ?_
    refine Ret.use (f57 h2.rp h2.okA h2.hRA h2.RA fun y hy hz => by have := h2.l5 y hy; have := h2.l4 y hz; omega) ?_
    rintro v w3 ⟨r2, e2, p2, lx2, gr2, cr2, rfl, hst2, hP3, hS3, hf3, hon3⟩
    obtain ⟨rfl, rfl, rfl, rfl⟩ := hst.det hst2
    obtain ⟨lab3, h3⟩ := h2.rslab hP3 hS3 hf3 hon3 hS2.ok k1 (k2 ly hX.two.hB) (k3 ly hX.two.hB hX.two.dj)
    simp only [AsTup_tuple, UnC_cons, UnN_nil, AsI_int]
    refine BIf_eq (fun _ => ?_) (fun hh => absurd rfl hh)
    refine Ret.use (f14 _) ?_
    rintro v w4 ⟨rfl, hw⟩
    obtain rfl := hw.symm
    rw [AsI_int]
    obtain ⟨la', lb', hb⟩ := back _ _ _ ⟨_, _, _, _, _, _, _, _, _, h3⟩
    have hsame : p'.first = p.first ∧ p'.u.length = p.u.length := by cases hst <;> simp [Pool.turned, turn_len]
    exact ⟨by simp, la', lb', p', hb, hsame⟩
  refine BIf_eq (fun hk7 => ?_) (fun hk7 => ?_)
  · refine hX.bx.ld rfl ?_
    rw [AsSl_slice]
    refine Rd.ptr hX.ss hk2' hcell ?_
    refine n1.ld rfl ?_
    rw [AsI_int]
    refine hX.bx.ld rfl ?_
    rw [AsSl_slice, NilP_some, idx]
    refine ⟨by omega, by omega, ?_⟩
    refine Ld.of (Rd.cell0 hX.tt hrcell) ?_
    rw [AsP_pointer]
    refine n1.ld rfl ?_
    rw [AsI_int]
    have hz : ¬ OwnS N.b N.bu N.bd sx gx 0 := by
      obtain ⟨z1, z2, _⟩ := hX.two.z
      rintro (hx | hx | hx)
      · exact z1 hx
      · exact z2 (.inl hx)
      · exact z2 (.inr hx)
    refine Ret.use (f33 hXD.two.pool hXD.two.tz' hz hXD.two.A hX.two.hA (hX.two.sab sx (.inl rfl)).1 (fun y hy => (hX.two.sab y (.inr hy)).1) o.f ho.f) ?_
    rintro v w2 ⟨e, p', lx', gx', cx', rfl, hst, hP2, hS2, hf2, hon2⟩
    rw [AsI_int]
    obtain ⟨k1, k2, k3⟩ := hst.held hokx hX.two.hA
    obtain ⟨lab2, h2⟩ := hXD.slab hP2 hS2 hf2 hon2 k1 (k2 ly hX.two.hB hX.two.dj) (k3 ly hX.two.dj)
    have n2 := nD.fr hf2 (by
      rintro (hx | hx | hx)
      · exact ol1 _ hx rfl
      · exact ol2' _ (.inl hx) rfl
      · exact ol2' _ (.inr hx) rfl)
    refine ⟨n2.cell, Rd.cell0 h2.tt hrcell, h2.bx.cell, ?_⟩
    refine Ret.use (f14 _) ?_
    rintro v w3 ⟨rfl, hw⟩
    obtain rfl := hw.symm
    rw [AsI_int]
    refine ⟨n2.cell, Rd.cell0 h2.tt hrcell, h2.bx.cell, ?_⟩
    refine Ret.use (f58 h2.rp h2.okA h2.hRA h2.RA (fun y hy hz => by have := h2.l5 y hy; have := h2.l4 y hz; omega) o.f ho.f) ?_
    rintro v w3 ⟨e2, p2, lx2, gr2, cr2, rfl, hst2, hP3, hS3, hf3, hon3⟩
    obtain ⟨rfl, rfl, rfl⟩ := hst.det hokx hst2
    obtain ⟨lab3, h3⟩ := h2.rslab hP3 hS3 hf3 hon3 hS2.ok k1 (k2 ly hX.two.hB hX.two.dj) (k3 ly hX.two.dj)
    rw [AsI_int]
    obtain ⟨la', lb', hb⟩ := back _ _ _ ⟨_, _, _, _, _, _, _, _, _, h3⟩
    have hsame : p'.first = p.first ∧ p'.u.length = p.u.length := by cases hst <;> simp [Pool.turned, turn_len]
    exact ⟨by simp, la', lb', p', hb, hsame⟩
  refine BIf_eq (fun hk8 => ?_) (fun hk8 => ?_)
  · refine hX.bx.ld rfl ?_
    rw [AsSl_slice]
    refine Rd.ptr hX.ss hk2' hcell ?_
    refine hX.bx.ld rfl ?_
    rw [AsSl_slice, NilP_some, idx]
    refine ⟨by omega, by omega, ?_⟩
    refine Ld.of (Rd.cell0 hX.tt hrcell) ?_
    rw [AsP_pointer]
    refine Ret.use (f17 hXD.two.A) ?_
    rintro v w2 ⟨q2, c2, rfl, sl2, hf2⟩
    rw [AsSl_slice]
    have h2 := hXD.fr0 hf2
    refine ⟨Rd.cell0 h2.tt hrcell, h2.bx.cell, ?_⟩
    refine Ret.use (f59 h2.RA (by omega)) ?_
    rintro v w3 ⟨q3, c3, rfl, sl3, hf3⟩
    rw [AsSl_slice]
    refine Ret.use (f24n (ac := c2) (bc := c3) (sl2.rd.fr0 hf3) sl3.rd (by omega) (by omega)) ?_
    rintro v w4 ⟨rfl, hq4⟩
    rw [AsB_bool, decide_eq_true rfl, BIf_true]
    have h4 := (h2.fr0 hf3).fr0 hq4.fr
    refine h4.bx.ld rfl ?_
    rw [AsSl_slice]
    refine Rd.ptr h4.ss hk2' hcell ?_
    refine h4.bx.ld rfl ?_
    rw [AsSl_slice, NilP_some, idx]
    refine ⟨by omega, by omega, ?_⟩
    refine Ld.of (Rd.cell0 h4.tt hrcell) ?_
    rw [AsP_pointer]
    refine Ret.use (f18 h4.two.A) ?_
    rintro v w5 ⟨q5, c5, rfl, sl5, hf5⟩
    rw [AsSl_slice]
    have h5 := h4.fr0 hf5
    refine ⟨Rd.cell0 h5.tt hrcell, h5.bx.cell, ?_⟩
    refine Ret.use (f60 hokx h5.RA) ?_
    rintro v w6 ⟨q6, c6, rfl, sl6, hf6⟩
    rw [AsSl_slice]
    have hfl : (lx.map Qr.f).length = lx.length := List.length_map _
    have hr := f24n (ac := c5) (bc := c6) (sl5.rd.fr0 hf6) sl6.rd (by omega) (by omega)
    rw [hfl] at hr
    refine Ret.use hr ?_
    rintro v w7 ⟨rfl, hq7⟩
    rw [AsB_bool, decide_eq_true rfl]
    obtain ⟨la', lb', hb⟩ := back _ _ _ ⟨_, _, _, _, _, _, _, _, _, (h5.fr0 hf6).fr0 hq7.fr⟩
    exact ⟨rfl, la', lb', p, hb, rfl, rfl⟩
  refine Ret.use (f15 h1) ?_
  rintro v w2 ⟨rfl, hf2⟩
  rw [AsB_bool]
  exact ⟨rfl, la, lb, p, ⟨_, _, _, _, _, _, _, _, _, h1.fr0 hf2⟩, rfl, rfl⟩
end Go.Proofs.YthpodlcbikialaaDoor

set_option linter.unusedVariables false
set_option linter.unusedSimpArgs false
namespace Go.Proofs.YthpodlcbikialaaDoor
open Go Go.Sh Go.Fr

theorem E34 : ElemT prog 34 75 (.pointer none) 1 8 := ⟨by kernel_rfl, by kernel_rfl, rfl, by decide⟩
def ptrs (l : List Nat) : List Value := l.map fun s => Value.pointer (some ⟨s, 0, none⟩)
theorem not_on {y : Nat} : ¬ On (none : Option Addr) y := fun ⟨a, h, _⟩ => by cases h
/-- begin's state, with the first slabs laid -/
structure Beg (w0 w : World) (b bu bd rb rbu x : Nat) (p : Pool) (lab : Nat → Nat) (gs gt : Option Addr) (cs ct : Nat) (S R : List Nat) : Prop where
  pool : PoolAt w b bu bd p
  rp : RPoolAt w rb rbu p
  bx : Has w x [.pointer (some ⟨b, 0, none⟩), .pointer (some ⟨rb, 0, none⟩), .slice gs S.length cs, .slice gt R.length ct]
  ss : Sl w 0 25 1 gs S.length cs (ptrs S)
  tt : Sl w 0 75 1 gt R.length ct (ptrs R)
  sl : ∀ s ∈ S, SlabAt w s b none 0 []
  rs : ∀ s ∈ R, RSlabAt w s rb none 0 []
  l1 : ∀ y, Own b bu bd y → lab y = 1
  l4 : ∀ y, ROwn rb rbu y → lab y = 4
  l7 : lab x = 7
  l8 : ∀ y, On gs y → lab y = 8
  l9 : ∀ y, On gt y → lab y = 9
  lS : ∀ j s, S[j]? = some s → lab s = 2 + j
  lR : ∀ j s, R[j]? = some s → lab s = 5 + j
  lo : ∀ y, Own b bu bd y ∨ ROwn rb rbu y ∨ y = x ∨ On gs y ∨ On gt y ∨ y ∈ S ∨ y ∈ R → w0.heap.size ≤ y
  fr : Fr0 w0 w
theorem f11 {w : World} (hT : Tz w) (first count : Int) (hf : I64 first) :
    Ret prog 11 #[.int .i64 first, .int .i64 count] w fun v w' => (newErr first count ≠ 0 ∧ v = .tuple #[.pointer none, .bool true] ∧ Fr0 w w') ∨
      (newErr first count = 0 ∧ ∃ (N : Nm) (sa sb ra rc : Nat), v = .tuple #[.pointer (some ⟨N.x, 0, none⟩), .bool true] ∧ N.ls = [.pointer (some ⟨sa, 0, none⟩), .pointer (some ⟨sb, 0, none⟩)] ∧ N.lt = [.pointer (some ⟨ra, 0, none⟩), .pointer (some ⟨rc, 0, none⟩)] ∧
        Play w w' N sa sb ra rc [] [] (newPool first.toNat count.toNat)) := by
  refine F11_of _ _ _ _ ?_
  unfold F11
  refine Ret.use (f41 first count hf) ?_
  rintro v w1 (⟨he, rfl, hq1⟩ | ⟨he, _, _, _, _, b, bu, bd, rfl, hP1, hf1, hb⟩)
  · simp only [AsTup_tuple, UnC_cons, UnN_nil, AsI_int, AsP_pointer]
    refine Ret.use (f42 first count hf) ?_
    rintro v w2 (⟨_, rfl, hw⟩ | ⟨he', _⟩)
    rotate_left
    · exact absurd he' he
    obtain rfl := hw.symm
    simp only [AsTup_tuple, UnC_cons, UnN_nil, AsI_int, AsP_pointer]
    refine Ret.use (f14 _) ?_
    rintro v w2 ⟨rfl, hw⟩
    obtain rfl := hw.symm
    rw [AsI_int]
    refine BIf_ne (fun h => absurd rfl h) (fun _ => ?_)
    exact .inl ⟨he, by trivial, hq1.fr⟩
  simp only [AsTup_tuple, UnC_cons, UnN_nil, AsI_int, AsP_pointer]
  refine Ret.use (f42 first count hf) ?_
  rintro v w2 (⟨he', _⟩ | ⟨_, rb, rbu, rfl, hR2, hf2, hrb⟩)
  · exact absurd he he'
  simp only [AsTup_tuple, UnC_cons, UnN_nil, AsI_int, AsP_pointer]
  refine Ret.use (f14 _) ?_
  rintro v w3 ⟨rfl, hw⟩
  obtain rfl := hw.symm
  rw [AsI_int]
  refine BIf_ne (fun h => absurd rfl h) (fun _ => ?_)
  show BIf false _ (BIf false _ _)
  rw [BIf_false, BIf_false]
  refine New.mk fun w3 n3 f3 s3 => ?_
  obtain ⟨x, hx⟩ : ∃ x, w2.heap.size = x := ⟨_, rfl⟩
  rw [hx] at n3 ⊢
  have lt1 := hP1.lt
  have lt2 := hR2.lt
  have z1 := hf1.size
  have z2 := hf2.size
  have beg0 : Beg w w3 b bu bd rb rbu x (newPool first.toNat count.toNat) (fun y => if y = x then 7 else if y < w1.heap.size then 1 else 4) none none 0 0 [] [] := by
    refine ⟨(hP1.fr0 hf2).fr0 f3, hR2.fr0 f3, n3, Sl.nil _ _ _ _, Sl.nil _ _ _ _, fun s h => by simp at h, fun s h => by simp at h, fun y hy => ?_, fun y hy => ?_, by simp, fun y h => absurd h not_on, fun y h => absurd h not_on, fun j s h => by simp at h, fun j s h => by simp at h, ?_, (hf1.trans hf2).trans f3⟩
    · have := lt1 y hy; rw [if_neg (by omega), if_pos (by omega)]
    · have := lt2 y hy
      have : w1.heap.size ≤ y := by unfold ROwn at hy; omega
      rw [if_neg (by omega), if_neg (by omega)]
    · rintro y (h | h | h | h | h | h | h)
      · unfold Own at h; omega
      · unfold ROwn at h; omega
      · omega
      · exact absurd h not_on
      · exact absurd h not_on
      · simp at h
      · simp at h
  refine Loop.by (fun s w' => ∃ (i : Nat) (bb : Bool) (q : Option Addr) (lab : Nat → Nat) (gs gt : Option Addr) (cs ct : Nat) (S R : List Nat), s = [.int .i64 (i : Int), .bool bb, .pointer q] ∧ i ≤ 2 ∧ S.length = i ∧ R.length = i ∧ Beg w w' b bu bd rb rbu x (newPool first.toNat count.toNat) lab gs gt cs ct S R)
    (fun s _ => match s with | [.int _ k, _, _] => 2 - k.toNat | _ => 0)
    ⟨0, false, none, _, none, none, 0, 0, [], [], rfl, by omega, rfl, rfl, beg0⟩ ?_
  clear beg0 n3 hR2 hP1 f3 hf2 hf1 s3
  rintro _ w4 ⟨i, bb, q, lab, gs, gt, cs, ct, S, R, rfl, hi, hSl, hRl, h⟩
  simp only [UnC_cons, UnN_nil, AsI_int, AsB_bool, AsP_pointer]
  have plt := h.pool.lt
  have rlt := h.rp.lt
  have xlt := h.bx.lt
  have slt := h.ss.lt
  have tlt := h.tt.lt
  have sl4 : ∀ s ∈ S, s < w4.heap.size := fun s hs => (h.sl s hs).lt s (.inl rfl)
  have rl4 : ∀ s ∈ R, s < w4.heap.size := fun s hs => (h.rs s hs).lt s (.inl rfl)
  have hsz := h.fr.size
  refine BIf_cases (fun hlt => ?_) (fun hge => ?_)
  · refine Ret.use (f12 b) ?_
    rintro v w5 ⟨rfl, hS5, hf5, hs5⟩
    simp only [AsTup_tuple, UnC_cons, UnN_nil, AsI_int, AsP_pointer]
    refine Ret.use (f43 rb) ?_
    rintro v w6 ⟨rfl, hR6, hf6, hs6⟩
    simp only [AsTup_tuple, UnC_cons, UnN_nil, AsI_int, AsP_pointer]
    refine Ret.use (f14 _) ?_
    rintro v w7 ⟨rfl, hw⟩
    obtain rfl := hw.symm
    rw [AsI_int]
    refine BIf_ne (fun h => absurd rfl h) (fun _ => ?_)
    show BIf false _ _
    rw [BIf_false]
    have hf46 := hf5.trans hf6
    simp only [at0_mk, Nat.zero_add]
    obtain ⟨s, hse⟩ : ∃ s, w4.heap.size = s := ⟨_, rfl⟩
    obtain ⟨r, hre⟩ : ∃ r, w5.heap.size = r := ⟨_, rfl⟩
    rw [hse] at hS5 plt rlt xlt slt tlt sl4 rl4 hsz ⊢
    rw [hre] at hR6 ⊢
    refine (h.bx.fr0 hf46).ld rfl ?_
    rw [AsSl_slice]
    refine push_sl E33 (by decide) (h.ss.fr0 hf46) (Nat.zero_le _) rfl (by intro u hu; simp [Value.cells] at hu; subst hu; rfl) (by simp only [maxLen]; omega) (by omega) ?_
    intro gs' cs' w7 ss7 hf7 hon7
    rw [AsSl_slice]
    have xs : ¬ On gs x := fun hx => by have := h.l8 x hx; have := h.l7; omega
    have xt : ¬ On gt x := fun hx => by have := h.l9 x hx; have := h.l7; omega
    have bx7 := (h.bx.fr0 hf46).fr hf7 xs
    refine bx7.st (by simp) rfl fun w8 bx8 hf8 hs8 => ?_
    have on7 : ∀ y, On gs' y → On gs y ∨ r + 1 ≤ y := fun y hy => by
      rcases hon7 y hy with h1 | h1
      · exact .inl h1
      · exact .inr (by omega)
    have ss7lt := ss7.lt
    have gs'x : ∀ y, On gs' y → y ≠ x := fun y hy e => by
      rcases on7 y hy with h1 | h1
      · exact xs (e ▸ h1)
      · omega
    refine bx8.ld rfl ?_
    rw [AsSl_slice]
    have t6 := h.tt.fr0 hf46
    have tt7 := t6.fr hf7 fun y hy hy2 => by have := h.l9 y hy; have := h.l8 y hy2; omega
    have tt8 := tt7.fr hf8 fun y hy e => xt (e ▸ hy)
    refine push_sl E34 (by decide) tt8 (Nat.zero_le _) rfl (by intro u hu; simp [Value.cells] at hu; subst hu; rfl) (by simp only [maxLen]; omega) (by omega) ?_
    intro gt' ct' w9 tt9 hf9 hon9
    rw [AsSl_slice]
    have bx9 := bx8.fr hf9 xt
    refine bx9.st (by simp) rfl fun w10 bx10 hf10 hs10 => ?_
    have hsz7 := hf7.size
    have on9 : ∀ y, On gt' y → On gt y ∨ w7.heap.size ≤ y := fun y hy => by
      rcases hon9 y hy with h1 | h1
      · exact .inl h1
      · exact .inr (by omega)
    -- all that was written: the two lists' elder blocks and x
    have hall : Fr (fun y => On gs y ∨ On gt y ∨ y = x) w4 w10 := (((hf46.mono fun _ _ h => h.elim).trans (hf7.mono fun y _ h => .inl h)).trans (hf8.mono fun y _ h => .inr (.inr h))).trans (hf9.mono fun y _ h => .inr (.inl h)) |>.trans (hf10.mono fun y _ h => .inr (.inr h))
    have hall6 : Fr (fun y => On gs y ∨ On gt y ∨ y = x) w6 w10 := (((hf7.mono fun y _ h => .inl h)).trans (hf8.mono fun y _ h => .inr (.inr h))).trans (hf9.mono fun y _ h => .inr (.inl h)) |>.trans (hf10.mono fun y _ h => .inr (.inr h))
    have hW : ∀ y, (On gs y ∨ On gt y ∨ y = x) → lab y = 7 ∨ lab y = 8 ∨ lab y = 9 := by
      rintro y (hy | hy | rfl)
      · exact .inr (.inl (h.l8 y hy))
      · exact .inr (.inr (h.l9 y hy))
      · exact .inl h.l7
    have hWlt : ∀ y, (On gs y ∨ On gt y ∨ y = x) → y < s := by
      rintro y (hy | hy | rfl)
      · exact (slt y hy).2
      · exact (tlt y hy).2
      · exact xlt
    have hWlo : ∀ y, (On gs y ∨ On gt y ∨ y = x) → w.heap.size ≤ y := by
      rintro y (hy | hy | rfl)
      · exact h.lo y (by simp [hy])
      · exact h.lo y (by simp [hy])
      · exact h.lo y (by simp)
    rw [w64 (n := (i : Int) + 1) (by omega) (by omega)]
    refine ⟨⟨i + 1, bb, q, fun y => if y < s then lab y else if y = s then 2 + i else if y = r then 5 + i else if y < w7.heap.size then 8 else 9, gs', gt', cs', ct', S ++ [s], R ++ [r], rfl, by omega, by simp [hSl], by simp [hRl], ?_⟩, by show 2 - ((i : Int) + 1).toNat < 2 - (i : Int).toNat; omega⟩
    refine ⟨h.pool.fr hall ?_ ?_ ?_, h.rp.fr hall fun y hy hy2 => ?_, ?_, ?_, ?_, fun s' hs' => ?_, fun s' hs' => ?_, fun y hy => ?_, fun y hy => ?_, ?_, fun y hy => ?_, fun y hy => ?_, fun j s' hj => ?_, fun j s' hj => ?_, fun y hy => ?_, Fr.news h.fr hall hWlo⟩
    · intro hy; have := hW _ hy; have := h.l1 b (.inl rfl); omega
    · intro hy; have := hW _ hy; have := h.l1 bu (.inr (.inl rfl)); omega
    · intro hy; have := hW _ hy; have := h.l1 bd (.inr (.inr rfl)); omega
    · have := hW _ hy2; have := h.l4 y hy; omega
    · rw [List.length_append, List.length_append]; exact bx10
    · have e : ptrs (S ++ [s]) = ptrs S ++ [Value.pointer (some ⟨s, 0, none⟩)] := by simp [ptrs]
      rw [List.length_append, e]
      have k8 := ss7.fr hf8 fun y hy e => gs'x y hy e
      have k9 := k8.fr hf9 fun y hy hy2 => by
        rcases on7 y hy with h1 | h1
        · have := h.l8 y h1; have := h.l9 y hy2; omega
        · have := (tlt y hy2).2; omega
      exact k9.fr hf10 fun y hy e => gs'x y hy e
    · have e : ptrs (R ++ [r]) = ptrs R ++ [Value.pointer (some ⟨r, 0, none⟩)] := by simp [ptrs]
      rw [List.length_append, e]
      refine tt9.fr hf10 fun y hy e => ?_
      rcases on9 y hy with h1 | h1
      · exact xt (e ▸ h1)
      · omega
    · rcases List.mem_append.1 hs' with hs' | hs'
      · refine (h.sl s' hs').fr hall (fun hy => ?_) fun y hy => absurd hy not_on
        obtain ⟨j, hj, e⟩ := List.getElem_of_mem hs'
        have := h.lS j s' (by rw [List.getElem?_eq_getElem hj, e]); have := hW _ hy; omega
      · obtain rfl := List.mem_singleton.1 hs'
        exact (hS5.fr0 hf6).fr hall6 (fun hy => by have := hWlt _ hy; omega) fun y hy => absurd hy not_on
    · rcases List.mem_append.1 hs' with hs' | hs'
      · refine (h.rs s' hs').fr hall fun y hy hy2 => ?_
        rcases hy with rfl | hy
        · obtain ⟨j, hj, e⟩ := List.getElem_of_mem hs'
          have := h.lR j y (by rw [List.getElem?_eq_getElem hj, e]); have := hW _ hy2; omega
        · exact not_on hy
      · obtain rfl := List.mem_singleton.1 hs'
        refine hR6.fr hall6 fun y hy hy2 => ?_
        rcases hy with rfl | hy
        · have := hWlt _ hy2; omega
        · exact not_on hy
    · have := plt y hy; rw [if_pos (by omega)]; exact h.l1 y hy
    · have := rlt y hy; rw [if_pos (by omega)]; exact h.l4 y hy
    · rw [if_pos (by omega)]; exact h.l7
    · rcases on7 y hy with h1 | h1
      · have := (slt y h1).2; rw [if_pos (by omega)]; exact h.l8 y h1
      · have := (ss7lt y hy).2
        rw [if_neg (by omega), if_neg (by omega), if_neg (by omega), if_pos (by omega)]
    · rcases on9 y hy with h1 | h1
      · have := (tlt y h1).2; rw [if_pos (by omega)]; exact h.l9 y h1
      · rw [if_neg (by omega), if_neg (by omega), if_neg (by omega), if_neg (by omega)]
    · by_cases hjl : j < S.length
      · rw [List.getElem?_append_left hjl] at hj
        have := sl4 s' (List.mem_of_getElem? hj)
        rw [if_pos (by omega)]; exact h.lS j s' hj
      · rw [List.getElem?_append_right (by omega)] at hj
        have hj0 : j - S.length = 0 := by
          rcases Nat.eq_zero_or_pos (j - S.length) with h | h
          · exact h
          · rw [List.getElem?_eq_none (by simp; omega)] at hj; cases hj
        rw [hj0] at hj; simp at hj
        rw [if_neg (by omega), if_pos (by omega)]; omega
    · by_cases hjl : j < R.length
      · rw [List.getElem?_append_left hjl] at hj
        have := rl4 s' (List.mem_of_getElem? hj)
        rw [if_pos (by omega)]; exact h.lR j s' hj
      · rw [List.getElem?_append_right (by omega)] at hj
        have hj0 : j - R.length = 0 := by
          rcases Nat.eq_zero_or_pos (j - R.length) with h | h
          · exact h
          · rw [List.getElem?_eq_none (by simp; omega)] at hj; cases hj
        rw [hj0] at hj; simp at hj
        rw [if_neg (by omega), if_neg (by omega), if_pos (by omega)]; omega
    · rcases hy with hy | hy | hy | hy | hy | hy | hy
      · exact h.lo y (by simp [hy])
      · exact h.lo y (by simp [hy])
      · exact h.lo y (by simp [hy])
      · rcases on7 y hy with h1 | h1
        · exact h.lo y (by simp [h1])
        · omega
      · rcases on9 y hy with h1 | h1
        · exact h.lo y (by simp [h1])
        · omega
      · rcases List.mem_append.1 hy with hy | hy
        · exact h.lo y (by simp [hy])
        · have := List.mem_singleton.1 hy; omega
      · rcases List.mem_append.1 hy with hy | hy
        · exact h.lo y (by simp [hy])
        · have := List.mem_singleton.1 hy; omega
  · have hi2 : i = 2 := by omega
    rw [hi2] at hSl hRl
    obtain ⟨sa, sb, rfl⟩ : ∃ sa sb, S = [sa, sb] := by
      match S, hSl with
      | [a, b], _ => exact ⟨a, b, rfl⟩
    obtain ⟨ra, rc, rfl⟩ : ∃ ra rc, R = [ra, rc] := by
      match R, hRl with
      | [a, b], _ => exact ⟨a, b, rfl⟩
    obtain ⟨bs, sp, hgs, _, hss⟩ := h.ss.some_ (by simp)
    obtain ⟨bt, sp', hgt, _, htt⟩ := h.tt.some_ (by simp)
    have rs := h.ss.rd
    have rt := h.tt.rd
    have hbx := h.bx
    have l8 := h.l8 bs ⟨_, hgs, rfl⟩
    have l9 := h.l9 bt ⟨_, hgt, rfl⟩
    have lo8 := h.lo bs (by simp [On, hgs])
    have lo9 := h.lo bt (by simp [On, hgt])
    rw [hgs] at hbx rs
    rw [hgt] at hbx rt
    have lsa := h.lS 0 sa rfl
    have lsb := h.lS 1 sb rfl
    have lra := h.lR 0 ra rfl
    have lrc := h.lR 1 rc rfl
    refine .inr ⟨he, ⟨b, bu, bd, rb, rbu, x, bs, bt, cs, ct, ptrs [sa, sb], ptrs [ra, rc]⟩, sa, sb, ra, rc, rfl, rfl, rfl, fun y => if lab y = 8 ∨ lab y = 9 then 7 else lab y, none, none, none, none, 0, 0, 0, 0, ?_⟩
    have e1 : ∀ y, lab y = 8 ∨ lab y = 9 ∨ lab y = 7 → (if lab y = 8 ∨ lab y = 9 then 7 else lab y) = 7 := fun y hy => by split <;> omega
    have e2 : ∀ y, lab y < 7 → (if lab y = 8 ∨ lab y = 9 then 7 else lab y) = lab y := fun y hy => by rw [if_neg (by omega)]
    refine ⟨⟨h.pool, h.sl sa (by simp), h.sl sb (by simp), fun q h => by simp at h, fun q h => by simp at h, fun q h => by simp at h, ?_, ?_, ?_, h.fr, hT⟩, h.rp, h.rs ra (by simp), h.rs rc (by simp), ⟨fun q h => by simp at h, by simp, fun q h => by simp at h⟩, ⟨fun q h => by simp at h, by simp, fun q h => by simp at h⟩, fun q h => by simp at h, fun q h => by simp at h, fun q h => by simp at h,
      hbx, rs, rt, fun y hy => ?_, fun y hy => ?_, fun y hy => ?_, fun y hy => ?_, fun y hy => ?_, fun y hy => ?_, fun y hy => ?_, fun y hy => ?_, fun y hy => ?_⟩
    · rintro y (rfl | hy)
      · refine ⟨fun hy => by have := h.l1 _ hy; omega, ?_⟩
        rintro (e | hy)
        · rw [e] at lsa; omega
        · exact not_on hy
      · exact absurd hy not_on
    · rintro y (rfl | hy)
      · intro hy; have := h.l1 _ hy; omega
      · exact absurd hy not_on
    · rintro y (hy | (rfl | hy) | (rfl | hy))
      · exact h.lo y (by simp [hy])
      · exact h.lo _ (by simp)
      · exact absurd hy not_on
      · exact h.lo _ (by simp)
      · exact absurd hy not_on
    · have := h.l1 y hy; show (if _ then _ else _) = _; rw [e2 y (by omega)]; exact this
    · rcases hy with rfl | hy
      · show (if _ then _ else _) = _; rw [e2 _ (by omega)]; exact lsa
      · exact absurd hy not_on
    · rcases hy with rfl | hy
      · show (if _ then _ else _) = _; rw [e2 _ (by omega)]; exact lsb
      · exact absurd hy not_on
    · have := h.l4 y hy; show (if _ then _ else _) = _; rw [e2 y (by omega)]; exact this
    · rcases hy with rfl | hy
      · show (if _ then _ else _) = _; rw [e2 _ (by omega)]; exact lra
      · exact absurd hy not_on
    · rcases hy with rfl | hy
      · show (if _ then _ else _) = _; rw [e2 _ (by omega)]; exact lrc
      · exact absurd hy not_on
    · show (if _ then _ else _) = _
      refine e1 y ?_
      rcases hy with hy | hy | hy
      · exact .inr (.inr (hy ▸ h.l7))
      · exact .inl (hy ▸ l8)
      · exact .inr (.inl (hy ▸ l9))
    · rcases hy with hy | hy | hy
      · exact hy ▸ xlt
      · exact hy ▸ (slt bs ⟨_, hgs, rfl⟩).2
      · exact hy ▸ (tlt bt ⟨_, hgt, rfl⟩).2
    · rcases hy with hy | (rfl | hy) | (rfl | hy) | (hy | hy | hy)
      · exact h.lo y (by simp [hy])
      · exact h.lo _ (by simp)
      · exact absurd hy not_on
      · exact h.lo _ (by simp)
      · exact absurd hy not_on
      · exact hy ▸ h.lo _ (by simp)
      · exact hy ▸ lo8
      · exact hy ▸ lo9
end Go.Proofs.YthpodlcbikialaaDoor

set_option linter.unusedVariables false
set_option linter.unusedSimpArgs false
namespace Go.Proofs.YthpodlcbikialaaDoor
open Go Go.Sh Go.Fr

theorem wrap_I64 (n : Int) : I64 (IntKind.i64.wrap n) := by unfold I64; rw [IntKind.wrap_i64]; omega
set_option maxRecDepth 100000 in
theorem f9 {w : World} (hT : Tz w) (first count : Int) {q : Option Addr} {n c : Nat} {l : List Op5} (hs : ScrAt w q n l) (hi1 : I64 first) (hi2 : I64 count) :
    Ret prog 9 #[.int .i64 first, .int .i64 count, .slice q n c] w fun v w' => v = .bool true ∧ Fr0 w w' := by
  refine F9_of _ _ _ _ _ _ _ ?_
  unfold F9
  refine Ret.use (f11 hT first count hi1) ?_
  rintro v w1 (⟨he, rfl, hf1⟩ | ⟨he, N, sa, sb, ra, rc, rfl, hls, hlt, hP1⟩)
  · simp only [AsTup_tuple, UnC_cons, UnN_nil, AsB_bool, AsP_pointer, Bool.not_true, BIf_false]
    refine Ret.use (f13 (hT.fr0 hf1)) ?_
    rintro v w2 ⟨rfl, hf2⟩
    rw [AsB_bool, Bool.not_true, BIf_false]
    exact ⟨by trivial, hf1.trans hf2⟩
  have hf1 : Fr0 w w1 := by obtain ⟨_, _, _, _, _, _, _, _, _, h⟩ := hP1; exact h.two.fr
  simp only [AsTup_tuple, UnC_cons, UnN_nil, AsB_bool, AsP_pointer, Bool.not_true, BIf_false]
  refine Ret.use (f13 (hT.fr0 hf1)) ?_
  rintro v w2 ⟨rfl, hf2⟩
  rw [AsB_bool, Bool.not_true, BIf_false]
  show BIf false _ _
  rw [BIf_false]
  refine Loop.by (fun s w' => ∃ (i : Nat) (bb : Bool) (la lb : List Qr) (p : Pool), s = [.int .i64 (i : Int), .bool bb] ∧ i ≤ n ∧ Play w w' N sa sb ra rc la lb p)
    (fun s _ => match s with | [.int _ k, _] => n - k.toNat | _ => 0)
    ⟨0, false, [], [], _, rfl, by omega, hP1.fr0 hf2⟩ ?_
  rintro _ w3 ⟨i, bb, la, lb, p, rfl, hi, hP3⟩
  simp only [UnC_cons, UnN_nil, AsI_int, AsB_bool]
  have hf3 : Fr0 w w3 := by obtain ⟨_, _, _, _, _, _, _, _, _, h⟩ := hP3; exact h.two.fr
  have hn := hs.lt
  refine BIf_cases (fun hlt2 => ?_) (fun hge => ?_)
  · have hil : i < l.length := by rw [hs.len]; omega
    obtain ⟨o, ho⟩ : ∃ o, l[i]? = some o := ⟨_, List.getElem?_eq_getElem hil⟩
    have hok := hs.ok o (List.mem_of_getElem? ho)
    refine (hs.fr0 hf3).use ho ?_
    refine Ret.use (f35 hP3 hls hlt o hok) ?_
    rintro v w4 ⟨rfl, la', lb', p', hP4, _⟩
    rw [AsB_bool, Bool.not_true, BIf_false, w64 (n := (i : Int) + 1) (by omega) (by omega)]
    refine ⟨⟨i + 1, bb, la', lb', p', rfl, by omega, hP4⟩, ?_⟩
    show n - ((i : Int) + 1).toNat < n - (i : Int).toNat
    omega
  have tail : ∀ w4, Play w w4 N sa sb ra rc la lb p → CallS prog 15 #[.pointer (some ⟨N.x, 0, none⟩)] w4 fun v78 w79 => AsB v78 fun b80 => BIf b80 (CallS prog 35 #[.pointer (some ⟨N.x, 0, none⟩), Value.agg #[.int .i64 8, .int .i64 0, .int .i64 0, .int .i64 0, .int .i64 0]] w79 fun v81 w82 => AsB v81 fun b83 => BIf b83 (CallS prog 35 #[.pointer (some ⟨N.x, 0, none⟩), Value.agg #[.int .i64 8, .int .i64 0, .int .i64 0, .int .i64 0, .int .i64 1]] w82 fun v84 w85 => AsB v84 fun b86 => (Value.bool b86 = .bool true ∧ Fr0 w w85)) (Value.bool false = .bool true ∧ Fr0 w w82)) (Value.bool false = .bool true ∧ Fr0 w w79) := by
    rintro w4 ⟨lab, ga, gb, gra, grc, ca, cb, cra, crc, h4⟩
    refine Ret.use (f15 h4) ?_
    rintro v w5 ⟨rfl, hf5⟩
    rw [AsB_bool, BIf_true]
    refine Ret.use (f35 ⟨_, _, _, _, _, _, _, _, _, h4.fr0 hf5⟩ hls hlt ⟨8, 0, 0, 0, 0⟩ ⟨⟨by decide, by decide⟩, ⟨by decide, by decide⟩, ⟨by decide, by decide⟩, ⟨by decide, by decide⟩, ⟨by decide, by decide⟩⟩) ?_
    rintro v w6 ⟨rfl, la', lb', p', hP6, _⟩
    rw [AsB_bool, BIf_true]
    refine Ret.use (f35 hP6 hls hlt ⟨8, 0, 0, 0, 1⟩ ⟨⟨by decide, by decide⟩, ⟨by decide, by decide⟩, ⟨by decide, by decide⟩, ⟨by decide, by decide⟩, ⟨by decide, by decide⟩⟩) ?_
    rintro v w7 ⟨rfl, la'', lb'', p'', hP7, _⟩
    rw [AsB_bool]
    obtain ⟨_, _, _, _, _, _, _, _, _, h7⟩ := hP7
    exact ⟨rfl, h7.two.fr⟩
  refine Loop.by (fun s w' => ∃ (i : Nat) (bb : Bool), s = [.int .i64 (i : Int), .bool bb] ∧ i ≤ 300 ∧ Qt w3 w')
    (fun s _ => match s with | [.int _ k, _] => 300 - k.toNat | _ => 0)
    ⟨0, bb, rfl, by omega, Qt.refl _⟩ ?_
  rintro _ w4 ⟨j, bb1, rfl, hj, hq4⟩
  simp only [UnC_cons, UnN_nil, AsI_int, AsB_bool, NilP_some, Ld_drew, at0_mk, Nat.zero_add]
  have hP4 := hP3.fr0 hq4.fr
  refine BIf_cases (fun hjc => ?_) (fun hjc => tail w4 hP4)
  refine BIf_cases (fun hj3 => ?_) (fun hj3 => tail w4 hP4)
  obtain ⟨lab, ga, gb, gra, grc, ca, cb, cra, crc, h4⟩ := hP4
  refine h4.bx.ld rfl ?_
  rw [AsP_pointer]
  refine h4.bx.ld rfl ?_
  rw [AsP_pointer]
  have h4d := h4.fr0 (Qt.refl w4).drew.fr
  refine Ret.use (f16 h4d.two.pool _ (wrap_I64 _)) ?_
  rintro v w5 ⟨rfl, hq5⟩
  rw [AsI_int]
  have h5 := h4d.fr0 hq5.fr
  refine ⟨h5.bx.cell, ?_⟩
  refine Ret.use (f36 h5.rp _ (wrap_I64 _)) ?_
  rintro v w6 ⟨rfl, hq6⟩
  rw [AsI_int]
  refine BIf_ne (fun hh => absurd rfl hh) (fun _ => ?_)
  have h6 := h5.fr0 hq6.fr
  refine h6.bx.ld rfl ?_
  rw [AsP_pointer]
  refine h6.bx.ld rfl ?_
  rw [AsP_pointer]
  refine Ret.use (f16 h6.two.pool _ (wrap_I64 _)) ?_
  rintro v w7 ⟨rfl, hq7⟩
  rw [AsI_int]
  have h7 := h6.fr0 hq7.fr
  refine ⟨h7.bx.cell, ?_⟩
  refine Ret.use (f36 h7.rp _ (wrap_I64 _)) ?_
  rintro v w8 ⟨rfl, hq8⟩
  rw [AsI_int]
  refine BIf_ne (fun hh => absurd rfl hh) (fun _ => ?_)
  rw [w64 (n := (j : Int) + 1) (by omega) (by omega)]
  refine ⟨⟨j + 1, bb1, rfl, by omega, (((hq4.trans hq5.of_drew).trans hq6).trans hq7).trans hq8⟩, ?_⟩
  show 300 - ((j : Int) + 1).toNat < 300 - (j : Int).toNat
  omega
theorem f3 {w : World} (hT : Tz w) (first count f : Int) (hi1 : I64 first) (hi2 : I64 count) (hi3 : I64 f) :
    Ret prog 3 #[.int .i64 first, .int .i64 count, .int .i64 f] w fun v w' => v = .bool true ∧ Fr0 w w' := by
  refine F3_of _ _ _ _ _ ?_
  unfold F3
  refine Ret.use (f11 hT first count hi1) ?_
  rintro v w1 (⟨he, rfl, hf1⟩ | ⟨he, N, sa, sb, ra, rc, rfl, hls, hlt, hP1⟩)
  · simp only [AsTup_tuple, UnC_cons, UnN_nil, AsB_bool, AsP_pointer, Bool.not_true, BIf_false]
    refine Ret.use f12o ?_
    rintro v w2 ⟨rfl, hw⟩
    obtain rfl := hw.symm
    simp only [AsTup_tuple, UnC_cons, UnN_nil, AsI_int, AsP_pointer]
    refine Ret.use (f13 (hT.fr0 hf1)) ?_
    rintro v w2 ⟨rfl, hf2⟩
    rw [AsB_bool, Bool.not_true, BIf_false]
    show BIf false _ _
    rw [BIf_false]
    refine Ret.use (f14 _) ?_
    rintro v w3 ⟨rfl, hw⟩
    obtain rfl := hw.symm
    rw [AsI_int]
    refine BIf_ne (fun hh => absurd rfl hh) (fun _ => ?_)
    exact ⟨by trivial, hf1.trans hf2⟩
  have hf1 : Fr0 w w1 := by obtain ⟨_, _, _, _, _, _, _, _, _, h⟩ := hP1; exact h.two.fr
  simp only [AsTup_tuple, UnC_cons, UnN_nil, AsB_bool, AsP_pointer, Bool.not_true, BIf_false]
  refine Ret.use f12o ?_
  rintro v w2 ⟨rfl, hw⟩
  obtain rfl := hw.symm
  simp only [AsTup_tuple, UnC_cons, UnN_nil, AsI_int, AsP_pointer]
  refine Ret.use (f13 (hT.fr0 hf1)) ?_
  rintro v w2 ⟨rfl, hf2⟩
  rw [AsB_bool, Bool.not_true, BIf_false]
  show BIf false _ _
  rw [BIf_false]
  refine Ret.use (f14 _) ?_
  rintro v w3 ⟨rfl, hw⟩
  obtain rfl := hw.symm
  rw [AsI_int]
  refine BIf_ne (fun hh => absurd rfl hh) (fun _ => ?_)
  show BIf false _ _
  rw [BIf_false]
  obtain ⟨lab, ga, gb, gra, grc, ca, cb, cra, crc, h1⟩ := hP1
  have h2 := h1.fr0 hf2
  refine Ret.use (f15 h2) ?_
  rintro v w3 ⟨rfl, hf3⟩
  rw [AsB_bool, BIf_true]
  have h3 := h2.fr0 hf3
  simp only [NilP_some, at0_mk, Nat.zero_add]
  refine h3.bx.ld rfl ?_
  rw [AsP_pointer]
  have zat : ∀ x : Int, (newPool first.toNat count.toNat).at_ x = 0 := by
    intro x
    unfold Pool.at_ newPool
    split
    · rfl
    · simp only [List.getD, List.getElem?_replicate]; split <;> rfl
  refine Ret.use (f16 h3.two.pool f hi3) ?_
  rintro v w4 ⟨rfl, hq4⟩
  rw [AsI_int, zat]
  refine BIf_eq (fun _ => ?_) (fun hh => absurd rfl hh)
  have h4 := h3.fr0 hq4.fr
  refine h4.bx.ld rfl ?_
  rw [AsP_pointer]
  refine Ret.use (f16 h4.two.pool first hi1) ?_
  rintro v w5 ⟨rfl, hq5⟩
  rw [AsI_int, zat]
  refine BIf_eq (fun _ => ?_) (fun hh => absurd rfl hh)
  have h5 := h4.fr0 hq5.fr
  refine h5.bx.ld rfl ?_
  simp only [AsSl_slice, NilP_some, at0_mk, Nat.zero_add]
  refine ⟨by decide, by decide, ?_⟩
  refine Ld.of (Rd.cell0 h5.ss (i := 0) (by rw [hls]; rfl)) ?_
  rw [AsP_pointer]
  refine Ret.use (f17 h5.two.A) ?_
  rintro v w6 ⟨q6, c6, rfl, sl6, hf6⟩
  rw [AsSl_slice]
  refine BIf_eq (fun _ => ?_) (fun hh => absurd rfl hh)
  have h6 := h5.fr0 hf6
  refine h6.bx.ld rfl ?_
  simp only [AsSl_slice, NilP_some, at0_mk, Nat.zero_add]
  refine ⟨by decide, by decide, ?_⟩
  refine Ld.of (Rd.cell0 h6.ss (i := 1) (by rw [hls]; rfl)) ?_
  rw [AsP_pointer]
  refine Ret.use (f18 h6.two.B) ?_
  rintro v w7 ⟨q7, c7, rfl, sl7, hf7⟩
  rw [AsSl_slice]
  exact ⟨rfl, (h6.fr0 hf7).two.fr⟩
end Go.Proofs.YthpodlcbikialaaDoor
