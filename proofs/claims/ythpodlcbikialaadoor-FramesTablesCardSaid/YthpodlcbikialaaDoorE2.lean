import Derived.Test.YthpodlcbikialaaDoorE1
set_option linter.unusedVariables false
set_option linter.unusedSimpArgs false
namespace Go.Proofs.YthpodlcbikialaaDoor
open Go Go.Sh Go.Fr

/-! ## the tables of a slab, plainly -/
theorem mem_qtabs {q : Qr} {x : Nat} : x ∈ q.tabs 4 ↔ ∃ k, k < 4 ∧ q.u k = true ∧ x = 4 * q.f + k := by
  unfold Qr.tabs
  simp only [List.mem_map, List.mem_filter, List.mem_range]
  constructor
  · rintro ⟨k, ⟨h1, h2⟩, h3⟩; exact ⟨k, h1, h2, h3.symm⟩
  · rintro ⟨k, h1, h2, h3⟩; exact ⟨k, ⟨h1, h2⟩, h3.symm⟩
theorem mem_tabs {l : List Qr} {x : Nat} : x ∈ tabs l ↔ ∃ q ∈ l, ∃ k, k < 4 ∧ q.u k = true ∧ x = 4 * q.f + k := by
  unfold tabs
  simp only [List.mem_flatMap, mem_qtabs]
theorem tabs_rise {l : List Qr} (h : l.Pairwise fun a b => a.f < b.f) : (tabs l).Pairwise (· < ·) := by
  unfold tabs
  rw [List.pairwise_flatMap]
  refine ⟨fun q _ => ?_, h.imp fun {a b} hab x hx y hy => ?_⟩
  · unfold Qr.tabs
    rw [List.pairwise_map]
    exact (List.pairwise_lt_range.filter _).imp fun hab => by omega
  · obtain ⟨k, h1, _, rfl⟩ := mem_qtabs.1 hx
    obtain ⟨k', h1', _, rfl⟩ := mem_qtabs.1 hy
    omega
def base (l : List Qr) (i : Nat) : Nat := (tabs (l.take i)).length
theorem base_succ {l : List Qr} {i : Nat} {q : Qr} (h : l[i]? = some q) : base l (i + 1) = base l i + (q.tabs 4).length := by
  unfold base; rw [tabs_take h, List.length_append]
theorem tabs_cut {l : List Qr} {i : Nat} {q : Qr} (h : l[i]? = some q) : tabs l = tabs (l.take i) ++ (q.tabs 4 ++ tabs (l.drop (i + 1))) := by
  obtain ⟨hi, rfl⟩ := List.getElem?_eq_some_iff.1 h
  have e : l = l.take i ++ l[i] :: l.drop (i + 1) := by rw [← List.drop_eq_getElem_cons hi, List.take_append_drop]
  unfold tabs
  conv => lhs; rw [e]
  rw [List.flatMap_append, List.flatMap_cons]
theorem tabs_at {l : List Qr} {i n : Nat} {q : Qr} (h : l[i]? = some q) (hn : n < (q.tabs 4).length) : (tabs l)[base l i + n]? = some (q.tabs 4)[n] := by
  rw [tabs_cut h, List.getElem?_append_right (by unfold base; omega)]
  unfold base
  rw [Nat.add_sub_cancel_left, List.getElem?_append_left hn, List.getElem?_eq_getElem hn]
theorem qtabs_div {q : Qr} {n : Nat} (hn : n < (q.tabs 4).length) : (q.tabs 4)[n] / 4 = q.f := by
  obtain ⟨k, hk, _, e⟩ := mem_qtabs.1 (List.getElem_mem hn)
  rw [e]; omega
theorem qtabs_pos {l : List Qr} (h : SlabOk l) {q : Qr} (hq : q ∈ l) : 0 < (q.tabs 4).length := by
  obtain ⟨k, hk, hu⟩ := h.any q hq
  exact List.length_pos_of_mem (mem_qtabs.2 ⟨k, hk, hu, rfl⟩)
theorem base_end (l : List Qr) : base l l.length = (tabs l).length := by unfold base; rw [List.take_length]
theorem tabs_lt {l : List Qr} (h : SlabOk l) {x : Nat} (hx : x ∈ tabs l) : x < 1073741824 := by
  obtain ⟨q, hq, k, hk, _, rfl⟩ := mem_tabs.1 hx
  have := h.lt q hq; omega
theorem base_le {l : List Qr} : ∀ {i : Nat}, i ≤ l.length → base l i ≤ (tabs l).length := by
  intro i hi
  rcases Nat.lt_or_ge i l.length with h | h
  · obtain ⟨q, hq⟩ : ∃ q, l[i]? = some q := ⟨_, List.getElem?_eq_getElem h⟩
    rw [tabs_cut hq, List.length_append]; unfold base; omega
  · have : i = l.length := by omega
    rw [this, base_end]; exact Nat.le_refl _

def F31tail (ts1 : Option Addr) (ts1n : Nat) (fs0 : Option Addr) (fs0n : Nat) (i21 i24 : Int) (b27 : Bool) (w18 : World) (J16 : List Value → World → Prop) (Q : Value → World → Prop) : Prop :=
  Sh.Loop [.int .i64 (0 : Int), .int .i64 i24] w18.drew fun J49 s50 w51 => UnC s50 fun v52 s53 => AsI IntKind.i64 v52 fun i54 => UnC s53 fun v55 s56 => AsI IntKind.i64 v55 fun i57 => UnN s56 (BIf (decide (i57 < (↑ts1n : Int))) (NilP ts1 fun a58 => (0 : Int) ≤ i57 ∧ i57 < (↑ts1n : Int) ∧ Ld w51.drew (at0 a58 (i57.toNat * (1 : Nat))) fun v59 => AsI IntKind.i64 v59 fun i60 => NilP fs0 fun a61 => (0 : Int) ≤ i21 ∧ i21 < (↑fs0n : Int) ∧ Ld w51.drew (at0 a61 (i21.toNat * (1 : Nat))) fun v62 => AsI IntKind.i64 v62 fun i63 => BIf (IntKind.i64.wrap (i60.tdiv (4 : Int)) == i63) (J49 [.int .i64 (IntKind.i64.wrap (i54 + (1 : Int))), .int .i64 (IntKind.i64.wrap (i57 + (1 : Int)))] w51.drew) (BIf (i54 == (0 : Int)) (Q (.bool false) w51.drew) (J16 [.int .i64 (IntKind.i64.wrap (i21 + (1 : Int))), .int .i64 i57, .bool b27] w51.drew))) (BIf (i54 == (0 : Int)) (Q (.bool false) w51.drew) (J16 [.int .i64 (IntKind.i64.wrap (i21 + (1 : Int))), .int .i64 i57, .bool b27] w51.drew)))
theorem f31tail {w : World} {fq tq : Option Addr} {l : List Qr} (hok : SlabOk l) (hF : Rd w fq (i64n (l.map Qr.f))) (hTs : Rd w tq (i64n (tabs l))) {i : Nat} {q : Qr} (hq : l[i]? = some q) (b : Bool) {J : List Value → World → Prop} {Q : Value → World → Prop}
    (hJ : ∀ b' w', Qt w w' → J [.int .i64 ((i + 1 : Nat) : Int), .int .i64 ((base l (i + 1) : Nat) : Int), .bool b'] w') : F31tail tq (tabs l).length fq l.length (i : Int) ((base l i : Nat) : Int) b w J Q := by
  have hN := hok.len
  have hqm := List.mem_of_getElem? hq
  have hil := (List.getElem?_eq_some_iff.1 hq).1
  have hqf := hok.lt q hqm
  have hpos := qtabs_pos hok hqm
  have hT4 := tabs_len l
  have hbs := base_succ hq
  have hbl := base_le (l := l) (i := i + 1) (by omega)
  unfold F31tail
  simp only [Ld_drew]
  refine Loop.by (fun s w' => ∃ (n : Nat), s = [.int .i64 (n : Int), .int .i64 ((base l i + n : Nat) : Int)] ∧ n ≤ (q.tabs 4).length ∧ Qt w w')
    (fun s _ => match s with | [.int _ k, _] => (q.tabs 4).length + 1 - k.toNat | _ => 0)
    ⟨0, rfl, by omega, (Qt.refl w).drew⟩ ?_
  rintro _ w1 ⟨n, rfl, hn, hqt⟩
  simp only [UnC_cons, UnN_nil, AsI_int]
  have hF1 := hF.qt hqt
  have hT1 := hTs.qt hqt
  rw [i64n_eq] at hF1 hT1
  rw [w64 (n := (n : Int) + 1) (by omega) (by omega), w64 (n := ((base l i + n : Nat) : Int) + 1) (by omega) (by omega), w64 (n := (i : Int) + 1) (by omega) (by omega)]
  have fin : n = (q.tabs 4).length → ∀ w', Qt w w' → J [.int .i64 ((i : Int) + 1), .int .i64 ((base l i + n : Nat) : Int), .bool b] w' := by
    intro e w' hq'
    have := hJ b w' hq'
    rw [hbs, ← e] at this
    exact this
  refine BIf_cases (fun hlt => ?_) (fun hge => ?_)
  · by_cases hnl : n < (q.tabs 4).length
    · have hat := tabs_at hq hnl
      have hmem : (q.tabs 4)[n] ∈ tabs l := List.mem_of_getElem? hat
      have hxl := tabs_lt hok hmem
      have hdiv := qtabs_div hnl
      refine hT1.int (by rw [List.length_map]) (by omega) (x := (((q.tabs 4)[n] : Nat) : Int)) (by rw [Int.toNat_natCast, List.getElem?_map, hat]; rfl) ?_
      refine hF1.int (by rw [List.length_map, List.length_map]) (by omega) (x := ((q.f : Nat) : Int)) (by rw [Int.toNat_natCast, List.getElem?_map, List.getElem?_map, hq]; rfl) ?_
      rw [IntWalk.i64_quo _ _ ⟨by omega, by omega, by omega⟩]
      refine BIf_eq (fun h => ?_) (fun h => absurd (by omega) h)
      refine ⟨⟨n + 1, rfl, by omega, hqt.drew⟩, ?_⟩
      show (q.tabs 4).length + 1 - ((n : Int) + 1).toNat < (q.tabs 4).length + 1 - (n : Int).toNat
      omega
    · have hn2 : n = (q.tabs 4).length := by omega
      have hil2 : i + 1 < l.length := by
        rcases Nat.lt_or_ge (i + 1) l.length with h | h
        · exact h
        · have e : i + 1 = l.length := by omega
          rw [e, base_end] at hbs; omega
      obtain ⟨q', hq'⟩ : ∃ q', l[i + 1]? = some q' := ⟨_, List.getElem?_eq_getElem hil2⟩
      have hqm' := List.mem_of_getElem? hq'
      have hpos' := qtabs_pos hok hqm'
      have hat := tabs_at hq' hpos'
      rw [Nat.add_zero, hbs, ← hn2] at hat
      have hxl := tabs_lt hok (List.mem_of_getElem? hat)
      have hdiv := qtabs_div hpos'
      have hff : q.f < q'.f := by
        have := List.pairwise_iff_getElem.1 hok.rise i (i + 1) hil hil2 (by omega)
        rw [(List.getElem?_eq_some_iff.1 hq).2, (List.getElem?_eq_some_iff.1 hq').2] at this
        exact this
      refine hT1.int (by rw [List.length_map]) (by omega) (x := (((q'.tabs 4)[0] : Nat) : Int)) (by rw [Int.toNat_natCast, List.getElem?_map, hat]; rfl) ?_
      refine hF1.int (by rw [List.length_map, List.length_map]) (by omega) (x := ((q.f : Nat) : Int)) (by rw [Int.toNat_natCast, List.getElem?_map, List.getElem?_map, hq]; rfl) ?_
      rw [IntWalk.i64_quo _ _ ⟨by omega, by omega, by omega⟩]
      refine BIf_eq (fun h => absurd h (by omega)) (fun h => ?_)
      refine BIf_eq (fun h => absurd h (by omega)) (fun h => ?_)
      exact fin hn2 _ hqt.drew
  · refine BIf_eq (fun h => absurd h (by omega)) (fun h => ?_)
    exact fin (by omega) _ hqt.drew
/-- the frames and the tables of one slab fit -/
theorem f31 {w : World} {fq tq : Option Addr} {fc tc : Nat} {l : List Qr} (hok : SlabOk l) (hF : Rd w fq (i64n (l.map Qr.f))) (hTs : Rd w tq (i64n (tabs l))) :
    Ret prog 31 #[.slice fq l.length fc, .slice tq (tabs l).length tc] w fun v w' => v = .bool true ∧ Qt w w' := by
  have hN := hok.len
  have hT4 := tabs_len l
  have hrise := tabs_rise hok.rise
  refine F31_of _ _ _ _ _ _ _ _ ?_
  unfold F31
  simp only [Ld_drew]
  refine Loop.by (fun s w' => ∃ (i : Nat) (b : Bool), s = [.int .i64 (i : Int), .bool b] ∧ 1 ≤ i ∧ (i ≤ (tabs l).length ∨ i = 1) ∧ Qt w w')
    (fun s _ => match s with | [.int _ k, _] => (tabs l).length - k.toNat | _ => 0)
    ⟨1, false, rfl, by omega, .inr rfl, Qt.refl w⟩ ?_
  rintro _ w1 ⟨i, b, rfl, hi, hi2, hq⟩
  simp only [UnC_cons, UnN_nil, AsI_int, AsB_bool]
  have hT1 := hTs.qt hq
  have hF1 := hF.qt hq
  refine BIf_cases (fun hlt => ?_) (fun hge => ?_)
  · have hT1' := hT1
    rw [i64n_eq] at hT1'
    have hil : i < (tabs l).length := by omega
    rw [w64 (n := (i : Int) - 1) (by omega) (by omega), w64 (n := (i : Int) + 1) (by omega) (by omega)]
    have e1 : ((i : Int) - 1).toNat = i - 1 := by omega
    refine hT1'.int (by rw [List.length_map]) (by omega) (x := (((tabs l)[i] : Nat) : Int)) (by rw [Int.toNat_natCast, List.getElem?_map, List.getElem?_eq_getElem hil]; rfl) ?_
    refine hT1'.int (by rw [List.length_map]) (by omega) (x := (((tabs l)[i - 1] : Nat) : Int)) (by rw [e1, List.getElem?_map, List.getElem?_eq_getElem (by omega)]; rfl) ?_
    have := List.pairwise_iff_getElem.1 hrise (i - 1) i (by omega) hil (by omega)
    refine BIf_neg (by omega) ?_
    refine ⟨⟨i + 1, b, rfl, by omega, .inl (by omega), hq.drew⟩, ?_⟩
    show (tabs l).length - ((i : Int) + 1).toNat < (tabs l).length - (i : Int).toNat
    omega
  refine Loop.by (fun s w' => ∃ (i : Nat) (b : Bool), s = [.int .i64 (i : Int), .int .i64 ((base l i : Nat) : Int), .bool b] ∧ i ≤ l.length ∧ Qt w w')
    (fun s _ => match s with | [.int _ k, _, _] => l.length - k.toNat | _ => 0)
    ⟨0, b, rfl, by omega, hq⟩ ?_
  rintro _ w2 ⟨j, b1, rfl, hj, hq2⟩
  simp only [UnC_cons, UnN_nil, AsI_int, AsB_bool]
  refine BIf_cases (fun hlt => ?_) (fun hge2 => ?_)
  · have hjl : j < l.length := by omega
    obtain ⟨x, hx⟩ : ∃ x, l[j]? = some x := ⟨_, List.getElem?_eq_getElem hjl⟩
    have tl := f31tail (J := fun s' w' => (∃ (i : Nat) (b : Bool), s' = [.int .i64 (i : Int), .int .i64 ((base l i : Nat) : Int), .bool b] ∧ i ≤ l.length ∧ Qt w w') ∧ (match s' with | [.int _ k, _, _] => l.length - k.toNat | _ => 0) < l.length - (j : Int).toNat)
      (Q := fun v w' => v = .bool true ∧ Qt w w') hok (hF.qt hq2) (hTs.qt hq2) hx b1 (fun b' w' hq3 => by
        refine ⟨⟨j + 1, b', rfl, by omega, hq2.trans hq3⟩, ?_⟩
        show l.length - ((j + 1 : Nat) : Int).toNat < l.length - (j : Int).toNat
        omega)
    unfold F31tail at tl
    simp only [Ld_drew] at tl
    refine BIf_cases (fun hpos => ?_) (fun hz => ?_)
    · have hF2 := hF.qt hq2
      rw [i64n_eq] at hF2
      rw [w64 (n := (j : Int) - 1) (by omega) (by omega)]
      have e1 : ((j : Int) - 1).toNat = j - 1 := by omega
      have hm : j - 1 < l.length := by omega
      refine hF2.int (by rw [List.length_map, List.length_map]) (by omega) (x := ((x.f : Nat) : Int)) (by rw [Int.toNat_natCast, List.getElem?_map, List.getElem?_map, hx]; rfl) ?_
      refine hF2.int (by rw [List.length_map, List.length_map]) (by omega) (x := ((l[j - 1].f : Nat) : Int)) (by rw [e1, List.getElem?_map, List.getElem?_map, List.getElem?_eq_getElem hm]; rfl) ?_
      have := List.pairwise_iff_getElem.1 hok.rise (j - 1) j hm hjl (by omega)
      rw [(List.getElem?_eq_some_iff.1 hx).2] at this
      refine BIf_neg (by omega) ?_
      exact tl
    · exact tl
  · have hj2 : j = l.length := by omega
    rw [hj2, base_end]
    exact ⟨by simp, hq2⟩
end Go.Proofs.YthpodlcbikialaaDoor
