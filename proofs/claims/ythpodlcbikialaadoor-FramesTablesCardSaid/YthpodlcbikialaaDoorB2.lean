import Derived.Test.YthpodlcbikialaaDoorB1
set_option linter.unusedVariables false
set_option linter.unusedSimpArgs false
namespace Go.Proofs.YthpodlcbikialaaDoor
open Go Go.Sh Go.Fr

theorem Qr.tabs_len (q : Qr) (k : Nat) : (q.tabs k).length ≤ k := by
  unfold Qr.tabs
  rw [List.length_map]
  have := List.length_filter_le q.u (List.range k)
  simpa using this
theorem tabs_len : ∀ (l : List Qr), (tabs l).length ≤ 4 * l.length
  | [] => by simp [tabs]
  | q :: r => by
    have h1 := tabs_len r
    have h2 := q.tabs_len 4
    simp only [tabs, List.flatMap_cons, List.length_append, List.length_cons] at *
    omega
theorem Qr.tabs_succ (q : Qr) (k : Nat) : q.tabs (k + 1) = q.tabs k ++ (if q.u k then [4 * q.f + k] else []) := by
  unfold Qr.tabs
  rw [List.range_succ, List.filter_append, List.map_append]
  congr 1
  by_cases h : q.u k <;> simp [h]
theorem tabs_take {l : List Qr} {i : Nat} {x : Qr} (h : l[i]? = some x) : tabs (l.take (i + 1)) = tabs (l.take i) ++ x.tabs 4 := by
  rw [List.take_add_one, h]; simp [tabs, List.flatMap_append]

theorem f17 {w : World} {s b c : Nat} {g : Option Addr} {l : List Qr} (hS : SlabAt w s b g c l) :
    Ret prog 17 #[.pointer (some ⟨s, 0, none⟩)] w fun v w' => ∃ q d, v = .slice q (tabs l).length d ∧ Sl w' w.heap.size 3 1 q (tabs l).length d (i64n (tabs l)) ∧ Fr0 w w' := by
  have hN := hS.ok.len
  refine F17_of _ _ _ ?_
  unfold F17
  simp only [at0_mk, Nat.zero_add]
  refine hS.st.ld rfl ?_
  rw [AsSl_slice]
  refine Loop.by (fun s w' => ∃ (i : Nat) (q : Option Addr) (d : Nat), s = [.int .i64 (i : Int), .slice q (tabs (l.take i)).length d] ∧ i ≤ l.length ∧ Sl w' w.heap.size 3 1 q (tabs (l.take i)).length d (i64n (tabs (l.take i))) ∧ Fr0 w w')
    (fun s _ => match s with | [.int _ k, _] => l.length - k.toNat | _ => 0)
    ⟨0, none, 0, rfl, by omega, Sl.nil _ _ _ _, Fr.refl _ _⟩ ?_
  rintro _ w1 ⟨i, q, d, rfl, hi, hsl, hf⟩
  simp only [UnC_cons, UnN_nil, AsI_int, AsSl_slice]
  refine BIf_cases (fun hlt => ?_) (fun hge => ?_)
  · have hil : i < l.length := by omega
    obtain ⟨x, hx⟩ : ∃ x, l[i]? = some x := ⟨_, List.getElem?_eq_getElem hil⟩
    have hxm : x ∈ l := List.mem_of_getElem? hx
    have hxf := hS.ok.lt x hxm
    obtain ⟨gb, sp, rfl, _, hh⟩ := (hS.sl.fr0 hf).some_ (by omega)
    simp only [NilP_some, at0_mk, Nat.zero_add, Int.toNat_natCast]
    refine ⟨by omega, by omega, ?_⟩
    refine hh.ld (q_get0 hx sp) ?_
    rw [AsI_int]
    refine hh.ld (q_get hx sp 1 (by decide)) ?_
    rw [AsB_bool]
    refine hh.ld (q_get hx sp 2 (by decide)) ?_
    rw [AsB_bool]
    refine hh.ld (q_get hx sp 3 (by decide)) ?_
    rw [AsB_bool]
    refine hh.ld (q_get hx sp 4 (by decide)) ?_
    rw [AsB_bool]
    refine New.mk fun w2 n2 f2 s2 => ?_
    simp only [at0_mk, Nat.zero_add]
    refine n2.st (by simp) rfl fun w3 n3 f3 s3 => ?_
    refine n3.st (by simp) rfl fun w4 n4 f4 s4 => ?_
    refine n4.st (by simp) rfl fun w5 n5 f5 s5 => ?_
    refine n5.st (by simp) rfl fun w6 n6 f6 s6 => ?_
    refine n6.st (by simp) rfl fun w7 n7 f7 s7 => ?_
    replace n7 : Has w7 w1.heap.size (qCells x) := n7
    refine n7.ld rfl ?_
    rw [AsB_bool]
    refine n7.ld rfl ?_
    rw [AsB_bool]
    refine n7.ld rfl ?_
    rw [AsB_bool]
    refine n7.ld rfl ?_
    rw [AsB_bool]
    have hf7 : Fr0 w1 w7 := (((((f2.mono fun _ _ h => h.elim).trans f3).trans f4).trans f5).trans f6 |>.trans f7).mono fun x hx h => by omega
    have hsz7 : w1.heap.size < w7.heap.size := by omega
    have htl := tabs_len (l.take i)
    rw [List.length_take, Nat.min_eq_left (by omega)] at htl
    refine Loop.by (fun s w' => ∃ (k : Nat) (q : Option Addr) (d : Nat), s = [.int .i64 (k : Int), .slice q (tabs (l.take i) ++ x.tabs k).length d] ∧ k ≤ 4 ∧ Sl w' w.heap.size 3 1 q (tabs (l.take i) ++ x.tabs k).length d (i64n (tabs (l.take i) ++ x.tabs k)) ∧ Fr0 w w' ∧
        Has w' w1.heap.size (qCells x) ∧ ¬ On q w1.heap.size ∧ w1.heap.size < w'.heap.size)
      (fun s _ => match s with | [.int _ k, _] => 4 - k.toNat | _ => 0)
      ⟨0, q, d, by simp [Qr.tabs], by omega, by simpa [Qr.tabs] using hsl.fr0 hf7, hf.trans hf7, n7, fun h => by have := (hsl.lt _ h).2; omega, hsz7⟩ ?_
    rintro _ w8 ⟨k, q1, d1, rfl, hk, hsl1, hf1, hn1, hon1, hsz1⟩
    simp only [UnC_cons, UnN_nil, AsI_int, AsSl_slice]
    have hkl := x.tabs_len k
    refine BIf_cases (fun hlt => ?_) (fun hge => ?_)
    · have hk4 : k < 4 := by omega
      refine Join.triv ?_
      simp only [Int.toNat_natCast, Nat.mul_one]
      refine ⟨by omega, by omega, .bool (x.u k), ?_, ?_⟩
      · rcases k with _ | _ | _ | _ | k
        · rfl
        · rfl
        · rfl
        · rfl
        · omega
      rw [AsB_bool]
      refine BIf_b (fun hu => ?_) (fun hu => ?_)
      · refine hn1.ld rfl ?_
        rw [AsI_int, w64 (n := (4 : Int) * ((x.f : Nat) : Int)) (by omega) (by omega), w64 (n := (4 : Int) * ((x.f : Nat) : Int) + (k : Int)) (by omega) (by omega)]
        refine push_sl E38 (by decide) hsl1 hf1.size rfl (by intro u hu; simp [Value.cells] at hu; subst hu; rfl) (by simp only [maxLen, List.length_append]; omega) (by simp only [List.length_append]; omega) ?_
        intro p' c' w9 hsl9 hf9 hon9
        simp only [UnC_cons, UnN_nil, AsSl_slice]
        rw [w64 (n := (k : Int) + 1) (by omega) (by omega)]
        have e : tabs (l.take i) ++ x.tabs (k + 1) = (tabs (l.take i) ++ x.tabs k) ++ [4 * x.f + k] := by rw [x.tabs_succ, if_pos hu, List.append_assoc]
        refine ⟨⟨k + 1, p', c', by rw [e]; simp [Nat.add_assoc], by omega, ?_, hf1.own hf9 (fun b hb hlt => by have := (hsl1.lt b hb).1; omega), hn1.fr hf9 hon1, ?_, by have := hf9.size; omega⟩, ?_⟩
        · rw [e, List.length_append]
          have : i64n ((tabs (l.take i) ++ x.tabs k) ++ [4 * x.f + k]) = i64n (tabs (l.take i) ++ x.tabs k) ++ [.int .i64 (4 * ((x.f : Nat) : Int) + ((k : Nat) : Int))] := by simp [i64n]
          rw [this]; exact hsl9
        · intro h
          rcases hon9 _ h with h | h
          · exact hon1 h
          · omega
        · show 4 - ((k : Int) + 1).toNat < 4 - (k : Int).toNat
          omega
      · simp only [UnC_cons, UnN_nil, AsSl_slice]
        rw [w64 (n := (k : Int) + 1) (by omega) (by omega)]
        have e : tabs (l.take i) ++ x.tabs (k + 1) = (tabs (l.take i) ++ x.tabs k) := by rw [x.tabs_succ, hu]; simp
        refine ⟨⟨k + 1, q1, d1, by rw [e]; rfl, by omega, by rw [e]; exact hsl1, hf1, hn1, hon1, hsz1⟩, ?_⟩
        show 4 - ((k : Int) + 1).toNat < 4 - (k : Int).toNat
        omega
    · obtain rfl : k = 4 := by omega
      rw [w64 (n := (i : Int) + 1) (by omega) (by omega)]
      refine ⟨⟨i + 1, q1, d1, by rw [tabs_take hx]; rfl, by omega, by rw [tabs_take hx]; exact hsl1, hf1⟩, ?_⟩
      show l.length - ((i : Int) + 1).toNat < l.length - (i : Int).toNat
      omega
  · obtain rfl : i = l.length := by omega
    rw [List.take_length] at hsl ⊢
    exact ⟨q, d, rfl, hsl, hf⟩
end Go.Proofs.YthpodlcbikialaaDoor
