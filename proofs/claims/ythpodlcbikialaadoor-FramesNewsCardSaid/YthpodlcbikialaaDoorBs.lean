import Derived.Test.YthpodlcbikialaaDoorAs
import Derived.Test.YthpodlcbikialaaDoorShMems
set_option linter.unusedVariables false
set_option linter.unusedSimpArgs false
set_option linter.unusedVariables false
set_option linter.unusedSimpArgs false
namespace Go.Proofs.YthpodlcbikialaaDoor
open Go Go.Sh Go.Fr

/-! ## slabs -/
structure Qr where
  f : Nat
  u : Nat → Bool
def Qr.set (q : Qr) (k : Nat) (v : Bool) : Qr := ⟨q.f, fun j => if j = k then v else q.u j⟩
def Qr.new (f : Nat) : Qr := ⟨f, fun k => decide (k = 0)⟩
def Qr.tabs (q : Qr) (k : Nat) : List Nat := ((List.range k).filter q.u).map fun k => 4 * q.f + k
def tabs (l : List Qr) : List Nat := l.flatMap fun q => q.tabs 4
def qCells (q : Qr) : List Value := [.int .i64 ((q.f : Nat) : Int), .bool (q.u 0), .bool (q.u 1), .bool (q.u 2), .bool (q.u 3)]
def qsCells (l : List Qr) : List Value := l.flatMap qCells
def i64n (l : List Nat) : List Value := l.map fun n => Value.int .i64 ((n : Nat) : Int)
structure SlabOk (l : List Qr) : Prop where
  lt : ∀ q ∈ l, q.f < 268435456
  rise : l.Pairwise fun a b => a.f < b.f
  any : ∀ q ∈ l, ∃ k, k < 4 ∧ q.u k = true
structure SlabAt (w : World) (s b : Nat) (g : Option Addr) (c : Nat) (l : List Qr) : Prop where
  st : Has w s [.pointer (some ⟨b, 0, none⟩), .slice g l.length c]
  sl : Sl w 0 86 5 g l.length c (qsCells l)
  ne : ¬ On g s
  ok : SlabOk l
theorem E78 : ElemT prog 78 86 (.agg #[.int .i64 0, .bool false, .bool false, .bool false, .bool false]) 5 16 := ⟨by kernel_rfl, by kernel_rfl, rfl, by decide⟩
theorem SlabAt.fr {S : Nat → Prop} {w w' : World} {s b c : Nat} {g : Option Addr} {l : List Qr} (h : SlabAt w s b g c l) (f : Fr S w w') (h1 : ¬ S s) (h2 : ∀ x, On g x → ¬ S x) : SlabAt w' s b g c l :=
  ⟨h.st.fr f h1, h.sl.fr f h2, h.ne, h.ok⟩
theorem SlabAt.fr0 {w w' : World} {s b c : Nat} {g : Option Addr} {l : List Qr} (h : SlabAt w s b g c l) (f : Fr0 w w') : SlabAt w' s b g c l := h.fr f (fun h => h) fun _ _ h => h
theorem SlabAt.qt {w w' : World} {s b c : Nat} {g : Option Addr} {l : List Qr} (h : SlabAt w s b g c l) (f : Qt w w') : SlabAt w' s b g c l := h.fr0 f.fr
theorem q_len (q : Qr) : (qCells q).length = 5 := rfl
theorem q_get {l : List Qr} {i : Nat} {q : Qr} (h : l[i]? = some q) (sp : List Value) (j : Nat) (hj : j < 5) : (qsCells l ++ sp)[i * 5 + j]? = (qCells q)[j]? := by
  rw [List.getElem?_append_left (by rw [qsCells, flat_len q_len]; have := (List.getElem?_eq_some_iff.1 h).1; omega)]
  exact flat_get q_len l i j hj q h
theorem q_get0 {l : List Qr} {i : Nat} {q : Qr} (h : l[i]? = some q) (sp : List Value) : (qsCells l ++ sp)[i * 5]? = some (.int .i64 ((q.f : Nat) : Int)) := q_get h sp 0 (by decide)
theorem q_getk {l : List Qr} {i : Nat} {q : Qr} (h : l[i]? = some q) (sp : List Value) (k : Nat) (hk : k < 4) : (qsCells l ++ sp)[i * 5 + 1 + k]? = some (.bool (q.u k)) := by
  rw [Nat.add_assoc, q_get h sp (1 + k) (by omega)]
  rcases k with _ | _ | _ | _ | k
  · rfl
  · rfl
  · rfl
  · rfl
  · omega
theorem rise_len : ∀ {l : List Qr} {m N : Nat}, (∀ q ∈ l, m ≤ q.f ∧ q.f < N) → l.Pairwise (fun a b => a.f < b.f) → l.length ≤ N - m
  | [], m, N, _, _ => by simp
  | q :: r, m, N, h, hp => by
    have h1 := h q (by simp)
    obtain ⟨h2, h3⟩ := List.pairwise_cons.1 hp
    have := rise_len (l := r) (m := q.f + 1) (N := N) (fun x hx => ⟨h2 x hx, (h x (by simp [hx])).2⟩) h3
    simp only [List.length_cons]; omega
theorem SlabOk.len {l : List Qr} (h : SlabOk l) : l.length ≤ 268435456 := rise_len (fun q hq => ⟨Nat.zero_le _, h.lt q hq⟩) h.rise

theorem f18 {w : World} {s b c : Nat} {g : Option Addr} {l : List Qr} (hS : SlabAt w s b g c l) :
    Ret prog 18 #[.pointer (some ⟨s, 0, none⟩)] w fun v w' => ∃ q d, v = .slice q l.length d ∧ Sl w' w.heap.size 3 1 q l.length d (i64n (l.map Qr.f)) ∧ Fr0 w w' := by
  have hN := hS.ok.len
  refine F18_of _ _ _ ?_
  unfold F18
  simp only [at0_mk, Nat.zero_add]
  refine hS.st.ld rfl ?_
  rw [AsSl_slice]
  refine Loop.by (fun s w' => ∃ (i : Nat) (q : Option Addr) (d : Nat), s = [.int .i64 (i : Int), .slice q i d] ∧ i ≤ l.length ∧ Sl w' w.heap.size 3 1 q i d (i64n ((l.take i).map Qr.f)) ∧ Fr0 w w')
    (fun s _ => match s with | [.int _ k, _] => l.length - k.toNat | _ => 0)
    ⟨0, none, 0, rfl, by omega, Sl.nil _ _ _ _, Fr.refl _ _⟩ ?_
  rintro _ w1 ⟨i, q, d, rfl, hi, hsl, hf⟩
  simp only [UnC_cons, UnN_nil, AsI_int, AsSl_slice]
  refine BIf_cases (fun hlt => ?_) (fun hge => ?_)
  · have hil : i < l.length := by omega
    obtain ⟨x, hx⟩ : ∃ x, l[i]? = some x := ⟨_, List.getElem?_eq_getElem hil⟩
    have hxm : x ∈ l := List.mem_of_getElem? hx
    obtain ⟨gb, sp, rfl, _, hh⟩ := (hS.sl.fr0 hf).some_ (by omega)
    simp only [NilP_some, at0_mk, Nat.zero_add, Int.toNat_natCast]
    refine ⟨by omega, by omega, ?_⟩
    refine hh.ld (q_get0 hx sp) ?_
    rw [AsI_int]
    refine hh.ld (q_get hx sp 1 (by decide)) ?_
    rw [AsB_bool]
    refine hh.ld (q_get hx sp 2 (by decide)) ?_
    rw [AsB_bool]
    refine hh.ld (q_get hx sp 3 (by decide)) ?_
    rw [AsB_bool]
    refine hh.ld (q_get hx sp 4 (by decide)) ?_
    rw [AsB_bool]
    refine New.mk fun w2 n2 f2 s2 => ?_
    simp only [at0_mk, Nat.zero_add]
    refine n2.st (by simp) rfl fun w3 n3 f3 s3 => ?_
    refine n3.st (by simp) rfl fun w4 n4 f4 s4 => ?_
    refine n4.st (by simp) rfl fun w5 n5 f5 s5 => ?_
    refine n5.st (by simp) rfl fun w6 n6 f6 s6 => ?_
    refine n6.st (by simp) rfl fun w7 n7 f7 s7 => ?_
    refine n7.ld rfl ?_
    rw [AsI_int]
    have hf7 : Fr0 w1 w7 := (((((f2.mono fun _ _ h => h.elim).trans f3).trans f4).trans f5).trans f6 |>.trans f7).mono fun x hx h => by omega
    refine push_sl E38 (by decide) (hsl.fr0 hf7) (by have := hf.size; have := hf7.size; omega) rfl (by intro u hu; simp [Value.cells] at hu; subst hu; rfl) (by simp only [maxLen]; omega) (by omega) ?_
    intro p' c' w8 hsl8 hf8 hon8
    rw [AsSl_slice, w64 (n := (i : Int) + 1) (by omega) (by omega)]
    refine ⟨⟨i + 1, p', c', rfl, by omega, ?_, (hf.trans hf7).own hf8 (fun b hb hlt => by have := (hsl.lt b hb).1; omega)⟩, ?_⟩
    · have e : i64n ((l.take (i + 1)).map Qr.f) = i64n ((l.take i).map Qr.f) ++ [.int .i64 ((x.f : Nat) : Int)] := by
        rw [List.take_add_one, hx]; simp [i64n]
      rw [e]; exact hsl8
    · show l.length - ((i : Int) + 1).toNat < l.length - (i : Int).toNat
      omega
  · obtain rfl : i = l.length := by omega
    rw [List.take_length] at hsl
    exact ⟨q, d, rfl, hsl, hf⟩
end Go.Proofs.YthpodlcbikialaaDoor

set_option linter.unusedVariables false
set_option linter.unusedSimpArgs false
namespace Go.Proofs.YthpodlcbikialaaDoor
open Go Go.Sh Go.Fr

theorem Qr.tabs_len (q : Qr) (k : Nat) : (q.tabs k).length ≤ k := by
  unfold Qr.tabs
  rw [List.length_map]
  have := List.length_filter_le q.u (List.range k)
  simpa using this
theorem tabs_len : ∀ (l : List Qr), (tabs l).length ≤ 4 * l.length
  | [] => by simp [tabs]
  | q :: r => by
    have h1 := tabs_len r
    have h2 := q.tabs_len 4
    simp only [tabs, List.flatMap_cons, List.length_append, List.length_cons] at *
    omega
theorem Qr.tabs_succ (q : Qr) (k : Nat) : q.tabs (k + 1) = q.tabs k ++ (if q.u k then [4 * q.f + k] else []) := by
  unfold Qr.tabs
  rw [List.range_succ, List.filter_append, List.map_append]
  congr 1
  by_cases h : q.u k <;> simp [h]
theorem tabs_take {l : List Qr} {i : Nat} {x : Qr} (h : l[i]? = some x) : tabs (l.take (i + 1)) = tabs (l.take i) ++ x.tabs 4 := by
  rw [List.take_add_one, h]; simp [tabs, List.flatMap_append]

theorem f17 {w : World} {s b c : Nat} {g : Option Addr} {l : List Qr} (hS : SlabAt w s b g c l) :
    Ret prog 17 #[.pointer (some ⟨s, 0, none⟩)] w fun v w' => ∃ q d, v = .slice q (tabs l).length d ∧ Sl w' w.heap.size 3 1 q (tabs l).length d (i64n (tabs l)) ∧ Fr0 w w' := by
  have hN := hS.ok.len
  refine F17_of _ _ _ ?_
  unfold F17
  simp only [at0_mk, Nat.zero_add]
  refine hS.st.ld rfl ?_
  rw [AsSl_slice]
  refine Loop.by (fun s w' => ∃ (i : Nat) (q : Option Addr) (d : Nat), s = [.int .i64 (i : Int), .slice q (tabs (l.take i)).length d] ∧ i ≤ l.length ∧ Sl w' w.heap.size 3 1 q (tabs (l.take i)).length d (i64n (tabs (l.take i))) ∧ Fr0 w w')
    (fun s _ => match s with | [.int _ k, _] => l.length - k.toNat | _ => 0)
    ⟨0, none, 0, rfl, by omega, Sl.nil _ _ _ _, Fr.refl _ _⟩ ?_
  rintro _ w1 ⟨i, q, d, rfl, hi, hsl, hf⟩
  simp only [UnC_cons, UnN_nil, AsI_int, AsSl_slice]
  refine BIf_cases (fun hlt => ?_) (fun hge => ?_)
  · have hil : i < l.length := by omega
    obtain ⟨x, hx⟩ : ∃ x, l[i]? = some x := ⟨_, List.getElem?_eq_getElem hil⟩
    have hxm : x ∈ l := List.mem_of_getElem? hx
    have hxf := hS.ok.lt x hxm
    obtain ⟨gb, sp, rfl, _, hh⟩ := (hS.sl.fr0 hf).some_ (by omega)
    simp only [NilP_some, at0_mk, Nat.zero_add, Int.toNat_natCast]
    refine ⟨by omega, by omega, ?_⟩
    refine hh.ld (q_get0 hx sp) ?_
    rw [AsI_int]
    refine hh.ld (q_get hx sp 1 (by decide)) ?_
    rw [AsB_bool]
    refine hh.ld (q_get hx sp 2 (by decide)) ?_
    rw [AsB_bool]
    refine hh.ld (q_get hx sp 3 (by decide)) ?_
    rw [AsB_bool]
    refine hh.ld (q_get hx sp 4 (by decide)) ?_
    rw [AsB_bool]
    refine New.mk fun w2 n2 f2 s2 => ?_
    simp only [at0_mk, Nat.zero_add]
    refine n2.st (by simp) rfl fun w3 n3 f3 s3 => ?_
    refine n3.st (by simp) rfl fun w4 n4 f4 s4 => ?_
    refine n4.st (by simp) rfl fun w5 n5 f5 s5 => ?_
    refine n5.st (by simp) rfl fun w6 n6 f6 s6 => ?_
    refine n6.st (by simp) rfl fun w7 n7 f7 s7 => ?_
    replace n7 : Has w7 w1.heap.size (qCells x) := n7
    refine n7.ld rfl ?_
    rw [AsB_bool]
    refine n7.ld rfl ?_
    rw [AsB_bool]
    refine n7.ld rfl ?_
    rw [AsB_bool]
    refine n7.ld rfl ?_
    rw [AsB_bool]
    have hf7 : Fr0 w1 w7 := (((((f2.mono fun _ _ h => h.elim).trans f3).trans f4).trans f5).trans f6 |>.trans f7).mono fun x hx h => by omega
    have hsz7 : w1.heap.size < w7.heap.size := by omega
    have htl := tabs_len (l.take i)
    rw [List.length_take, Nat.min_eq_left (by omega)] at htl
    refine Loop.by (fun s w' => ∃ (k : Nat) (q : Option Addr) (d : Nat), s = [.int .i64 (k : Int), .slice q (tabs (l.take i) ++ x.tabs k).length d] ∧ k ≤ 4 ∧ Sl w' w.heap.size 3 1 q (tabs (l.take i) ++ x.tabs k).length d (i64n (tabs (l.take i) ++ x.tabs k)) ∧ Fr0 w w' ∧
        Has w' w1.heap.size (qCells x) ∧ ¬ On q w1.heap.size ∧ w1.heap.size < w'.heap.size)
      (fun s _ => match s with | [.int _ k, _] => 4 - k.toNat | _ => 0)
      ⟨0, q, d, by simp [Qr.tabs], by omega, by simpa [Qr.tabs] using hsl.fr0 hf7, hf.trans hf7, n7, fun h => by have := (hsl.lt _ h).2; omega, hsz7⟩ ?_
    rintro _ w8 ⟨k, q1, d1, rfl, hk, hsl1, hf1, hn1, hon1, hsz1⟩
    simp only [UnC_cons, UnN_nil, AsI_int, AsSl_slice]
    have hkl := x.tabs_len k
    refine BIf_cases (fun hlt => ?_) (fun hge => ?_)
    · have hk4 : k < 4 := by omega
      refine Join.triv ?_
      simp only [Int.toNat_natCast, Nat.mul_one]
      refine ⟨by omega, by omega, .bool (x.u k), ?_, ?_⟩
      · rcases k with _ | _ | _ | _ | k
        · rfl
        · rfl
        · rfl
        · rfl
        · omega
      rw [AsB_bool]
      refine BIf_b (fun hu => ?_) (fun hu => ?_)
      · refine hn1.ld rfl ?_
        rw [AsI_int, w64 (n := (4 : Int) * ((x.f : Nat) : Int)) (by omega) (by omega), w64 (n := (4 : Int) * ((x.f : Nat) : Int) + (k : Int)) (by omega) (by omega)]
        refine push_sl E38 (by decide) hsl1 hf1.size rfl (by intro u hu; simp [Value.cells] at hu; subst hu; rfl) (by simp only [maxLen, List.length_append]; omega) (by simp only [List.length_append]; omega) ?_
        intro p' c' w9 hsl9 hf9 hon9
        simp only [UnC_cons, UnN_nil, AsSl_slice]
        rw [w64 (n := (k : Int) + 1) (by omega) (by omega)]
        have e : tabs (l.take i) ++ x.tabs (k + 1) = (tabs (l.take i) ++ x.tabs k) ++ [4 * x.f + k] := by rw [x.tabs_succ, if_pos hu, List.append_assoc]
        refine ⟨⟨k + 1, p', c', by rw [e]; simp [Nat.add_assoc], by omega, ?_, hf1.own hf9 (fun b hb hlt => by have := (hsl1.lt b hb).1; omega), hn1.fr hf9 hon1, ?_, by have := hf9.size; omega⟩, ?_⟩
        · rw [e, List.length_append]
          have : i64n ((tabs (l.take i) ++ x.tabs k) ++ [4 * x.f + k]) = i64n (tabs (l.take i) ++ x.tabs k) ++ [.int .i64 (4 * ((x.f : Nat) : Int) + ((k : Nat) : Int))] := by simp [i64n]
          rw [this]; exact hsl9
        · intro h
          rcases hon9 _ h with h | h
          · exact hon1 h
          · omega
        · show 4 - ((k : Int) + 1).toNat < 4 - (k : Int).toNat
          omega
      · simp only [UnC_cons, UnN_nil, AsSl_slice]
        rw [w64 (n := (k : Int) + 1) (by omega) (by omega)]
        have e : tabs (l.take i) ++ x.tabs (k + 1) = (tabs (l.take i) ++ x.tabs k) := by rw [x.tabs_succ, hu]; simp
        refine ⟨⟨k + 1, q1, d1, by rw [e]; rfl, by omega, by rw [e]; exact hsl1, hf1, hn1, hon1, hsz1⟩, ?_⟩
        show 4 - ((k : Int) + 1).toNat < 4 - (k : Int).toNat
        omega
    · obtain rfl : k = 4 := by omega
      rw [w64 (n := (i : Int) + 1) (by omega) (by omega)]
      refine ⟨⟨i + 1, q1, d1, by rw [tabs_take hx]; rfl, by omega, by rw [tabs_take hx]; exact hsl1, hf1⟩, ?_⟩
      show l.length - ((i : Int) + 1).toNat < l.length - (i : Int).toNat
      omega
  · obtain rfl : i = l.length := by omega
    rw [List.take_length] at hsl ⊢
    exact ⟨q, d, rfl, hsl, hf⟩
end Go.Proofs.YthpodlcbikialaaDoor

set_option linter.unusedVariables false
set_option linter.unusedSimpArgs false
namespace Go.Proofs.YthpodlcbikialaaDoor
open Go Go.Sh Go.Fr

theorem qs_one {l : List Qr} : ∀ u ∈ qsCells l, u.oneCell' = true := by
  intro u hu
  obtain ⟨q, _, hq⟩ := List.mem_flatMap.1 hu
  simp only [qCells, List.mem_cons, List.not_mem_nil, or_false] at hq
  rcases hq with rfl | rfl | rfl | rfl | rfl <;> rfl
def insq (f : Nat) : List Qr → List Qr
  | [] => [Qr.new f]
  | q :: r => if q.f < f then q :: insq f r else Qr.new f :: q :: r
theorem insq_at (f : Nat) : ∀ (l : List Qr) (k : Nat), (∀ q ∈ l.take k, q.f < f) → (∀ q, l[k]? = some q → ¬ q.f < f) → k ≤ l.length → insq f l = l.take k ++ Qr.new f :: l.drop k
  | [], k, _, _, hk => by simp at hk; subst hk; rfl
  | q :: r, 0, _, h, _ => by
    have := h q (by simp)
    simp [insq, this]
  | q :: r, k + 1, h1, h2, hk => by
    have h3 := h1 q (by simp)
    have := insq_at f r k (fun x hx => h1 x (by simp [hx])) (fun x hx => h2 x (by simpa using hx)) (by simpa using hk)
    simp [insq, h3, this]
theorem rise_drop {f : Nat} : ∀ {l : List Qr} {k : Nat}, l.Pairwise (fun a b => a.f < b.f) → (∀ q, l[k]? = some q → f < q.f) → ∀ q ∈ l.drop k, f < q.f
  | [], k, _, _, q, hq => by simp at hq
  | x :: r, 0, hp, h, q, hq => by
    have h0 := h x (by simp)
    simp at hq
    rcases hq with rfl | hq
    · exact h0
    · have := (List.pairwise_cons.1 hp).1 q hq; omega
  | x :: r, k + 1, hp, h, q, hq => rise_drop (List.pairwise_cons.1 hp).2 (fun y hy => h y (by simpa using hy)) q (by simpa using hq)
theorem SlabOk.ins {l : List Qr} (h : SlabOk l) {f k : Nat} (hf : f < 268435456) (h1 : ∀ q ∈ l.take k, q.f < f) (h2 : ∀ q ∈ l.drop k, f < q.f) : SlabOk (l.take k ++ Qr.new f :: l.drop k) := by
  refine ⟨fun q hq => ?_, ?_, fun q hq => ?_⟩
  · simp only [List.mem_append, List.mem_cons] at hq
    rcases hq with hq | rfl | hq
    · exact h.lt q (List.mem_of_mem_take hq)
    · exact hf
    · exact h.lt q (List.mem_of_mem_drop hq)
  · rw [List.pairwise_append]
    refine ⟨h.rise.sublist (List.take_sublist _ _), List.pairwise_cons.2 ⟨h2, h.rise.sublist (List.drop_sublist _ _)⟩, fun a ha b hb => ?_⟩
    have := h1 a ha
    simp only [List.mem_cons] at hb
    rcases hb with rfl | hb
    · exact this
    · have := h2 b hb; omega
  · simp only [List.mem_append, List.mem_cons] at hq
    rcases hq with hq | rfl | hq
    · exact h.any q (List.mem_of_mem_take hq)
    · exact ⟨0, by decide, rfl⟩
    · exact h.any q (List.mem_of_mem_drop hq)

def F30tail (s0 : Addr) (i65 i56 : Int) (w62 : World) (Q : Value → World → Prop) : Prop :=
  Ld w62 (at0 s0 (1 : Nat)) fun v115 => AsSl v115 fun p116 n117 n118 => RunV prog (Instr.makeSlice (78 : Nat) (.int .i64 (0 : Int)) (.int .i64 (IntKind.i64.wrap ((↑n117 : Int) + (1 : Int))))) w62 fun v119 w120 => AsSl v119 fun p121 n122 n123 => Ld w120 (at0 s0 (1 : Nat)) fun v124 => AsSl v124 fun p125 n126 n127 => (0 : Int) ≤ i65 ∧ i65 ≤ (↑n127 : Int) ∧ RunV prog (Builtin.append_ #[(78 : Nat), (78 : Nat)] (78 : Nat) #[Value.slice p121 n122 n123, Value.slice (slAddr p125 (0 : Nat) n127 (5 : Nat)) (i65.toNat - (0 : Nat)) (n127 - (0 : Nat))]) w120 fun v128 w129 => AsSl v128 fun p130 n131 n132 => RunV prog (Instr.buildSlice (78 : Nat) (1 : Nat) #[((0 : Nat), Value.agg #[.int .i64 i56, .bool true, .bool false, .bool false, .bool false])]) w129 fun v133 w134 => AsSl v133 fun p135 n136 n137 => RunV prog (Builtin.append_ #[(78 : Nat), (78 : Nat)] (78 : Nat) #[Value.slice p130 n131 n132, Value.slice p135 n136 n137]) w134 fun v138 w139 => AsSl v138 fun p140 n141 n142 => Ld w139 (at0 s0 (1 : Nat)) fun v143 => AsSl v143 fun p144 n145 n146 => (0 : Int) ≤ i65 ∧ i65 ≤ (↑n145 : Int) ∧ RunV prog (Builtin.append_ #[(78 : Nat), (78 : Nat)] (78 : Nat) #[Value.slice p140 n141 n142, Value.slice (slAddr p144 i65.toNat n146 (5 : Nat)) (n145 - i65.toNat) (n146 - i65.toNat)]) w139 fun v147 w148 => AsSl v147 fun p149 n150 n151 => St w148 (at0 s0 (1 : Nat)) (Value.slice p149 n150 n151) fun w152 => Q (Value.tuple #[.int .i64 (IntKind.i64.wrap ((4 : Int) * i56)), .int .i64 (0 : Int)]) w152
theorem f30tail {w : World} {s b c : Nat} {g : Option Addr} {l : List Qr} (hS : SlabAt w s b g c l) (at_ f : Nat) (hat : at_ ≤ l.length) (hlt : ∀ q ∈ l.take at_, q.f < f) (hge : ∀ q ∈ l.drop at_, f < q.f) (hf : f < 268435456)
    {Q : Value → World → Prop} (k : ∀ g' c' w', SlabAt w' s b g' c' (l.take at_ ++ Qr.new f :: l.drop at_) → Fr (fun x => x = s) w w' → (∀ x, On g' x → w.heap.size ≤ x) → Q (.tuple #[.int .i64 (4 * (f : Int)), .int .i64 0]) w') :
    F30tail ⟨s, 0, none⟩ (at_ : Int) (f : Int) w Q := by
  have hN := hS.ok.len
  have hsl := hS.st.lt
  have hle := hS.sl.le
  unfold F30tail
  simp only [at0_mk, Nat.zero_add]
  refine hS.st.ld rfl ?_
  rw [AsSl_slice, w64 (n := (l.length : Int) + 1) (by omega) (by omega), show (l.length : Int) + 1 = ((l.length + 1 : Nat) : Int) by omega]
  refine make_sl E78 w.heap.size (Nat.le_refl _) (l.length + 1) (by simp only [maxLen]; omega) (by omega) fun p1 w1 sl1 f1 on1 => ?_
  rw [AsSl_slice]
  refine (hS.fr0 f1).st.ld rfl ?_
  rw [AsSl_slice]
  refine ⟨by omega, by omega, ?_⟩
  simp only [Int.toNat_natCast]
  have hx1 : qsCells (l.take at_) = ((qsCells l).drop (0 * 5)).take ((at_ - 0) * 5) := by
    rw [Nat.zero_mul, List.drop_zero, Nat.sub_zero, qsCells, qsCells, flat_take q_len]
  have src1 := (hS.fr0 f1).sl.src_sub (lo := 0) (hi := at_) (by omega) hat
  rw [← hx1] at src1
  refine append_src E78 sl1 f1.size src1 qs_one (by simp only [maxLen]; omega) (by omega) fun p2 c2 w2 sl2 f2 on2 => ?_
  rw [AsSl_slice]
  have f02 : Fr0 w w2 := f1.own f2 fun x hx hl => by have := on1 x hx; omega
  refine push_sl E78 (by decide) sl2 f02.size rfl (by intro u hu; simp [Value.cells] at hu; rcases hu with rfl | rfl | rfl | rfl | rfl <;> rfl) (by simp only [maxLen]; omega) (by omega) fun p3 c3 w3 sl3 f3 on3 => ?_
  rw [AsSl_slice]
  have f03 : Fr0 w w3 := f02.own f3 fun x hx hl => by have := (sl2.lt x hx).1; omega
  refine (hS.fr0 f03).st.ld rfl ?_
  rw [AsSl_slice]
  refine ⟨by omega, by omega, ?_⟩
  have hx2 : qsCells (l.drop at_) = ((qsCells l).drop (at_ * 5)).take ((l.length - at_) * 5) := by
    rw [qsCells, qsCells, flat_drop q_len, List.take_of_length_le (by rw [flat_len q_len, List.length_drop]; omega)]
  have src2 := (hS.fr0 f03).sl.src_sub (lo := at_) (hi := l.length) hat (Nat.le_refl _)
  rw [← hx2] at src2
  refine append_src E78 sl3 f03.size src2 qs_one (by simp only [maxLen]; omega) (by omega) fun p4 c4 w4 sl4 f4 on4 => ?_
  rw [AsSl_slice]
  have f04 : Fr0 w w4 := f03.own f4 fun x hx hl => by have := (sl3.lt x hx).1; omega
  refine (hS.fr0 f04).st.st (by simp) rfl fun w5 st5 f5 s5 => ?_
  have hon4 : ∀ x, On p4 x → w.heap.size ≤ x := fun x hx => (sl4.lt x hx).1
  rw [w64 (n := (4 : Int) * (f : Int)) (by omega) (by omega)]
  have hlen : 0 + (at_ - 0) + 1 + (l.length - at_) = (l.take at_ ++ Qr.new f :: l.drop at_).length := by
    simp only [List.length_append, List.length_take, List.length_cons, List.length_drop, Nat.min_eq_left hat]; omega
  refine k p4 c4 w5 ⟨?_, ?_, fun h => by have := hon4 _ h; omega, hS.ok.ins hf hlt hge⟩ (f04.mono (fun _ _ h => h.elim) |>.trans f5) hon4
  · rw [← hlen]; exact st5
  · have := (sl4.mono (Nat.zero_le _)).fr f5 fun x hx h => by have := hon4 x hx; omega
    rw [← hlen]
    have e : qsCells (l.take at_ ++ Qr.new f :: l.drop at_) = [] ++ qsCells (l.take at_) ++ [.int .i64 ((f : Nat) : Int), .bool true, .bool false, .bool false, .bool false] ++ qsCells (l.drop at_) := by
      simp [qsCells, qCells, Qr.new]
    rw [e]; exact this
end Go.Proofs.YthpodlcbikialaaDoor

set_option linter.unusedVariables false
set_option linter.unusedSimpArgs false
namespace Go.Proofs.YthpodlcbikialaaDoor
open Go Go.Sh Go.Fr

/-- every frame of the slab is the pool's, and in use -/
def Held (p : Pool) (l : List Qr) : Prop := ∀ q ∈ l, p.first ≤ q.f ∧ q.f < p.first + p.u.length ∧ 0 < p.u.getD (q.f - p.first) 0
/-- what a slab's Take may answer -/
inductive STake (p : Pool) (l : List Qr) : Nat → Nat → Pool → List Qr → Prop
  | old (i k : Nat) (q : Qr) (h : l[i]? = some q) (hk : k < 4) (h0 : q.u k = false) (h1 : ∀ k', k' < k → q.u k' = true) (h2 : ∀ i' q', i' < i → l[i']? = some q' → ∀ k', k' < 4 → q'.u k' = true) :
      STake p l (4 * q.f + k) 0 p (l.set i (q.set k true))
  | none (h : ∀ q ∈ l, ∀ k, k < 4 → q.u k = true) (hn : ∀ a, ¬ Fit p.first p.u 1 1 a) : STake p l 0 42 p l
  | fresh (h : ∀ q ∈ l, ∀ k, k < 4 → q.u k = true) (a : Nat) (hf : Fit p.first p.u 1 1 a) (hl : ∀ a', a' < a → ¬ Fit p.first p.u 1 1 a') :
      STake p l (4 * (p.first + a)) 0 (p.turned a (fun _ => 1) 1) (insq (p.first + a) l)
theorem badTake11 : ¬ badTake 1 1 := by
  unfold badTake
  have : pow2B (1 : Int).toNat = true := by decide
  rw [this]; simp
theorem q_set (q : Qr) (k : Nat) (hk : k < 4) (v : Bool) : qCells (q.set k v) = (qCells q).set (1 + k) (.bool v) := by
  rcases k with _ | _ | _ | _ | k
  · rfl
  · rfl
  · rfl
  · rfl
  · omega
theorem set_f {l : List Qr} {i : Nat} {q y : Qr} (h : l[i]? = some q) (hy : y.f = q.f) : (l.set i y).map Qr.f = l.map Qr.f := by
  rw [List.map_set, hy]
  apply List.ext_getElem? ; intro j
  rw [List.getElem?_set]
  split
  · rename_i e; subst e
    have hl := (List.getElem?_eq_some_iff.1 h).1
    simp [hl, (List.getElem?_eq_some_iff.1 h).2]
  · rfl
theorem SlabOk.of_f {l l' : List Qr} (h : SlabOk l) (e : l'.map Qr.f = l.map Qr.f) (hs : ∀ q ∈ l', ∃ k, k < 4 ∧ q.u k = true) : SlabOk l' := by
  refine ⟨fun q hq => ?_, ?_, hs⟩
  · have h1 : q.f ∈ l'.map Qr.f := List.mem_map_of_mem hq
    rw [e] at h1
    obtain ⟨x, hx, hx2⟩ := List.mem_map.1 h1
    rw [← hx2]; exact h.lt x hx
  · have h1 : (l.map Qr.f).Pairwise (· < ·) := List.pairwise_map.2 h.rise
    rw [← e] at h1
    exact List.pairwise_map.1 h1
theorem SlabOk.set {l : List Qr} (h : SlabOk l) {i k : Nat} {q : Qr} (hq : l[i]? = some q) (hk : k < 4) : SlabOk (l.set i (q.set k true)) := by
  refine h.of_f (set_f hq rfl) fun x hx => ?_
  rcases List.mem_or_eq_of_mem_set hx with hx | rfl
  · exact h.any x hx
  · exact ⟨k, hk, by simp [Qr.set]⟩
/-- a slab's blocks and the pool's -/
def OwnS (b bu bd s : Nat) (g : Option Addr) (x : Nat) : Prop := Own b bu bd x ∨ x = s ∨ On g x

theorem f30 {w : World} {b bu bd s c : Nat} {g : Option Addr} {p : Pool} {l : List Qr} (hP : PoolAt w b bu bd p) (hT : Tz w) (hd : ¬ Own b bu bd 0) (hS : SlabAt w s b g c l) (hH : Held p l)
    (hs : ¬ Own b bu bd s) (hg : ∀ x, On g x → ¬ Own b bu bd x) :
    Ret prog 30 #[.pointer (some ⟨s, 0, none⟩)] w fun v w' => ∃ (r e : Nat) (p' : Pool) (l' : List Qr) (g' : Option Addr) (c' : Nat), v = .tuple #[.int .i64 (r : Int), .int .i64 (e : Int)] ∧ STake p l r e p' l' ∧
      PoolAt w' b bu bd p' ∧ SlabAt w' s b g' c' l' ∧ Fr (OwnS b bu bd s g) w w' ∧ ∀ x, On g' x → On g x ∨ w.heap.size ≤ x := by
  have hN := hS.ok.len
  have hL := hP.ok.le
  refine F30_of _ _ _ ?_
  unfold F30
  simp only [at0_mk, Nat.zero_add]
  refine hS.st.ld rfl ?_
  rw [AsSl_slice]
  refine Loop.by (fun s w' => ∃ (i : Nat) (a b : Int), s = [.int .i64 (i : Int), .int .i64 a, .int .i64 b] ∧ i ≤ l.length ∧ w' = w ∧ ∀ i' q', i' < i → l[i']? = some q' → ∀ k', k' < 4 → q'.u k' = true)
    (fun s _ => match s with | [.int _ k, _, _] => l.length - k.toNat | _ => 0)
    ⟨0, 0, 0, rfl, by omega, rfl, fun i' q' h => by omega⟩ ?_
  rintro _ _ ⟨i, a, b', rfl, hi, hw, hfull⟩
  obtain rfl := hw.symm
  simp only [UnC_cons, UnN_nil, AsI_int]
  refine BIf_cases (fun hlt => ?_) (fun hge => ?_)
  · have hil : i < l.length := by omega
    obtain ⟨x, hx⟩ : ∃ x, l[i]? = some x := ⟨_, List.getElem?_eq_getElem hil⟩
    have hxf := hS.ok.lt x (List.mem_of_getElem? hx)
    obtain ⟨gb, sp, rfl, _, hh⟩ := hS.sl.some_ (by omega)
    refine Loop.by (fun s w' => ∃ (k : Nat) (a b : Int), s = [.int .i64 (k : Int), .int .i64 a, .int .i64 b] ∧ k ≤ 4 ∧ w' = w ∧ ∀ k', k' < k → x.u k' = true)
      (fun s _ => match s with | [.int _ k, _, _] => 4 - k.toNat | _ => 0)
      ⟨0, a, b', rfl, by omega, rfl, fun k' h => by omega⟩ ?_
    rintro _ _ ⟨k, a, b', rfl, hk, hw, hused⟩
    obtain rfl := hw.symm
    simp only [UnC_cons, UnN_nil, AsI_int]
    refine BIf_cases (fun hlt => ?_) (fun hge => ?_)
    · have hk4 : k < 4 := by omega
      refine hS.st.ld rfl ?_
      simp only [AsSl_slice, NilP_some, at0_mk, Nat.zero_add, Int.toNat_natCast, Nat.mul_one]
      refine ⟨by omega, by omega, by omega, by omega, ?_⟩
      refine hh.ld (q_getk hx sp k hk4) ?_
      rw [AsB_bool, BIf_not]
      refine BIf_b (fun hu => ?_) (fun hu => ?_)
      · rw [w64 (n := (k : Int) + 1) (by omega) (by omega)]
        refine ⟨⟨k + 1, a, b', by trivial, by omega, by trivial, fun k' hk' => ?_⟩, ?_⟩
        · by_cases e : k' = k
          · subst e; exact hu
          · exact hused k' (by omega)
        · show 4 - ((k : Int) + 1).toNat < 4 - (k : Int).toNat
          omega
      · refine hS.st.ld rfl ?_
        simp only [AsSl_slice, NilP_some, at0_mk, Nat.zero_add, Int.toNat_natCast, Nat.mul_one]
        refine ⟨by omega, by omega, by omega, by omega, ?_⟩
        refine hS.sl.st rfl (by rw [hS.sl.len]; omega) rfl fun w1 sl1 f1 s1 => ?_
        have st1 := hS.st.fr f1 hS.ne
        refine st1.ld rfl ?_
        simp only [AsSl_slice, NilP_some, at0_mk, Nat.zero_add, Int.toNat_natCast, Nat.mul_one]
        refine ⟨by omega, by omega, ?_⟩
        have e : (qsCells l).set (i * 5 + 1 + k) (.bool true) = qsCells (l.set i (x.set k true)) := by
          rw [Nat.add_assoc]; exact flat_set q_len l i (1 + k) (by omega) x _ hx (q_set x k hk4 true)
        rw [e] at sl1
        obtain ⟨gb', sp', e2, _, hh1⟩ := sl1.some_ (by omega)
        injection e2 with e2; injection e2 with e2; subst e2
        refine hh1.ld (q_get0 (q := x.set k true) (by simp [hil]) sp') ?_
        rw [AsI_int]
        show ∃ _, _
        rw [w64 (n := (4 : Int) * (((x.set k true).f : Nat) : Int)) (by show -9223372036854775808 ≤ (4 : Int) * ((x.f : Nat) : Int); omega) (by show (4 : Int) * ((x.f : Nat) : Int) ≤ 9223372036854775807; omega)]
        show ∃ _, _
        rw [w64 (n := (4 : Int) * (((x.set k true).f : Nat) : Int) + (k : Int)) (by show -9223372036854775808 ≤ (4 : Int) * ((x.f : Nat) : Int) + (k : Int); omega) (by show (4 : Int) * ((x.f : Nat) : Int) + (k : Int) ≤ 9223372036854775807; omega)]
        refine ⟨4 * x.f + k, 0, p, l.set i (x.set k true), some ⟨gb, 0, none⟩, c, ?_, .old i k x hx hk4 hu hused hfull, ?_, ⟨?_, ?_, hS.ne, hS.ok.set hx hk4⟩, f1.mono (fun _ _ h => .inr (.inr h)), fun x hx => .inl hx⟩
        · simp [Qr.set]
        · exact hP.fr f1 (fun h => hg _ h (.inl rfl)) (fun h => hg _ h (.inr (.inl rfl))) (fun h => hg _ h (.inr (.inr rfl)))
        · simpa using st1
        · simpa using sl1
    · have hk4 : k = 4 := by omega
      rw [w64 (n := (i : Int) + 1) (by omega) (by omega)]
      refine ⟨⟨i + 1, a, b', by trivial, by omega, by trivial, fun i' q' h h2 => ?_⟩, ?_⟩
      · by_cases e : i' = i
        · subst e; rw [hx] at h2; injection h2 with h2; subst h2; exact fun k' hk' => hused k' (by omega)
        · exact hfull i' q' (by omega) h2
      · show l.length - ((i : Int) + 1).toNat < l.length - (i : Int).toNat
        omega
  · obtain rfl : i = l.length := by omega
    have hall : ∀ q ∈ l, ∀ k, k < 4 → q.u k = true := by
      intro q hq
      obtain ⟨j, hj, rfl⟩ := List.getElem_of_mem hq
      exact hfull j _ hj (List.getElem?_eq_getElem hj)
    refine hS.st.ld rfl ?_
    rw [AsP_pointer]
    refine Ret.use (f23 hP hT hd 1 1 (by omega)) ?_
    rintro v w1 h
    rcases h with ⟨hb, _⟩ | ⟨_, hno, rfl, hq⟩ | ⟨_, a1, hfit, hleast, rfl, hP1, hf1⟩
    · exact absurd hb badTake11
    · simp only [AsTup_tuple, UnC_cons, UnN_nil, AsI_int]
      refine BIf_ne (fun _ => ?_) (fun h => by cases h)
      exact ⟨0, 42, p, l, g, c, rfl, .none hall hno, hP.qt hq, hS.qt hq, hq.fr, fun x hx => .inl hx⟩
    · simp only [AsTup_tuple, UnC_cons, UnN_nil, AsI_int]
      refine BIf_ne (fun h => absurd rfl h) (fun _ => ?_)
      have hS1 := hS.fr hf1 hs hg
      have ha : a1 + 1 ≤ p.u.length := hfit.2.1
      have hf28 : p.first + a1 < 268435456 := by omega
      have h0 : p.u.getD a1 0 = 0 := hfit.2.2 a1 (Nat.le_refl _) (by omega)
      have hnew : ∀ q ∈ l, q.f ≠ p.first + a1 := by
        intro q hq e
        obtain ⟨h1, h2, h3⟩ := hH q hq
        rw [e, Nat.add_sub_cancel_left, h0] at h3
        omega
      have tl : ∀ at_ : Nat, at_ ≤ l.length → (∀ q ∈ l.take at_, q.f < p.first + a1) → (∀ q, l[at_]? = some q → ¬ q.f < p.first + a1) →
          F30tail ⟨s, 0, none⟩ (at_ : Int) ((p.first + a1 : Nat) : Int) w1 fun v w' => ∃ (r e : Nat) (p' : Pool) (l' : List Qr) (g' : Option Addr) (c' : Nat), v = .tuple #[.int .i64 (r : Int), .int .i64 (e : Int)] ∧ STake p l r e p' l' ∧
            PoolAt w' b bu bd p' ∧ SlabAt w' s b g' c' l' ∧ Fr (OwnS b bu bd s g) w w' ∧ ∀ x, On g' x → On g x ∨ w.heap.size ≤ x := by
        intro at_ hat hlt hge
        refine f30tail hS1 at_ (p.first + a1) hat hlt (rise_drop hS.ok.rise fun q hq => ?_) hf28 fun g' c' w' hS' hf' hon' => ?_
        · have := hge q hq; have := hnew q (List.mem_of_getElem? hq); omega
        · refine ⟨4 * (p.first + a1), 0, _, _, g', c', by simp, .fresh hall a1 hfit hleast, hP1.fr hf' (fun h => hs (.inl h.symm)) (fun h => hs (.inr (.inl h.symm))) (fun h => hs (.inr (.inr h.symm))), ?_, ?_, ?_⟩
          · rw [insq_at _ _ at_ hlt hge hat]; exact hS'
          · exact (hf1.mono fun x _ h => .inl h).trans (hf'.mono fun x _ h => .inr (.inl h))
          · intro x hx
            have := hon' x hx; have := hf1.size
            exact .inr (by omega)
      refine Loop.by (fun s w' => ∃ (i : Nat), s = [.int .i64 (i : Int)] ∧ i ≤ l.length ∧ w' = w1 ∧ ∀ q ∈ l.take i, q.f < p.first + a1)
        (fun s _ => match s with | [.int _ k] => l.length - k.toNat | _ => 0)
        ⟨0, rfl, by omega, rfl, fun q h => by simp at h⟩ ?_
      rintro _ _ ⟨i, rfl, hi, hw, hlt⟩
      obtain rfl := hw.symm
      simp only [UnC_cons, UnN_nil, AsI_int]
      refine hS1.st.ld rfl ?_
      rw [AsSl_slice]
      refine BIf_cases (fun hil => ?_) (fun hge => ?_)
      · have hil : i < l.length := by omega
        obtain ⟨x, hx⟩ : ∃ x, l[i]? = some x := ⟨_, List.getElem?_eq_getElem hil⟩
        refine hS1.st.ld rfl ?_
        rw [AsSl_slice]
        obtain ⟨gb, sp, rfl, _, hh⟩ := hS1.sl.some_ (by omega)
        simp only [NilP_some, at0_mk, Nat.zero_add, Int.toNat_natCast]
        refine ⟨by omega, by omega, ?_⟩
        refine hh.ld (q_get0 hx sp) ?_
        rw [AsI_int]
        refine BIf_cases (fun h => ?_) (fun h => ?_)
        · rw [w64 (n := (i : Int) + 1) (by omega) (by omega)]
          refine ⟨⟨i + 1, by trivial, by omega, by trivial, fun q hq => ?_⟩, ?_⟩
          · rw [List.take_add_one, hx] at hq
            simp only [Option.toList_some, List.mem_append, List.mem_singleton] at hq
            rcases hq with hq | rfl
            · exact hlt q hq
            · omega
          · show l.length - ((i : Int) + 1).toNat < l.length - (i : Int).toNat
            omega
        · have := tl i hi hlt (fun q hq => by rw [hx] at hq; injection hq with hq; subst hq; omega)
          unfold F30tail at this
          simp only [at0_mk, Nat.zero_add, Int.toNat_natCast] at this
          exact this
      · have := tl i hi hlt (fun q hq => by have := (List.getElem?_eq_some_iff.1 hq).1; omega)
        unfold F30tail at this
        simp only [at0_mk, Nat.zero_add] at this
        exact this
end Go.Proofs.YthpodlcbikialaaDoor

set_option linter.unusedVariables false
set_option linter.unusedSimpArgs false
namespace Go.Proofs.YthpodlcbikialaaDoor
open Go Go.Sh Go.Fr

theorem A84 : ArrT prog 84 4 4 := ⟨by kernel_rfl, by kernel_rfl, by kernel_rfl, by kernel_rfl, by kernel_rfl⟩
theorem und4 : prog.underlying 4 = some .bool := by kernel_rfl
theorem run_held {p : Pool} {f : Nat} (h1 : p.first ≤ f) (h2 : f < p.first + p.u.length) (h3 : 0 < p.u.getD (f - p.first) 0) : p.run (f : Int) 1 = (f - p.first, 0) := by
  have e : ((f : Int) - (p.first : Int)).toNat = f - p.first := by omega
  have hk : f - p.first < p.u.length := by omega
  obtain ⟨n1, n2, n3, n4⟩ := next_spec p.u false (f - p.first)
  have hn : f - p.first + 1 ≤ next p.u false (f - p.first) := by
    rcases Nat.lt_or_ge (f - p.first) (next p.u false (f - p.first)) with h | h
    · exact h
    · have h5 := n2 (by omega)
      have e2 : next p.u false (f - p.first) = f - p.first := by omega
      have := n3 (by omega)
      simp only [e2] at this
      rw [getD_get hk] at h3
      simp at this; omega
  unfold Pool.run
  rw [if_neg (by omega), if_neg (by omega), e, if_neg (by omega)]
/-- what a slab's Drop may answer -/
inductive SDrop (p : Pool) (l : List Qr) (t : Int) : Nat → Pool → List Qr → Prop
  | none (h : ∀ q ∈ l, ∀ k : Nat, k < 4 → q.u k = true → t ≠ 4 * (q.f : Int) + k) : SDrop p l t 45 p l
  | more (i k : Nat) (q : Qr) (h : l[i]? = some q) (hk : k < 4) (hu : q.u k = true) (ht : t = 4 * (q.f : Int) + k) (hm : ∃ k', k' < 4 ∧ k' ≠ k ∧ q.u k' = true) : SDrop p l t 0 p (l.set i (q.set k false))
  | last (i k : Nat) (q : Qr) (h : l[i]? = some q) (hk : k < 4) (hu : q.u k = true) (ht : t = 4 * (q.f : Int) + k) (hm : ∀ k', k' < 4 → k' ≠ k → q.u k' = false) :
      SDrop p l t 0 (p.turned (q.f - p.first) (· - 1) 1) (l.take i ++ l.drop (i + 1))
theorem SlabOk.cut {l : List Qr} (h : SlabOk l) (i : Nat) : SlabOk (l.take i ++ l.drop (i + 1)) := by
  have hs : (l.take i ++ l.drop (i + 1)).Sublist l := by
    rw [← List.eraseIdx_eq_take_drop_succ]; exact List.eraseIdx_sublist _ _
  exact ⟨fun q hq => h.lt q (hs.subset hq), h.rise.sublist hs, fun q hq => h.any q (hs.subset hq)⟩

theorem f33 {w : World} {b bu bd s c : Nat} {g : Option Addr} {p : Pool} {l : List Qr} (hP : PoolAt w b bu bd p) (hT : Tz w) (hd : ¬ OwnS b bu bd s g 0) (hS : SlabAt w s b g c l) (hH : Held p l)
    (hs : ¬ Own b bu bd s) (hg : ∀ x, On g x → ¬ Own b bu bd x) (t : Int) (ht : -9223372036854775808 ≤ t ∧ t ≤ 9223372036854775807) :
    Ret prog 33 #[.pointer (some ⟨s, 0, none⟩), .int .i64 t] w fun v w' => ∃ (e : Nat) (p' : Pool) (l' : List Qr) (g' : Option Addr) (c' : Nat), v = .int .i64 (e : Int) ∧ SDrop p l t e p' l' ∧
      PoolAt w' b bu bd p' ∧ SlabAt w' s b g' c' l' ∧ Fr (OwnS b bu bd s g) w w' ∧ ∀ x, On g' x → On g x ∨ w.heap.size ≤ x := by
  have hN := hS.ok.len
  have hL := hP.ok.le
  refine F33_of _ _ _ _ ?_
  unfold F33
  simp only [at0_mk, Nat.zero_add]
  refine hS.st.ld rfl ?_
  rw [AsSl_slice]
  refine Loop.by (fun s w' => ∃ (i : Nat) (a : Int), s = [.int .i64 (i : Int), .int .i64 a] ∧ i ≤ l.length ∧ w' = w ∧ ∀ i' q', i' < i → l[i']? = some q' → ∀ k : Nat, k < 4 → q'.u k = true → t ≠ 4 * (q'.f : Int) + k)
    (fun s _ => match s with | [.int _ k, _] => l.length - k.toNat | _ => 0)
    ⟨0, 0, rfl, by omega, rfl, fun i' q' h => by omega⟩ ?_
  rintro _ _ ⟨i, a, rfl, hi, hw, hno⟩
  obtain rfl := hw.symm
  simp only [UnC_cons, UnN_nil, AsI_int]
  refine BIf_cases (fun hlt => ?_) (fun hge => ?_)
  · have hil : i < l.length := by omega
    obtain ⟨x, hx⟩ : ∃ x, l[i]? = some x := ⟨_, List.getElem?_eq_getElem hil⟩
    have hxm := List.mem_of_getElem? hx
    have hxf := hS.ok.lt x hxm
    refine hS.st.ld rfl ?_
    obtain ⟨gb, sp, rfl, _, hh⟩ := hS.sl.some_ (by omega)
    simp only [AsSl_slice, NilP_some, at0_mk, Nat.zero_add, Int.toNat_natCast]
    refine ⟨by omega, by omega, ?_⟩
    refine hh.ld (q_get0 hx sp) ?_
    rw [AsI_int, w64 (n := (4 : Int) * ((x.f : Nat) : Int)) (by omega) (by omega), w64 (n := (i : Int) + 1) (by omega) (by omega)]
    have hW1 : ∀ k : Nat, k < 4 → t = 4 * (x.f : Int) + k → IntKind.i64.wrap (t - 4 * (x.f : Int)) = k := by
      intro k hk e; rw [IntKind.wrap_i64]; omega
    have hW2 : 0 ≤ IntKind.i64.wrap (t - 4 * (x.f : Int)) → IntKind.i64.wrap (t - 4 * (x.f : Int)) ≤ 3 → t = 4 * (x.f : Int) + IntKind.i64.wrap (t - 4 * (x.f : Int)) := by
      rw [IntKind.wrap_i64]; omega
    generalize IntKind.i64.wrap (t - 4 * (x.f : Int)) = W at hW1 hW2 ⊢
    have hmeas : l.length - ((i : Int) + 1).toNat < l.length - (i : Int).toNat := by omega
    have goOn : (∀ k : Nat, k < 4 → x.u k = true → t ≠ 4 * (x.f : Int) + k) → ∃ (i_1 : Nat) (a_1 : Int), [Value.int .i64 ((i : Int) + 1), .int .i64 a] = [.int .i64 (i_1 : Int), .int .i64 a_1] ∧ i_1 ≤ l.length ∧ w = w ∧ ∀ i' q', i' < i_1 → l[i']? = some q' → ∀ k : Nat, k < 4 → q'.u k = true → t ≠ 4 * (q'.f : Int) + k := by
      intro hx2
      refine ⟨i + 1, a, rfl, by omega, rfl, fun i' q' h h2 => ?_⟩
      by_cases e : i' = i
      · subst e; rw [hx] at h2; injection h2 with h2; subst h2; exact hx2
      · exact hno i' q' (by omega) h2
    refine BIf_cases (fun h1 => ?_) (fun h1 => ?_)
    · refine ⟨?_, hmeas⟩
      simpa using goOn (fun k hk hu e => by have := hW1 k hk e; omega)
    refine BIf_cases (fun h2 => ?_) (fun h2 => ?_)
    · refine ⟨?_, hmeas⟩
      simpa using goOn (fun k hk hu e => by have := hW1 k hk e; omega)
    obtain ⟨k, rfl⟩ : ∃ k : Nat, W = k := ⟨W.toNat, by omega⟩
    have hk : k < 4 := by omega
    have htk := hW2 (by omega) (by omega)
    simp only [Int.toNat_natCast, Nat.mul_one]
    refine ⟨by omega, by omega, ?_⟩
    refine hh.ld (q_getk hx sp k hk) ?_
    rw [AsB_bool, BIf_not]
    refine BIf_b (fun hu => ?_) (fun hu => ?_)
    rotate_left
    · refine ⟨?_, hmeas⟩
      simpa using goOn (fun k' hk' hu' e => by
        have : k' = k := by omega
        subst this; rw [hu] at hu'; cases hu')
    refine ⟨by omega, by omega, ?_⟩
    refine hS.sl.st rfl (by rw [hS.sl.len]; omega) rfl fun w1 sl1 f1 s1 => ?_
    have e : (qsCells l).set (i * 5 + 1 + k) (.bool false) = qsCells (l.set i (x.set k false)) := by
      rw [Nat.add_assoc]; exact flat_set q_len l i (1 + k) (by omega) x _ hx (q_set x k hk false)
    rw [e] at sl1
    obtain ⟨gb', sp', e2, _, hh1⟩ := sl1.some_ (by omega)
    injection e2 with e2; injection e2 with e2; subst e2
    have hy : (l.set i (x.set k false))[i]? = some (x.set k false) := by simp [hil]
    refine hh1.ld (q_get hy sp' 1 (by decide)) ?_
    rw [AsB_bool]
    refine hh1.ld (q_get hy sp' 2 (by decide)) ?_
    rw [AsB_bool]
    refine hh1.ld (q_get hy sp' 3 (by decide)) ?_
    rw [AsB_bool]
    refine hh1.ld (q_get hy sp' 4 (by decide)) ?_
    rw [AsB_bool]
    have hP1 : PoolAt w1 b bu bd p := hP.fr f1 (fun h => hg _ h (.inl rfl)) (fun h => hg _ h (.inr (.inl rfl))) (fun h => hg _ h (.inr (.inr rfl)))
    have st1 := hS.st.fr f1 hS.ne
    have hset : ∀ j, (x.set k false).u j = if j = k then false else x.u j := fun j => rfl
    refine RunP.eqlArr A84 (fun j hj => ?_) (fun r hr => ?_)
    · rcases j with _ | _ | _ | _ | j
      · exact ⟨_, _, rfl, rfl, .inr ⟨_, _, und4, rfl, rfl⟩⟩
      · exact ⟨_, _, rfl, rfl, .inr ⟨_, _, und4, rfl, rfl⟩⟩
      · exact ⟨_, _, rfl, rfl, .inr ⟨_, _, und4, rfl, rfl⟩⟩
      · exact ⟨_, _, rfl, rfl, .inr ⟨_, _, und4, rfl, rfl⟩⟩
      · omega
    have hr' : r = true ↔ ∀ j, j < 4 → (x.set k false).u j = false := by
      rw [hr]
      constructor
      · intro h j hj
        have := h j hj
        rcases j with _ | _ | _ | _ | j
        · injection this with this; injection this
        · injection this with this; injection this
        · injection this with this; injection this
        · injection this with this; injection this
        · omega
      · intro h j hj
        have := h j hj
        rcases j with _ | _ | _ | _ | j
        · show some (Value.bool _) = some (Value.bool _); rw [this]
        · show some (Value.bool _) = some (Value.bool _); rw [this]
        · show some (Value.bool _) = some (Value.bool _); rw [this]
        · show some (Value.bool _) = some (Value.bool _); rw [this]
        · omega
    rw [AsB_bool]
    refine BIf_b (fun hb => ?_) (fun hb => ?_)
    · have hall := hr'.1 hb
      refine hh1.ld (q_get0 hy sp') ?_
      rw [AsI_int]
      refine st1.drew.ld rfl ?_
      rw [AsSl_slice]
      have hle := sl1.le
      refine ⟨by omega, by omega, ?_⟩
      refine st1.drew.ld rfl ?_
      rw [AsSl_slice]
      refine ⟨by omega, by omega, ?_⟩
      rw [slAddr_zero, Nat.sub_zero, Nat.sub_zero]
      have slD := sl1.qt (Qt.refl w1).drew
      have src := slD.src_sub (lo := i + 1) (hi := l.length) (by omega) (Nat.le_refl _)
      have ex : ((qsCells (l.set i (x.set k false))).drop ((i + 1) * 5)).take ((l.length - (i + 1)) * 5) = qsCells (l.drop (i + 1)) := by
        rw [qsCells, flat_drop q_len, List.take_of_length_le (by rw [flat_len q_len, List.length_drop, List.length_set]; omega)]
        rw [List.drop_set_of_lt (by omega)]
        rfl
      have ex2 : (qsCells (l.set i (x.set k false))).take (i * 5) = qsCells (l.take i) := by
        rw [qsCells, flat_take q_len, List.take_set_of_le (Nat.le_refl _)]
        rfl
      have pre := slD.pre (i := i) (by omega)
      rw [ex] at src
      rw [ex2] at pre
      have e3 : ((i : Int) + 1).toNat = i + 1 := by omega
      rw [e3]
      refine append_src E78 pre (Nat.zero_le _) src qs_one (by simp only [maxLen]; omega) (by omega) fun p2 c2 w2 sl2 f2 on2 => ?_
      rw [AsSl_slice]
      have st2 := (st1.drew).fr f2 hS.ne
      refine st2.st (by simp) rfl fun w3 st3 f3 s3 => ?_
      refine st3.ld rfl ?_
      rw [AsP_pointer]
      have f2' : Fr (On (some ⟨gb, 0, none⟩)) w1 w2 := f2.of_drew
      have hP2 : PoolAt w2 b bu bd p := hP1.fr f2' (fun h => hg _ h (.inl rfl)) (fun h => hg _ h (.inr (.inl rfl))) (fun h => hg _ h (.inr (.inr rfl)))
      have hP3 : PoolAt w3 b bu bd p := hP2.fr f3 (fun h => hs (.inl h.symm)) (fun h => hs (.inr (.inl h.symm))) (fun h => hs (.inr (.inr h.symm)))
      have fall : Fr (OwnS b bu bd s (some ⟨gb, 0, none⟩)) w w3 := ((f1.mono fun _ _ h => .inr (.inr h)).trans (f2'.mono fun _ _ h => .inr (.inr h))).trans (f3.mono fun _ _ h => .inr (.inl h))
      have hT3 := hT.fr fall hd
      obtain ⟨m1, m2, m3⟩ := hH x hxm
      refine Ret.use (f25 hP3 hT3 (fun h => hd (.inl h)) ((x.set k false).f : Int) 1 (by show -9223372036854775808 ≤ ((x.f : Nat) : Int) ∧ ((x.f : Nat) : Int) ≤ 9223372036854775807; omega) (by omega)) ?_
      have hrun := run_held m1 m2 m3
      rintro v w4 (⟨hbad, _⟩ | ⟨_, rfl, hP4, f4⟩)
      · exact absurd (show (p.run ((x.set k false).f : Int) 1).2 = 0 by show (p.run ((x.f : Nat) : Int) 1).2 = 0; rw [hrun]) hbad
      simp only [AsTup_tuple, UnC_cons, UnN_nil, AsI_int]
      have hsz : w.heap.size ≤ w2.heap.size := Nat.le_trans f1.size f2'.size
      have hon : ∀ y, On p2 y → On (some ⟨gb, 0, none⟩) y ∨ w.heap.size ≤ y := by
        intro y hy
        rcases on2 y hy with h | h
        · exact .inl h
        · have h6 : w1.drew.heap.size = w1.heap.size := rfl
          have := f1.size
          exact .inr (by omega)
      have hneo : ∀ y, On p2 y → ¬ Own b bu bd y ∧ y ≠ s := by
        intro y hy
        have hsl := hS.st.lt
        have l1 := hP.st.lt; have l2 := hP.us.lt
        obtain ⟨ws, _, hws⟩ := hP.ws
        have l3 := hws.lt
        rcases hon y hy with h | h
        · exact ⟨hg y h, fun e => hS.ne (e ▸ h)⟩
        · refine ⟨fun h' => ?_, by omega⟩
          unfold Own at h'; omega
      refine ⟨0, p.turned (x.f - p.first) (· - 1) 1, l.take i ++ l.drop (i + 1), p2, c2, rfl, .last i k x hx hk hu htk fun k' hk' hne => ?_, ?_, ⟨?_, ?_, fun h => ?_, hS.ok.cut i⟩, fall.trans (f4.mono fun _ _ h => .inl h), hon⟩
      · have := hall k' hk'; rw [hset, if_neg hne] at this; exact this
      · have e4 : (((x.set k false).f : Int) - (p.first : Int)).toNat = x.f - p.first := by show (((x.f : Nat) : Int) - (p.first : Int)).toNat = _; omega
        rw [e4] at hP4; exact hP4
      · have := st3.fr f4 hs
        have e5 : (l.take i ++ l.drop (i + 1)).length = i + (l.length - (i + 1)) := by simp; omega
        rw [e5]; exact this
      · have e5 : (l.take i ++ l.drop (i + 1)).length = i + (l.length - (i + 1)) := by simp; omega
        rw [e5, qsCells, List.flatMap_append]
        exact (sl2.fr f3 fun y hy h => (hneo y hy).2 h).fr f4 fun y hy h => (hneo y hy).1 h
      · exact (hneo _ h).2 rfl
    · have hany : ∃ k', k' < 4 ∧ k' ≠ k ∧ x.u k' = true := by
        refine Classical.byContradiction fun hn => ?_
        have : r = true := hr'.2 fun j hj => by
          rw [hset]; split
          · rfl
          · rename_i hne
            cases hxu : x.u j
            · rfl
            · exact absurd ⟨j, hj, hne, hxu⟩ hn
        rw [hb] at this; cases this
      refine ⟨0, p, l.set i (x.set k false), some ⟨gb, 0, none⟩, c, rfl, .more i k x hx hk hu htk hany, hP1, ⟨by rw [List.length_set]; exact st1, by rw [List.length_set]; exact sl1, hS.ne, hS.ok.of_f (set_f hx rfl) fun y hy => ?_⟩, f1.mono (fun _ _ h => .inr (.inr h)), fun y hy => .inl hy⟩
      rcases List.mem_or_eq_of_mem_set hy with hy | rfl
      · exact hS.ok.any y hy
      · obtain ⟨k', h1, h2, h3⟩ := hany
        exact ⟨k', h1, by rw [hset, if_neg h2]; exact h3⟩
  · obtain rfl : i = l.length := by omega
    refine ⟨45, p, l, g, c, rfl, .none fun q hq => ?_, hP, hS, Fr.refl _ _, fun x hx => .inl hx⟩
    obtain ⟨j, hj, rfl⟩ := List.getElem_of_mem hq
    exact hno j _ hj (List.getElem?_eq_getElem hj)

theorem f12 {w : World} (b : Nat) : Ret prog 12 #[.pointer (some ⟨b, 0, none⟩)] w fun v w' => v = .tuple #[.pointer (some ⟨w.heap.size, 0, none⟩), .int .i64 0] ∧ SlabAt w' w.heap.size b none 0 [] ∧ Fr0 w w' ∧ w'.heap.size = w.heap.size + 1 := by
  refine F12_of _ _ _ ?_
  unfold F12
  refine New.mk fun w1 n1 f1 s1 => ?_
  exact ⟨rfl, ⟨n1, Sl.nil _ _ _ _, (fun ⟨a, h, _⟩ => by cases h), ⟨fun q h => by simp at h, by simp, fun q h => by simp at h⟩⟩, f1, s1⟩
theorem f12o {w : World} : Ret prog 12 #[.pointer none] w fun v w' => v = .tuple #[.pointer none, .int .i64 3] ∧ w' = w := by
  refine F12o_of _ _ _ ?_
  unfold F12o
  exact ⟨rfl, rfl⟩
end Go.Proofs.YthpodlcbikialaaDoor
