import Derived.Test.YthpodlcbikialaaDoorE2
set_option linter.unusedVariables false
set_option linter.unusedSimpArgs false
namespace Go.Proofs.YthpodlcbikialaaDoor
open Go Go.Sh Go.Fr

theorem i64n_mem {l : List Nat} {x : Nat} : ((x : Int) ∈ l.map fun n : Nat => (n : Int)) ↔ x ∈ l := by
  rw [List.mem_map]
  constructor
  · rintro ⟨y, hy, e⟩; have : y = x := by omega
    subst this; exact hy
  · intro h; exact ⟨x, h, rfl⟩
theorem f52n {w : World} {a : Option Addr} {ac : Nat} {l : List Nat} (h1 : Rd w a (i64n l)) (hl1 : l.length ≤ 9223372036854775806) (x : Nat) :
    Ret prog 52 #[.slice a l.length ac, .int .i64 ((x : Nat) : Int)] w fun v w' => v = .bool (decide (x ∈ l)) ∧ w' = w := by
  rw [i64n_eq] at h1
  have := f52 (ac := ac) h1 (by rw [List.length_map]; exact hl1) (x : Int)
  rw [List.length_map] at this
  refine Ret.use this ?_
  rintro v w' ⟨rfl, rfl⟩
  refine ⟨?_, rfl⟩
  congr 1
  rw [decide_eq_decide]; exact i64n_mem
theorem f24n {w : World} {a b : Option Addr} {ac bc : Nat} {l1 l2 : List Nat} (h1 : Rd w a (i64n l1)) (h2 : Rd w b (i64n l2)) (hl1 : l1.length ≤ 9223372036854775806) (hl2 : l2.length ≤ 9223372036854775806) :
    Ret prog 24 #[.slice a l1.length ac, .slice b l2.length bc] w fun v w' => v = .bool (decide (l1 = l2)) ∧ Qt w w' := by
  rw [i64n_eq] at h1 h2
  have hr := f24 (ac := ac) (bc := bc) h1 h2 (by rw [List.length_map]; omega) (by rw [List.length_map]; omega)
  rw [List.length_map, List.length_map] at hr
  refine Ret.use hr ?_
  rintro v w' ⟨rfl, hq⟩
  refine ⟨?_, hq⟩
  congr 1
  rw [decide_eq_decide]
  constructor
  · intro h
    apply List.ext_getElem?
    intro i
    have := congrArg (fun l => l[i]?) h
    simp only [List.getElem?_map] at this
    cases h1 : l1[i]? <;> cases h2 : l2[i]? <;> simp [h1, h2] at this ⊢
    omega
  · rintro rfl; rfl
/-- the n-th number of a slice of numbers -/
theorem Rd.nat {w : World} {p : Option Addr} {l : List Nat} (h : Rd w p (i64n l)) {i x : Nat} (hi : l[i]? = some x) {K : Int → Prop} (hK : K (x : Int)) :
    NilP p fun a => (0 : Int) ≤ (i : Int) ∧ (i : Int) < (l.length : Int) ∧ Ld w (at0 a ((i : Int).toNat * 1)) fun v => AsI .i64 v K := by
  rw [i64n_eq] at h
  exact h.int (by rw [List.length_map]) (by omega) (x := (x : Int)) (by rw [Int.toNat_natCast, List.getElem?_map, hi]; rfl) hK

theorem f34 {w0 w : World} {b bu bd sa sb : Nat} {ga gb : Option Addr} {ca cb : Nat} {la lb : List Qr} {p : Pool} (h : Two w0 w b bu bd sa sb ga gb ca cb la lb p) :
    Ret prog 34 #[.pointer (some ⟨b, 0, none⟩), .pointer (some ⟨sa, 0, none⟩), .pointer (some ⟨sb, 0, none⟩)] w fun v w' => v = .bool true ∧ Fr0 w w' := by
  have hN := h.A.ok.len
  have hN2 := h.B.ok.len
  refine F34_of _ _ _ _ _ ?_
  unfold F34
  refine Ret.use (f18 h.A) ?_
  rintro v w1 ⟨q1, c1, rfl, sl1, hf1⟩
  rw [AsSl_slice]
  have h1 := h.fr0 hf1
  refine Ret.use (f18 h1.B) ?_
  rintro v w2 ⟨q2, c2, rfl, sl2, hf2⟩
  rw [AsSl_slice]
  have h2 := h1.fr0 hf2
  have r1 := sl1.rd.fr0 hf2
  have r2 := sl2.rd
  refine Loop.by (fun s w' => ∃ (i : Nat) (bb : Bool), s = [.int .i64 (i : Int), .bool bb] ∧ i ≤ la.length ∧ Qt w2 w')
    (fun s _ => match s with | [.int _ k, _] => la.length - k.toNat | _ => 0)
    ⟨0, false, rfl, by omega, Qt.refl _⟩ ?_
  rintro _ w3 ⟨i, bb, rfl, hi, hq3⟩
  simp only [UnC_cons, UnN_nil, AsI_int, AsB_bool]
  have hla : (la.map Qr.f).length = la.length := List.length_map _
  have hlb : (lb.map Qr.f).length = lb.length := List.length_map _
  have r1' := r1.qt hq3
  have r2' := r2.qt hq3
  have h3 := h2.qt hq3
  refine BIf_cases (fun hlt => ?_) (fun hge => ?_)
  · have hil : i < la.length := by omega
    obtain ⟨x, hx⟩ : ∃ x, la[i]? = some x := ⟨_, List.getElem?_eq_getElem hil⟩
    have hxm := List.mem_of_getElem? hx
    have hxi : (la.map Qr.f)[i]? = some x.f := by rw [List.getElem?_map, hx]; rfl
    have hxf := h.A.ok.lt x hxm
    rw [← hla]
    refine Rd.nat r1' hxi ?_
    have hw := f52n (ac := c2) r2' (by rw [hlb]; omega) x.f
    rw [hlb] at hw
    refine Ret.use hw ?_
    rintro v w4 ⟨rfl, hww⟩
    obtain rfl := hww.symm
    rw [AsB_bool, decide_eq_false (fun hm => by
      obtain ⟨y, hy, e⟩ := List.mem_map.1 hm
      exact h.dj x hxm y hy e.symm), BIf_false]
    refine Rd.nat r1' hxi ?_
    refine Ret.use (f16 h3.pool (x.f : Int) (by omega)) ?_
    rintro v w4 ⟨rfl, hq4⟩
    rw [AsI_int]
    obtain ⟨k1, k2, k3⟩ := h.hA x hxm
    have hat : p.at_ (x.f : Int) = p.u.getD (x.f - p.first) 0 := by
      unfold Pool.at_
      rw [if_neg (by omega)]
      congr 1
      omega
    rw [hat]
    refine BIf_neg (by omega) ?_
    rw [w64 (n := (i : Int) + 1) (by omega) (by omega)]
    refine ⟨⟨i + 1, bb, rfl, by omega, hq3.trans hq4⟩, ?_⟩
    rw [hla]
    show la.length - ((i : Int) + 1).toNat < la.length - (i : Int).toNat
    omega
  · refine Ret.use (f17 h3.A) ?_
    rintro v w4 ⟨q4, c4, rfl, sl4, hf4⟩
    rw [AsSl_slice]
    refine Ret.use (f31 (fc := c1) (tc := c4) h.A.ok (r1'.fr0 hf4) sl4.rd) ?_
    rintro v w5 ⟨rfl, hq5⟩
    rw [AsB_bool, BIf_true]
    have h5 := (h3.fr0 hf4).qt hq5
    refine Ret.use (f17 h5.B) ?_
    rintro v w6 ⟨q6, c6, rfl, sl6, hf6⟩
    rw [AsSl_slice]
    refine Ret.use (f31 (fc := c2) (tc := c6) h.B.ok (((r2'.fr0 hf4).qt hq5).fr0 hf6) sl6.rd) ?_
    rintro v w7 ⟨rfl, hq7⟩
    rw [AsB_bool]
    exact ⟨rfl, ((((hf1.trans hf2).trans hq3.fr).trans hf4).trans hq5.fr |>.trans hf6).trans hq7.fr⟩

/-- the first table that is missing in the slab's frames -/
def Miss (L : List Nat) (x : Nat) : Prop := ∃ j k y : Nat, L[j]? = some y ∧ k < 4 ∧ x = 4 * (y / 4) + k ∧ x ∉ L ∧ (∀ j' y' k' : Nat, j' < j → L[j']? = some y' → k' < 4 → 4 * (y' / 4) + k' ∈ L) ∧ ∀ k', k' < k → 4 * (y / 4) + k' ∈ L
def Full (L : List Nat) : Prop := ∀ y ∈ L, ∀ k, k < 4 → 4 * (y / 4) + k ∈ L
theorem Miss.uniq {L : List Nat} {x x' : Nat} (h : Miss L x) (h' : Miss L x') : x = x' := by
  obtain ⟨j, k, y, hj, hk, rfl, hn, hb, hc⟩ := h
  obtain ⟨j', k', y', hj', hk', rfl, hn', hb', hc'⟩ := h'
  rcases Nat.lt_trichotomy j j' with e | e | e
  · exact absurd (hb' j y k e hj hk) hn
  · subst e; rw [hj] at hj'; injection hj' with hj'; subst hj'
    rcases Nat.lt_trichotomy k k' with e | e | e
    · exact absurd (hc' k e) hn
    · subst e; rfl
    · exact absurd (hc k' e) hn'
  · exact absurd (hb j' y' k' e hj' hk') hn'
theorem Miss.not_full {L : List Nat} {x : Nat} (h : Miss L x) (hf : Full L) : False := by
  obtain ⟨j, k, y, hj, hk, rfl, hn, _⟩ := h
  exact hn (hf y (List.mem_of_getElem? hj) k hk)
theorem same_f {l : List Qr} (h : SlabOk l) {q q' : Qr} (hq : q ∈ l) (hq' : q' ∈ l) (e : q.f = q'.f) : q = q' := by
  obtain ⟨i, hi, rfl⟩ := List.getElem_of_mem hq
  obtain ⟨j, hj, rfl⟩ := List.getElem_of_mem hq'
  rcases Nat.lt_trichotomy i j with h1 | h1 | h1
  · have := List.pairwise_iff_getElem.1 h.rise i j hi hj h1; omega
  · subst h1; rfl
  · have := List.pairwise_iff_getElem.1 h.rise j i hj hi h1; omega
theorem has_tab {l : List Qr} (h : SlabOk l) {q : Qr} (hq : q ∈ l) {k : Nat} (hk : k < 4) : 4 * q.f + k ∈ tabs l ↔ q.u k = true := by
  rw [mem_tabs]
  constructor
  · rintro ⟨q', hq', k', hk', hu, e⟩
    have := same_f h hq hq' (by omega)
    subst this
    have : k = k' := by omega
    subst this; exact hu
  · intro hu; exact ⟨q, hq, k, hk, hu, rfl⟩
theorem full_of {l : List Qr} (h : SlabOk l) (hf : ∀ q ∈ l, ∀ k, k < 4 → q.u k = true) : Full (tabs l) := by
  intro y hy k hk
  obtain ⟨q, hq, k', hk', _, rfl⟩ := mem_tabs.1 hy
  rw [show (4 * q.f + k') / 4 = q.f by omega]
  exact (has_tab h hq hk).2 (hf q hq k hk)
theorem miss_of {l : List Qr} (h : SlabOk l) {i k : Nat} {q : Qr} (hq : l[i]? = some q) (hk : k < 4) (h0 : q.u k = false) (h1 : ∀ k', k' < k → q.u k' = true) (h2 : ∀ i' q', i' < i → l[i']? = some q' → ∀ k', k' < 4 → q'.u k' = true) :
    Miss (tabs l) (4 * q.f + k) := by
  have hqm := List.mem_of_getElem? hq
  have hpos := qtabs_pos h hqm
  have hat := tabs_at hq hpos
  rw [Nat.add_zero] at hat
  have hdiv := qtabs_div hpos
  refine ⟨base l i, k, _, hat, hk, by rw [hdiv], fun hm => ?_, fun j' y' k' hj hy hk' => ?_, fun k' hk' => ?_⟩
  · rw [has_tab h hqm hk] at hm; rw [h0] at hm; cases hm
  · rw [tabs_cut hq, List.getElem?_append_left hj] at hy
    have hym := List.mem_of_getElem? hy
    obtain ⟨q', hq', k'', hk'', _, rfl⟩ := mem_tabs.1 hym
    obtain ⟨i', hi', e⟩ := List.getElem_of_mem hq'
    rw [List.length_take] at hi'
    rw [List.getElem_take] at e
    have hql : l[i']? = some q' := by rw [List.getElem?_eq_getElem (by omega), e]
    rw [show (4 * q'.f + k'') / 4 = q'.f by omega]
    exact (has_tab h (List.mem_of_getElem? hql) hk').2 (h2 i' q' (by omega) hql k' hk')
  · rw [hdiv]
    exact (has_tab h hqm (by omega)).2 (h1 k' hk')
theorem free_pos {first : Nat} {u : List Nat} {a : Nat} (h : Fit first u 1 1 a) : 0 < zeros u := by
  have ha : a < u.length := by have := h.2.1; omega
  have h0 := h.2.2 a (Nat.le_refl _) (by omega)
  rw [getD_get ha] at h0
  exact List.countP_pos_iff.2 ⟨u[a], List.getElem_mem ha, by simp [h0]⟩
theorem free_none {first : Nat} {u : List Nat} (h : ∀ a, ¬ Fit first u 1 1 a) : zeros u = 0 := by
  refine countP_none fun x hx e => ?_
  obtain ⟨i, hi, rfl⟩ := List.getElem_of_mem hx
  refine h i ⟨by rw [Nat.mod_one], by omega, fun y h1 h2 => ?_⟩
  have : y = i := by omega
  subst this; rw [getD_get hi, e]
theorem free_take {u : List Nat} {a : Nat} (ha : a < u.length) (h0 : u.getD a 0 = 0) : zeros (turn u a (fun _ => 1) 1) + 1 = zeros u := by
  have := count_set u a 1 ha
  rw [getD_get ha] at h0
  rw [if_pos h0, if_neg (by decide)] at this
  simp only [zeros, turn, Nat.add_zero] at *
  exact this
end Go.Proofs.YthpodlcbikialaaDoor
