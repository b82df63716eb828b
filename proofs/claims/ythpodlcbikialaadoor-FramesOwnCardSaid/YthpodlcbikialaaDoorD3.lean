import Derived.Test.YthpodlcbikialaaDoorD2
set_option linter.unusedVariables false
set_option linter.unusedSimpArgs false
namespace Go.Proofs.YthpodlcbikialaaDoor
open Go Go.Sh Go.Fr

theorem und38 : prog.underlying 38 = some (.slice 3) := by kernel_rfl
theorem inf3 : (prog.info? 3).map (fun i => (i.zero, i.size, i.bytes)) = some (some (.int .i64 0), 1, 8) := by kernel_rfl
theorem free_zeros (p : Pool) : p.free = zeros p.u := rfl
theorem f5 {w : World} (hT : Tz w) (first count : Int) {q : Option Addr} {n c : Nat} {l : List Op5} (hs : ScrAt w q n l) (hi1 : I64 first) (hi2 : I64 count) :
    Ret prog 5 #[.int .i64 first, .int .i64 count, .slice q n c] w fun v w' => v = .bool true ∧ Fr0 w w' := by
  have h0 := hT.size
  refine F5_of _ _ _ _ _ _ _ ?_
  unfold F5
  refine Ret.use (f19 first count) ?_
  rintro v w1 ⟨b, bu, bd, rfl, hP1, hf1, hb⟩
  have hd : ¬ Own b bu bd 0 := by unfold Own; omega
  have hown : ∀ x, Own b bu bd x → w.heap.size ≤ x := by intro x hx; unfold Own at hx; omega
  simp only [AsTup_tuple, UnC_cons, UnN_nil, AsI_int, AsP_pointer]
  rw [show (some (⟨b, 0, none⟩ : Addr)).isNone = false from rfl, BIf_false]
  refine Ret.use (f13 (hT.fr0 hf1)) ?_
  rintro v w2 ⟨rfl, hf2⟩
  rw [AsB_bool, Bool.not_true, BIf_false]
  have g1 : 0 ≤ first % 10000 ∧ first % 10000 < 10000 := by omega
  have g2 : 1 ≤ 1 + count % 200 ∧ 1 + count % 200 ≤ 200 := by omega
  obtain ⟨lo, hlo⟩ : ∃ lo : Nat, first % 10000 = lo := ⟨(first % 10000).toNat, by omega⟩
  obtain ⟨m, hm⟩ : ∃ m : Nat, 1 + count % 200 = m := ⟨(1 + count % 200).toNat, by omega⟩
  rw [hlo, hm] at hP1 ⊢
  rw [hlo] at g1; rw [hm] at g2
  simp only [Int.toNat_natCast] at hP1
  have hP2 := hP1.fr0 hf2
  have k1 := hP2.st.lt; have k2 := hP2.us.lt
  have k3 : bd < w2.heap.size := by obtain ⟨ws, _, hws⟩ := hP2.ws; exact hws.lt
  refine RunV.make 38 3 _ 8 m und38 inf3 rfl (by omega) (by omega) fun w3 hbk hf3 hs3 => ?_
  have hf02 := hf1.trans hf2
  have hsz2 := hf02.size
  have hf03 := hf02.trans hf3
  rw [AsSl_slice]
  obtain ⟨bk, hbke⟩ : ∃ bk, w2.heap.size = bk := ⟨_, rfl⟩
  rw [hbke] at hbk ⊢ k1 k2 k3 hsz2
  rw [hbke] at hs3
  have hbk0 : Has w3 bk (i64n (newPool lo m).u) := by simpa [i64n, newPool] using hbk
  have hnb : ¬ Own b bu bd bk := by unfold Own; omega
  clear hbk
  refine Loop.by (fun s w' => ∃ (i : Nat) (bb : Bool) (p : Pool), s = [.int .i64 (i : Int), .bool bb] ∧ i ≤ n ∧ p.first = lo ∧ p.u.length = m ∧ PoolAt w' b bu bd p ∧ Has w' bk (i64n p.u) ∧ Fr0 w w')
    (fun s _ => match s with | [.int _ k, _] => n - k.toNat | _ => 0)
    ⟨0, false, newPool lo m, rfl, by omega, rfl, by simp [newPool], hP2.fr0 hf3, hbk0, hf03⟩ ?_
  rintro _ w4 ⟨i, bb, p, rfl, hi, hpf, hpl, hP4, hB4, hf4⟩
  have hT4 := hT.fr0 hf4
  simp only [UnC_cons, UnN_nil, AsI_int, AsB_bool]
  have hn := hs.lt
  have hN := hP4.ok.n
  have hL := hP4.ok.le
  refine BIf_cases (fun hlt => ?_) (fun hge => ?_)
  · have hil : i < l.length := by rw [hs.len]; omega
    obtain ⟨o, ho⟩ : ∃ o, l[i]? = some o := ⟨_, List.getElem?_eq_getElem hil⟩
    have hok := hs.ok o (List.mem_of_getElem? ho)
    refine (hs.fr0 hf4).use ho ?_
    refine New.mk fun w5 n5 f5 s5 => ?_
    simp only [at0_mk, Nat.zero_add]
    refine n5.st (by simp) rfl fun w6 n6 f6 s6 => ?_
    refine n6.st (by simp) rfl fun w7 n7 f7 s7 => ?_
    refine n7.st (by simp) rfl fun w8 n8 f8 s8 => ?_
    refine n8.st (by simp) rfl fun w9 n9 f9 s9 => ?_
    refine n9.st (by simp) rfl fun w10 n10 f10 s10 => ?_
    replace n10 : Has w10 w4.heap.size o.cells := n10
    have hf410 : Fr0 w4 w10 := ((((f5.mono fun _ _ h => h.elim).trans f6).trans f7).trans f8 |>.trans f9 |>.trans f10).mono fun x hx h => by omega
    obtain ⟨oa, hoa⟩ : ∃ oa, w4.heap.size = oa := ⟨_, rfl⟩
    rw [hoa] at n10 ⊢
    have hbo := hB4.lt
    rw [hoa] at hbo
    have hno : ¬ Own b bu bd oa := by unfold Own; omega
    refine n10.ld rfl ?_
    rw [AsI_int]
    refine n10.ld rfl ?_
    rw [AsI_int]
    refine n10.ld rfl ?_
    rw [AsI_int]
    refine n10.ld rfl ?_
    rw [AsI_int]
    refine n10.ld rfl ?_
    rw [AsI_int]
    have hP10 := hP4.fr0 hf410
    have hB10 := hB4.fr0 hf410
    have hf010 := hf4.trans hf410
    refine Ret.use (f20 hP10 (hT.fr0 hf010) hd o.k o.f o.n o.al o.y hok.f hok.n) ?_
    rintro v w11 ⟨r, e, p', rfl, hst, hP11, hf11⟩
    simp only [AsTup_tuple, UnC_cons, UnN_nil, AsI_int]
    have hB11 := hB10.fr hf11 hnb
    have n11 := n10.fr hf11 hno
    have hf011 := Fr.news hf010 hf11 hown
    obtain ⟨s1, s2⟩ := hst.same
    have hwsz : w.heap.size ≤ oa := by have := hf4.size; omega
    refine Join.at (fun s w' => ∃ bb : Bool, s = [.bool bb] ∧ PoolAt w' b bu bd p' ∧ Has w' bk (i64n p'.u) ∧ Fr0 w w') ?_ ?_
    rotate_left
    · rintro _ w12 ⟨bb', rfl, hP12, hB12, hf12⟩
      simp only [UnC_cons, UnN_nil, AsB_bool]
      rw [← hpf, ← hpl, ← s1, ← s2]
      refine Ret.use (f21 hP12) ?_
      rintro v w13 ⟨uq, uc, rfl, sl13, hf13⟩
      rw [AsSl_slice]
      have hN' := hP12.ok.n
      have h1 := sl13.rd
      have h2 : Rd w13 (some ⟨bk, 0, none⟩) (i64n p'.u) := fun j v hv => ⟨bk, 0, rfl, by rw [Nat.zero_add, (hB12.fr0 hf13).cell]; exact hv⟩
      rw [i64n_eq] at h1 h2
      have hr := f24 (ac := uc) (bc := p'.u.length) h1 h2 (by rw [List.length_map]; omega) (by rw [List.length_map]; omega)
      rw [List.length_map] at hr
      refine Ret.use hr ?_
      rintro v w14 ⟨rfl, hq14⟩
      simp only [AsB_bool, decide_true, Bool.not_true, BIf_false]
      rw [w64 (n := (i : Int) + 1) (by omega) (by omega)]
      refine ⟨⟨i + 1, bb', p', rfl, by omega, by omega, by omega, (hP12.fr0 hf13).qt hq14, (hB12.fr0 hf13).qt hq14, (hf12.trans hf13).trans hq14.fr⟩, ?_⟩
      show n - ((i : Int) + 1).toNat < n - (i : Int).toNat
      omega
    refine Ret.use (f14 _) ?_
    rintro v w12 ⟨rfl, hw⟩
    obtain rfl := hw.symm
    rw [AsI_int]
    refine BIf_eq (fun he => ?_) (fun he => ?_)
    rotate_left
    · obtain rfl := hst.bad_same (by omega)
      exact ⟨bb, rfl, hP11, hB11, hf011⟩
    have he : e = 0 := by omega
    refine n11.ld rfl ?_
    rw [AsI_int]
    refine BIf_cases (fun hk1 => ?_) (fun hk1 => ?_)
    rotate_left
    · obtain rfl := hst.other_same (by omega) (by omega) (by omega)
      exact ⟨bb, rfl, hP11, hB11, hf011⟩
    refine n11.ld rfl ?_
    rw [AsI_int]
    refine BIf_cases (fun hk2 => ?_) (fun hk2 => ?_)
    rotate_left
    · obtain rfl := hst.other_same (by omega) (by omega) (by omega)
      exact ⟨bb, rfl, hP11, hB11, hf011⟩
    obtain ⟨k0, K, fn, hoN, hK1, hKl, hp', hr1, hr2, hfn, hr3⟩ := hst.good he ⟨by omega, hk2⟩
    refine n11.ld rfl ?_
    rw [AsI_int]
    refine Join.at (fun s w' => s = [.int .i64 ((lo + k0 : Nat) : Int)] ∧ w' = w11) ?_ ?_
    · refine n11.ld rfl ?_
      rw [AsI_int]
      refine BIf_eq (fun h1 => ?_) (fun h1 => ?_)
      · refine ⟨?_, rfl⟩
        rw [hr1 h1, hpf]; simp
      · refine ⟨?_, rfl⟩
        rw [hr2 h1, hpf]; simp
    rintro _ _ ⟨rfl, hw⟩
    obtain rfl := hw.symm
    simp only [UnC_cons, UnN_nil, AsI_int]
    refine n11.ld rfl ?_
    rw [AsI_int, hoN]
    refine BIf_neg (by omega) ?_
    refine BIf_neg (by omega) ?_
    rw [w64 (n := (lo : Int) + (m : Int)) (by omega) (by omega)]
    refine BIf_neg (by omega) ?_
    refine n11.ld rfl ?_
    rw [AsI_int, hoN, w64 (n := (lo : Int) + (m : Int) - ((lo + k0 : Nat) : Int)) (by omega) (by omega)]
    refine BIf_neg (by omega) ?_
    rw [w64 (n := ((lo + k0 : Nat) : Int) - (lo : Int)) (by omega) (by omega)]
    have hzle := zeros_le p.u
    refine Loop.by (fun s w' => ∃ (j fr : Nat) (bb : Bool), s = [.int .i64 ((k0 + j : Nat) : Int), .int .i64 (fr : Int), .bool bb] ∧ j ≤ K ∧ fr ≤ j ∧ (o.k ≠ 1 → zeros (turn p.u k0 fn j) = zeros p.u + fr) ∧
        PoolAt w' b bu bd p' ∧ Has w' bk (i64n (turn p.u k0 fn j)) ∧ Has w' oa o.cells ∧ Fr0 w w')
      (fun s _ => match s with | [.int _ k, _, _] => k0 + K - k.toNat | _ => 0)
      ⟨0, 0, bb, by rw [show ((lo + k0 : Nat) : Int) - (lo : Int) = ((k0 + 0 : Nat) : Int) by omega]; rfl, by omega, by omega, fun _ => rfl, hP11, hB11, n11, hf011⟩ ?_
    rintro _ w12 ⟨j, fr, bb1, rfl, hj, hfr, hfz, hP12, hB12, n12, hf12⟩
    simp only [UnC_cons, UnN_nil, AsI_int, AsB_bool]
    refine n12.ld rfl ?_
    rw [AsI_int, hoN, w64 (n := ((lo + k0 : Nat) : Int) - (lo : Int) + (K : Int)) (by omega) (by omega)]
    refine BIf_cases (fun hlt2 => ?_) (fun hge2 => ?_)
    · have hjK : j < K := by omega
      have hidx : k0 + j < p.u.length := by omega
      have hlen : (turn p.u k0 fn j).length = p.u.length := turn_len _ _ _ _
      obtain ⟨e1, e2⟩ := hfn (k0 + j) (by omega) (by omega)
      have hcell : (i64n (turn p.u k0 fn j))[k0 + j]? = some (.int .i64 ((p.u.getD (k0 + j) 0 : Nat) : Int)) := by rw [i64n_get (by omega), turn_end hidx]
      have hu255 := hP4.ok.u _ (List.getElem_mem hidx)
      rw [← getD_get hidx] at hu255
      refine Join.triv ?_
      refine n12.drew.ld rfl ?_
      simp only [AsI_int, NilP_some, at0_mk, Nat.zero_add, Nat.mul_one, Int.toNat_natCast]
      refine ⟨by omega, by omega, ?_⟩
      refine hB12.drew.ld hcell ?_
      rw [AsI_int]
      have hcond : (!(o.k == 1) == (((p.u.getD (k0 + j) 0 : Nat) : Int) == 0)) = false := by
        by_cases h : o.k = 1
        · have := e1.1 h; rw [this, h]; rfl
        · have h2 : p.u.getD (k0 + j) 0 ≠ 0 := fun h3 => h (e1.2 h3)
          have h4 : (((p.u.getD (k0 + j) 0 : Nat) : Int) == 0) = false := beq_eq_false_iff_ne.2 (by omega)
          rw [h4, beq_eq_false_iff_ne.2 h]; rfl
      rw [hcond, BIf_false]
      have hnew : turn p.u k0 fn (j + 1) = (turn p.u k0 fn j).set (k0 + j) (fn (p.u.getD (k0 + j) 0)) := rfl
      refine Join.at (fun s w' => s = [] ∧ PoolAt w' b bu bd p' ∧ Has w' bk (i64n (turn p.u k0 fn (j + 1))) ∧ Has w' oa o.cells ∧ Fr0 w w') ?_ ?_
      · refine n12.drew.ld rfl ?_
        rw [AsI_int]
        have fin : ∀ (x : Int) w13, Has w13 bk ((i64n (turn p.u k0 fn j)).set (k0 + j) (.int .i64 x)) → Fr (· = bk) w12.drew w13 → x = ((fn (p.u.getD (k0 + j) 0) : Nat) : Int) → ([] : List Value) = [] ∧ PoolAt w13 b bu bd p' ∧ Has w13 bk (i64n (turn p.u k0 fn (j + 1))) ∧ Has w13 oa o.cells ∧ Fr0 w w13 := by
          intro x w13 h13 f13 hx
          subst hx
          rw [i64n_set, ← hnew] at h13
          have f13' := f13.of_drew
          refine ⟨rfl, hP12.fr f13' (by omega) (by omega) (by omega), h13, n12.fr f13' (by omega), Fr.news hf12 f13' fun x hx => by omega⟩
        refine BIf_eq (fun h3 => ?_) (fun h3 => ?_)
        · refine ⟨by omega, by omega, ?_⟩
          refine hB12.drew.ld hcell ?_
          rw [AsI_int]
          refine ⟨by omega, by omega, ?_⟩
          have hpos : p.u.getD (k0 + j) 0 ≠ 0 := fun h4 => by have := e1.2 h4; omega
          rw [w64 (n := ((p.u.getD (k0 + j) 0 : Nat) : Int) - 1) (by omega) (by omega)]
          refine hB12.drew.st (by rw [i64n_len]; omega) rfl fun w13 h13 f13 _ => ?_
          exact fin _ w13 h13 f13 (by rw [e2, if_pos h3]; omega)
        · refine ⟨by omega, by omega, ?_⟩
          refine hB12.drew.ld hcell ?_
          rw [AsI_int]
          refine ⟨by omega, by omega, ?_⟩
          rw [w64 (n := ((p.u.getD (k0 + j) 0 : Nat) : Int) + 1) (by omega) (by omega)]
          refine hB12.drew.st (by rw [i64n_len]; omega) rfl fun w13 h13 f13 _ => ?_
          exact fin _ w13 h13 f13 (by rw [e2, if_neg h3]; omega)
      rintro _ w13 ⟨rfl, hP13, hB13, n13, hf13⟩
      rw [UnN_nil]
      refine ⟨by omega, by omega, ?_⟩
      have hcell2 : (i64n (turn p.u k0 fn (j + 1)))[k0 + j]? = some (.int .i64 ((fn (p.u.getD (k0 + j) 0) : Nat) : Int)) := by
        rw [i64n_get (by rw [turn_len]; omega), turn_get p.u k0 fn (k0 + j) (j + 1) (by omega), if_pos (by omega)]
      refine hB13.ld hcell2 ?_
      rw [AsI_int]
      have hz : o.k ≠ 1 → zeros (turn p.u k0 fn (j + 1)) = zeros p.u + (fr + if fn (p.u.getD (k0 + j) 0) = 0 then 1 else 0) := by
        intro h
        rw [turn_zeros hidx (fun h4 => h (e1.2 h4)), hfz h]; omega
      have hmeas : k0 + K - (((k0 + j : Nat) : Int) + 1).toNat < k0 + K - ((k0 + j : Nat) : Int).toNat := by omega
      refine BIf_eq (fun h0 => ?_) (fun h0 => ?_)
      · simp only [UnC_cons, UnN_nil, AsI_int, AsB_bool]
        rw [w64 (n := ((k0 + j : Nat) : Int) + 1) (by omega) (by omega), w64 (n := (fr : Int) + 1) (by omega) (by omega)]
        rw [if_pos (by omega)] at hz
        exact ⟨⟨j + 1, fr + 1, bb1, rfl, by omega, by omega, hz, hP13, hB13, n13, hf13⟩, hmeas⟩
      · simp only [UnC_cons, UnN_nil, AsI_int, AsB_bool]
        rw [w64 (n := ((k0 + j : Nat) : Int) + 1) (by omega) (by omega)]
        rw [if_neg (by omega)] at hz
        exact ⟨⟨j + 1, fr, bb1, rfl, by omega, by omega, hz, hP13, hB13, n13, hf13⟩, hmeas⟩
    · obtain rfl : j = K := by omega
      have hBp : Has w12 bk (i64n p'.u) := by rw [hp']; exact hB12
      refine n12.ld rfl ?_
      rw [AsI_int]
      refine BIf_eq (fun h3 => ?_) (fun h3 => ?_)
      · refine BIf_ne (fun hne => absurd ?_ hne) (fun _ => ?_)
        · rw [hr3 h3, free_zeros, free_zeros, hp']
          have := hfz (by omega)
          show ((zeros (turn p.u k0 fn j) : Nat) : Int) - _ = _
          omega
        · exact ⟨bb1, rfl, hP12, hBp, hf12⟩
      · exact ⟨bb1, rfl, hP12, hBp, hf12⟩
  · refine Loop.by (fun s w' => ∃ (k : Nat) (bb : Bool) (p : Pool), s = [.int .i64 (k : Int), .bool bb] ∧ k ≤ m ∧ p.first = lo ∧ p.u.length = m ∧ (∀ x, x < k → p.u.getD x 0 = 0) ∧ PoolAt w' b bu bd p ∧ Has w' bk (i64n p.u) ∧ Fr0 w w')
      (fun s _ => match s with | [.int _ k, _] => m - k.toNat | _ => 0)
      ⟨0, bb, p, rfl, by omega, hpf, hpl, fun x h => by omega, hP4, hB4, hf4⟩ ?_
    clear hP4 hB4 hf4 hT4 hpf hpl hN hL p
    rintro _ w5 ⟨k, bb1, p, rfl, hk, hpf, hpl, hz, hP5, hB5, hf5⟩
    simp only [UnC_cons, UnN_nil, AsI_int, AsB_bool]
    refine BIf_cases (fun hlt => ?_) (fun hge => ?_)
    · refine Loop.by (fun s w' => ∃ (bb : Bool) (p : Pool), s = [.bool bb] ∧ p.first = lo ∧ p.u.length = m ∧ (∀ x, x < k → p.u.getD x 0 = 0) ∧ PoolAt w' b bu bd p ∧ Has w' bk (i64n p.u) ∧ Fr0 w w')
        (fun _ w' => match w'.cell? ⟨bk, k, none⟩ with | some (.int _ x) => x.toNat | _ => 0)
        ⟨bb1, p, rfl, hpf, hpl, hz, hP5, hB5, hf5⟩ ?_
      clear hP5 hB5 hf5 hpf hpl hz p
      rintro _ w6 ⟨bb2, p, rfl, hpf, hpl, hz, hP6, hB6, hf6⟩
      have hN := hP6.ok.n
      have hL := hP6.ok.le
      have hkm : k < p.u.length := by omega
      have hcell := i64n_get hkm
      have hu255 := hP6.ok.u _ (List.getElem_mem hkm)
      rw [← getD_get hkm] at hu255
      simp only [UnC_cons, UnN_nil, AsI_int, AsB_bool, NilP_some, at0_mk, Nat.zero_add, Nat.mul_one, Int.toNat_natCast]
      refine ⟨by omega, by omega, ?_⟩
      refine hB6.ld hcell ?_
      rw [AsI_int]
      refine BIf_cases (fun hpos => ?_) (fun hzero => ?_)
      · rw [w64 (n := (lo : Int) + (k : Int)) (by omega) (by omega), show (lo : Int) + (k : Int) = ((p.first + k : Nat) : Int) by omega]
        refine Ret.use (f25 hP6 (hT.fr0 hf6) hd _ 1 (by omega) (by omega)) ?_
        have hrun := run_held (p := p) (f := p.first + k) (by omega) (by omega) (by rw [Nat.add_sub_cancel_left]; omega)
        rintro v w7 (⟨hbad, _⟩ | ⟨_, rfl, hP7, hf7⟩)
        · exact absurd (by rw [hrun]) hbad
        simp only [AsTup_tuple, UnC_cons, UnN_nil, AsI_int]
        have ek : (((p.first + k : Nat) : Int) - (p.first : Int)).toNat = k := by omega
        rw [ek] at hP7 ⊢
        have hB7 := hB6.fr hf7 hnb
        have hf07 := Fr.news hf6 hf7 hown
        refine ⟨by omega, by omega, ?_⟩
        refine hB7.ld hcell ?_
        rw [AsI_int]
        refine ⟨by omega, by omega, ?_⟩
        rw [w64 (n := ((p.u.getD k 0 : Nat) : Int) - 1) (by omega) (by omega), show ((p.u.getD k 0 : Nat) : Int) - 1 = ((p.u.getD k 0 - 1 : Nat) : Int) by omega]
        refine hB7.st (by rw [i64n_len]; omega) rfl fun w8 hB8 hf8 _ => ?_
        rw [i64n_set] at hB8
        have hp' : p.turned k (· - 1) (1 : Int).toNat = ⟨p.first, p.u.set k (p.u.getD k 0 - 1)⟩ := rfl
        rw [hp'] at hP7 ⊢
        have hP8 := hP7.fr hf8 (by omega) (by omega) (by omega)
        have hf08 : Fr0 w w8 := Fr.news hf07 hf8 fun x hx => by omega
        refine Ret.use (f14 _) ?_
        rintro v w9 ⟨rfl, hw⟩
        obtain rfl := hw.symm
        rw [AsI_int]
        refine BIf_ne (fun h => absurd rfl h) (fun _ => ?_)
        refine ⟨by omega, by omega, ?_⟩
        have hgd : (p.u.set k (p.u.getD k 0 - 1)).getD k 0 = p.u.getD k 0 - 1 := by rw [getD_set _ _ _ _ hkm, if_pos rfl]
        have hlen2 : (p.u.set k (p.u.getD k 0 - 1)).length = p.u.length := List.length_set
        have hc8 := i64n_get (l := p.u.set k (p.u.getD k 0 - 1)) (i := k) (by omega)
        rw [hgd] at hc8
        refine hB8.ld hc8 ?_
        rw [AsI_int]
        have hcnt := count_set p.u k (p.u.getD k 0 - 1) hkm
        rw [← getD_get hkm, if_neg (by omega)] at hcnt
        have hfree : ((Pool.free ⟨p.first, p.u.set k (p.u.getD k 0 - 1)⟩ : Nat) : Int) - (p.free : Int) = if p.u.getD k 0 - 1 = 0 then 1 else 0 := by
          unfold Pool.free
          simp only [Nat.add_zero] at hcnt
          show ((List.countP (· = 0) (p.u.set k (p.u.getD k 0 - 1)) : Nat) : Int) - ((List.countP (· = 0) p.u : Nat) : Int) = _
          rw [hcnt]
          split <;> omega
        rw [hfree]
        have hcond : (!((if p.u.getD k 0 - 1 = 0 then (1 : Int) else 0) == 1) == (((p.u.getD k 0 - 1 : Nat) : Int) == 0)) = false := by
          by_cases h : p.u.getD k 0 - 1 = 0
          · rw [if_pos h, h]; rfl
          · have h4 : (((p.u.getD k 0 - 1 : Nat) : Int) == 0) = false := beq_eq_false_iff_ne.2 (by omega)
            rw [if_neg h, h4]; rfl
        rw [hcond, BIf_false]
        refine ⟨⟨bb2, ⟨p.first, p.u.set k (p.u.getD k 0 - 1)⟩, rfl, hpf, by rw [← hpl]; exact hlen2, fun x hx => ?_, hP8, hB8, hf08⟩, ?_⟩
        · rw [getD_set _ _ _ _ hkm, if_neg (by omega)]; exact hz x hx
        · rw [hB8.cell, hc8, hB6.cell, hcell]
          show (((p.u.getD k 0 - 1 : Nat) : Int)).toNat < (((p.u.getD k 0 : Nat) : Int)).toNat
          omega
      · rw [w64 (n := (k : Int) + 1) (by omega) (by omega)]
        refine ⟨⟨k + 1, bb2, p, rfl, by omega, hpf, hpl, fun x hx => ?_, hP6, hB6, hf6⟩, ?_⟩
        · by_cases e : x = k
          · subst e; omega
          · exact hz x (by omega)
        · show m - ((k : Int) + 1).toNat < m - (k : Int).toNat
          omega
    · have hk2 : k = m := by omega
      have hall : ∀ x, p.u.getD x 0 = 0 := by
        intro x
        by_cases hx : x < m
        · exact hz x (by omega)
        · simp [List.getD, List.getElem?_eq_none (show p.u.length ≤ x by omega)]
      refine Ret.use (f26 hP5) ?_
      rintro v w6 ⟨rfl, hw⟩
      obtain rfl := hw.symm
      rw [AsI_int]
      have hfree : p.free = m := by rw [← hpl]; exact all_zero_count hall
      rw [hfree]
      refine BIf_eq (fun _ => ?_) (fun h => absurd rfl h)
      refine Ret.use (f28 hP5 (hT.fr0 hf5)) ?_
      rintro v w6 ⟨rq, rc, rfl, sl6, hf6⟩
      rw [AsSl_slice]
      have hruns : p.runs = [(0, m)] := by rw [← hpl]; exact all_zero_runs hall (by omega)
      refine RunV.build1 E55 (by decide) rfl fun w7 h7 hf7 _ => ?_
      rw [AsSl_slice]
      have hR1 : RunsAt w7 rq p.runs.length p.first p.runs := ⟨sl6.rd.fr0 hf7, rfl⟩
      have hR2 : RunsAt w7 (some ⟨w6.heap.size, 0, none⟩) 1 p.first [(0, m)] := by
        refine ⟨fun j v hv => ⟨_, 0, rfl, ?_⟩, rfl⟩
        rw [Nat.zero_add, h7.cell]
        have e : (Value.agg #[Value.int .i64 (lo : Int), .int .i64 (m : Int)]).cells.toList = runCells p.first [(0, m)] := by
          simp [runCells, Value.cells, hpf]
        rw [e]; exact hv
      refine Ret.use (f27 (ac := rc) (bc := 1) hR1 hR2 (by rw [hruns]; simp)) ?_
      rintro v w8 ⟨rfl, hq8⟩
      rw [AsB_bool, hruns]
      refine ⟨by simp, ((hf5.trans hf6).trans hf7).trans hq8.fr⟩
end Go.Proofs.YthpodlcbikialaaDoor
