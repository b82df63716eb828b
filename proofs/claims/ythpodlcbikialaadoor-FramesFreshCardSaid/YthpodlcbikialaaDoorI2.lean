import Derived.Test.YthpodlcbikialaaDoorI1
set_option linter.unusedVariables false
set_option linter.unusedSimpArgs false
set_option linter.unusedVariables false
set_option linter.unusedSimpArgs false
namespace Go.Proofs.YthpodlcbikialaaDoor
open Go Go.Sh Go.Fr

theorem runs_one {first : Nat} {R : List (Nat × Nat)} : ∀ u ∈ runCells first R, u.oneCell' = true := by
  intro u hu
  obtain ⟨r, _, hr⟩ := List.mem_flatMap.1 hu
  simp only [List.mem_cons, List.not_mem_nil, or_false] at hr
  rcases hr with rfl | rfl <;> rfl
theorem i64n_one {l : List Nat} : ∀ u ∈ i64n l, u.oneCell' = true := by
  intro u hu; obtain ⟨n, _, rfl⟩ := List.mem_map.1 hu; rfl
theorem runCells_len' (first : Nat) (a : List (Nat × Nat)) : (runCells first a).length = a.length * 2 := flat_len (g := fun r : Nat × Nat => [Value.int .i64 ((first + r.1 : Nat) : Int), .int .i64 ((r.2 : Nat) : Int)]) (size := 2) (fun _ => rfl) a
set_option maxHeartbeats 1000000 in
theorem f7 {w : World} (hT : Tz w) (first count : Int) {q : Option Addr} {n c : Nat} {l0 : List Op5} (hs : ScrAt w q n l0) (hi1 : I64 first) (hi2 : I64 count) :
    Ret prog 7 #[.int .i64 first, .int .i64 count, .slice q n c] w fun v w' => v = .bool true ∧ Fr0 w w' := by
  have h0 := hT.size
  refine F7_of _ _ _ _ _ _ _ ?_
  unfold F7
  refine Ret.use (f19 first count) ?_
  rintro v w1 ⟨b, bu, bd, rfl, hP1, hf1, hb⟩
  have hown : ∀ x, Own b bu bd x → w.heap.size ≤ x := by intro x hx; unfold Own at hx; omega
  simp only [AsTup_tuple, UnC_cons, UnN_nil, AsI_int, AsP_pointer]
  rw [show (some (⟨b, 0, none⟩ : Addr)).isNone = false from rfl, BIf_false]
  refine Ret.use (f13 (hT.fr0 hf1)) ?_
  rintro v w2 ⟨rfl, hf2⟩
  rw [AsB_bool, Bool.not_true, BIf_false]
  refine Ret.use (f12 b) ?_
  rintro v w3 ⟨rfl, hS3, hf3, hs3⟩
  simp only [AsTup_tuple, UnC_cons, UnN_nil, AsI_int, AsP_pointer]
  refine Ret.use (f14 _) ?_
  rintro v w4 ⟨rfl, hw⟩
  obtain rfl := hw.symm
  rw [AsI_int]
  refine BIf_ne (fun h => absurd rfl h) (fun _ => ?_)
  show BIf false _ _
  rw [BIf_false]
  obtain ⟨s, hse⟩ : ∃ s, w2.heap.size = s := ⟨_, rfl⟩
  rw [hse] at hS3 ⊢
  have hP2 := hP1.fr0 hf2
  have plt := hP2.lt
  have z1 := hf1.size
  have z2 := hf2.size
  have one0 : One w w3 b bu bd s none 0 [] (newPool (first % 10000).toNat (1 + count % 200).toNat) := by
    refine ⟨hP2.fr0 hf3, hS3, fun q h => by simp at h, ?_, ?_, (hf1.trans hf2).trans hf3, hT⟩
    · rintro x (rfl | ⟨a, h, _⟩)
      · intro hx; have := plt x hx; omega
      · cases h
    · rintro x (hx | rfl | ⟨a, h, _⟩)
      · exact hown x hx
      · omega
      · cases h
  refine Loop.by (fun s' w' => ∃ (i : Nat) (g : Option Addr) (cc : Nat) (l : List Qr) (p : Pool), s' = [.int .i64 (i : Int)] ∧ i ≤ n ∧ One w w' b bu bd s g cc l p)
    (fun s _ => match s with | [.int _ k] => n - k.toNat | _ => 0)
    ⟨0, none, 0, [], _, rfl, by omega, one0⟩ ?_
  clear one0 hS3 hP2 hP1 plt hf3 hf2 hf1 hs3 z1 z2 hse hown hb
  rintro _ w3 ⟨i, g, cc, l, p, rfl, hi, hO⟩
  simp only [UnC_cons, UnN_nil, AsI_int]
  have hn := hs.lt
  refine BIf_cases (fun hlt => ?_) (fun hge => ?_)
  · have hil : i < l0.length := by rw [hs.len]; omega
    obtain ⟨o, ho⟩ : ∃ o, l0[i]? = some o := ⟨_, List.getElem?_eq_getElem hil⟩
    have hok := hs.ok o (List.mem_of_getElem? ho)
    refine Join.at (fun s' w' => s' = [] ∧ ∃ (g : Option Addr) (cc : Nat) (l : List Qr) (p : Pool), One w w' b bu bd s g cc l p) ?_ ?_
    rotate_left
    · rintro _ w4 ⟨rfl, g', cc', l', p', hO4⟩
      rw [UnN_nil, w64 (n := (i : Int) + 1) (by omega) (by omega)]
      refine ⟨⟨i + 1, g', cc', l', p', rfl, by omega, hO4⟩, ?_⟩
      show n - ((i : Int) + 1).toNat < n - (i : Int).toNat
      omega
    refine (hs.fr0 hO.fr).field ho 0 (by decide) rfl ?_
    refine BIf_eq (fun h6 => ?_) (fun h6 => ?_)
    · refine Ret.use (f30 hO.pool hO.tz' hO.z hO.A hO.hA (hO.sab s (.inl rfl)) fun y hy => hO.sab y (.inr hy)) ?_
      rintro v w4 ⟨r, e, p', l', g', c', rfl, hst, hP, hS, hf, hon⟩
      simp only [AsTup_tuple, UnC_cons, UnN_nil, AsI_int]
      have hlt' := hO.lt
      have hsz := hO.fr.size
      refine ⟨by trivial, g', c', l', p', hP, hS, (hst.held hO.hA).1, ?_, ?_, Fr.news hO.fr hf ?_, hT⟩
      · rintro y (rfl | hy)
        · exact hO.sab y (.inl rfl)
        · rcases hon y hy with h1 | h1
          · exact hO.sab y (.inr h1)
          · intro h2; have := hlt' y (.inl h2); omega
      · rintro y (hy | rfl | hy)
        · exact hO.lo y (.inl hy)
        · exact hO.lo y (.inr (.inl rfl))
        · rcases hon y hy with h1 | h1
          · exact hO.lo y (.inr (.inr h1))
          · omega
      · rintro y (hy | hy | hy)
        · exact hO.lo y (.inl hy)
        · exact hO.lo y (.inr (.inl hy))
        · exact hO.lo y (.inr (.inr hy))
    · refine (hs.fr0 hO.fr).field ho 0 (by decide) rfl ?_
      refine BIf_ne (fun h3 => ?_) (fun h3 => ?_)
      · refine (hs.fr0 hO.fr).use ho ?_
        refine Ret.use (f20 hO.pool hO.tz' hO.z o.k o.f o.n o.al o.y hok.f hok.n) ?_
        rintro v w4 ⟨r, e, p', rfl, hst, hP, hf⟩
        simp only [AsTup_tuple, UnC_cons, UnN_nil, AsI_int]
        exact ⟨by trivial, g, cc, l, p', hP, hO.A.fr hf (hO.sab s (.inl rfl)) fun y hy => hO.sab y (.inr hy), hst.held h3 hO.hA, hO.sab, hO.lo, Fr.news hO.fr hf fun y hy => hO.lo y (.inl hy), hT⟩
      · exact ⟨rfl, g, cc, l, p, hO⟩
  have hN := hO.pool.ok.n
  have hNl := hO.A.ok.len
  have hTl := tabs_len l
  have hlt3 := hO.lt
  have hRl : p.runs.length ≤ p.u.length := Nat.le_trans (runs_len _ _) (by omega)
  have hw3 := hO.fr.size
  obtain ⟨R, hR⟩ : ∃ R, p.runs = R := ⟨_, rfl⟩
  obtain ⟨L, hL⟩ : ∃ L, tabs l = L := ⟨_, rfl⟩
  rw [hR] at hRl; rw [hL] at hTl
  refine Ret.use (f28 hO.pool hO.tz') ?_
  rw [hR]
  rintro v wA ⟨pa, ca, rfl, slA, hfA⟩
  rw [AsSl_slice]
  have hOA := hO.fr0 hfA
  refine Ret.use (f28 hOA.pool hOA.tz') ?_
  rw [hR]
  rintro v wB ⟨pb, cb, rfl, slB, hfB⟩
  rw [AsSl_slice]
  refine RunV.build0 E55 wB.heap.size (Nat.le_refl _) fun p0 wC sl0 hfC on0 => ?_
  rw [AsSl_slice]
  have hlenR := runCells_len' p.first R
  refine append_src E55 sl0 hfC.size ((slA.fr0 hfB).fr0 hfC).src runs_one (by simp only [maxLen]; omega) (by omega) fun pw cw wD slW hfD onD => ?_
  rw [AsSl_slice]
  have hfBD : Fr0 wB wD := hfC.own hfD fun y hy h => by have := on0 y hy; omega
  have hOD := (hOA.fr0 hfB).fr0 hfBD
  refine Ret.use (f17 hOD.A) ?_
  rw [hL]
  rintro v wX ⟨px, cx, rfl, slX, hfX⟩
  rw [AsSl_slice]
  have hOX := hOD.fr0 hfX
  refine Ret.use (f17 hOX.A) ?_
  rw [hL]
  rintro v wY ⟨py, cy, rfl, slY, hfY⟩
  rw [AsSl_slice]
  have hOY := hOX.fr0 hfY
  refine Ret.use (f18 hOY.A) ?_
  rintro v wZ ⟨pz, cz, rfl, slZ, hfZ⟩
  rw [AsSl_slice]
  refine RunV.build0 E38 wZ.heap.size (Nat.le_refl _) fun p1 wG sl1 hfG on1 => ?_
  rw [AsSl_slice]
  refine append_src E38 sl1 hfG.size (((slX.fr0 hfY).fr0 hfZ).fr0 hfG).src i64n_one (by simp only [maxLen]; omega) (by omega) fun pt ct wT slT hfT onT => ?_
  rw [AsSl_slice]
  have hfZT : Fr0 wZ wT := hfG.own hfT fun y hy h => by have := on1 y hy; omega
  rw [Nat.zero_add, List.nil_append] at slW slT
  -- where each list lies
  have sA := hfA.size
  have sB := hfB.size
  have sD := hfBD.size
  have sX := hfX.size
  have sY := hfY.size
  have sZ := hfZ.size
  have sT := hfZT.size
  have iA := slA.lt
  have iB := slB.lt
  have iW := slW.lt
  have iX := slX.lt
  have iY := slY.lt
  have iZ := slZ.lt
  have iT := slT.lt
  have hfYT := hfZ.trans hfZT
  have hfXT := hfY.trans hfYT
  have hfDT := hfX.trans hfXT
  have hfBT := hfBD.trans hfDT
  have hfAT := hfB.trans hfBT
  have hOT := hO.fr0 (hfA.trans hfAT)
  replace slA := slA.fr0 hfAT
  replace slB := slB.fr0 hfBT
  replace slW := slW.fr0 hfDT
  replace slX := slX.fr0 hfXT
  replace slY := slY.fr0 hfYT
  replace slZ := slZ.fr0 hfZT
  clear hOA hOD hOX hOY hO hfA hfB hfC hfD hfBD hfX hfY hfZ hfG hfT hfZT hfYT hfXT hfDT hfBT hfAT sl0 sl1 on0 on1 onD onT
  -- the four growths
  refine push_keep E55 (by decide) slA (by omega) rfl (by intro u hu; simp [Value.cells] at hu; rcases hu with rfl | rfl <;> rfl) (by simp only [maxLen]; omega) (by omega) fun pm cm wM slM slA1 fM onM => ?_
  rw [AsSl_slice]
  have sM := fM.size
  have lM : Last wM pm (R.length * 2) (.int .i64 (-1)) := Sl.last (vs := [.int .i64 0]) slM hlenR
  have iM := slM.lt
  replace slB := slB.fr fM fun y hy h => by have := iB y hy; have := iA y h; omega
  refine push_keep E55 (by decide) slB (by omega) rfl (by intro u hu; simp [Value.cells] at hu; rcases hu with rfl | rfl <;> rfl) (by simp only [maxLen]; omega) (by omega) fun pl cl wL slL slB1 fL onL => ?_
  rw [AsSl_slice]
  have sL := fL.size
  have lL : Last wL pl (R.length * 2) (.int .i64 (-2)) := Sl.last (vs := [.int .i64 0]) slL hlenR
  have iL := slL.lt
  replace lM := lM.fr fL fun y hy h => by
    have := iB y h
    rcases onM y hy with h1 | h1
    · have := iA y h1; omega
    · omega
  replace slX := (slX.fr fM fun y hy h => by have := iX y hy; have := iA y h; omega).fr fL fun y hy h => by have := iX y hy; have := iB y h; omega
  refine push_keep E38 (by decide) slX (by omega) rfl (by intro u hu; simp [Value.cells] at hu; subst hu; rfl) (by simp only [maxLen]; omega) (by omega) fun pu cu wU slU slX1 fU onU => ?_
  rw [AsSl_slice]
  have sU := fU.size
  have lU : Last wU pu (L.length * 1) (.int .i64 (-3)) := Sl.last (vs := []) slU (by rw [i64n_len, Nat.mul_one])
  have iU := slU.lt
  replace lM := lM.fr fU fun y hy h => by
    have := iX y h
    rcases onM y hy with h1 | h1
    · have := iA y h1; omega
    · omega
  replace lL := lL.fr fU fun y hy h => by
    have := iX y h
    rcases onL y hy with h1 | h1
    · have := iB y h1; omega
    · omega
  replace slY := ((slY.fr fM fun y hy h => by have := iY y hy; have := iA y h; omega).fr fL fun y hy h => by have := iY y hy; have := iB y h; omega).fr fU fun y hy h => by have := iY y hy; have := iX y h; omega
  refine push_keep E38 (by decide) slY (by omega) rfl (by intro u hu; simp [Value.cells] at hu; subst hu; rfl) (by simp only [maxLen]; omega) (by omega) fun pv cv wV slV slY1 fV onV => ?_
  rw [AsSl_slice]
  have sV := fV.size
  have lV : Last wV pv (L.length * 1) (.int .i64 (-4)) := Sl.last (vs := []) slV (by rw [i64n_len, Nat.mul_one])
  have iV := slV.lt
  replace lM := lM.fr fV fun y hy h => by
    have := iY y h
    rcases onM y hy with h1 | h1
    · have := iA y h1; omega
    · omega
  replace lL := lL.fr fV fun y hy h => by
    have := iY y h
    rcases onL y hy with h1 | h1
    · have := iB y h1; omega
    · omega
  replace lU := lU.fr fV fun y hy h => by
    have := iY y h
    rcases onU y hy with h1 | h1
    · have := iX y h1; omega
    · omega
  replace slA1 := ((slA1.fr fL fun y hy h => by have := iA y hy; have := iB y h; omega).fr fU fun y hy h => by have := iA y hy; have := iX y h; omega).fr fV fun y hy h => by have := iA y hy; have := iY y h; omega
  replace slB1 := (slB1.fr fU fun y hy h => by have := iB y hy; have := iX y h; omega).fr fV fun y hy h => by have := iB y hy; have := iY y h; omega
  replace slX1 := slX1.fr fV fun y hy h => by have := iX y hy; have := iY y h; omega
  have fTV : Fr (fun y => On pa y ∨ On pb y ∨ On px y ∨ On py y) wT wV := (((fM.mono fun y _ h => .inl h).trans (fL.mono fun y _ h => .inr (.inl h))).trans (fU.mono fun y _ h => .inr (.inr (.inl h)))).trans (fV.mono fun y _ h => .inr (.inr (.inr h)))
  -- the first loop
  refine Loop.by (fun s' w' => ∃ (i : Nat) (xa xb : List Value), s' = [.int .i64 (i : Int)] ∧ i ≤ R.length ∧ Sl w' w3.heap.size 58 2 pa R.length ca xa ∧ Sl w' wA.heap.size 58 2 pb R.length cb xb ∧ Holds w' pa i 2 (.int .i64 (-5)) ∧ Holds w' pb i 2 (.int .i64 (-6)) ∧
      Fr (fun y => On pa y ∨ On pb y) wV w' ∧ ∀ g o, R.length * 2 ≤ o → w'.cell? ⟨g, o, none⟩ = wV.cell? ⟨g, o, none⟩)
    (fun s _ => match s with | [.int _ k] => R.length - k.toNat | _ => 0)
    ⟨0, _, _, rfl, by omega, slA1, slB1, fun j h => by omega, fun j h => by omega, Fr.refl _ _, fun g o _ => rfl⟩ ?_
  rintro _ w5 ⟨i5, xa, xb, rfl, hi5, ska, skb, hHa, hHb, fA, farA⟩
  simp only [UnC_cons, UnN_nil, AsI_int]
  refine BIf_cases (fun hlt => ?_) (fun hge => ?_)
  · have hil : i5 < R.length := by omega
    obtain ⟨ga, spa, rfl, _, hha⟩ := ska.some_ (by omega)
    obtain ⟨gb, spb, rfl, _, hhb⟩ := skb.some_ (by omega)
    have ya := iA ga ⟨_, rfl, rfl⟩
    have yb := iB gb ⟨_, rfl, rfl⟩
    have la := ska.len
    have lb := skb.len
    simp only [NilP_some, at0_mk, Nat.zero_add, Int.toNat_natCast]
    refine ⟨by omega, by omega, ?_⟩
    refine ska.st2 rfl (by omega) rfl fun w6 sk6 f6 far6 => ?_
    refine sk6.st2 rfl (by simp; omega) rfl fun w7 sk7 f7 far7 => ?_
    refine ⟨by omega, by omega, ?_⟩
    have skb7 := (skb.fr f6 fun y hy h => by have := iB y hy; have := iA y h; omega).fr f7 fun y hy h => by have := iB y hy; have := iA y h; omega
    refine skb7.st2 rfl (by omega) rfl fun w8 sk8 f8 far8 => ?_
    refine sk8.st2 rfl (by simp; omega) rfl fun w9 sk9 f9 far9 => ?_
    rw [w64 (n := (i5 : Int) + 1) (by omega) (by omega)]
    have ska9 := (sk7.fr f8 fun y hy h => by have := iA y hy; have := iB y h; omega).fr f9 fun y hy h => by have := iA y hy; have := iB y h; omega
    refine ⟨⟨i5 + 1, _, _, rfl, by omega, ska9, sk9, ?_, ?_, ?_, ?_⟩, ?_⟩
    · intro j hj
      refine ⟨ga, rfl, ?_⟩
      by_cases e : j = i5
      · subst e
        rw [far9 ga _ (.inl (by omega)), far8 ga _ (.inl (by omega)), far7 ga _ (.inr (by omega))]
        have := Rd.at_ sk6.rd (i := j * 2) (v := .int .i64 (-5)) (by rw [List.getElem?_set]; simp; omega)
        exact this
      · obtain ⟨g', hg', hc⟩ := hHa j (by omega)
        injection hg' with hg'; injection hg' with hg'; subst hg'
        rw [far9 ga _ (.inl (by omega)), far8 ga _ (.inl (by omega)), far7 ga _ (.inr (by omega)), far6 ga _ (.inr (by omega))]; exact hc
    · intro j hj
      refine ⟨gb, rfl, ?_⟩
      by_cases e : j = i5
      · subst e
        rw [far9 gb _ (.inr (by omega))]
        have := Rd.at_ sk8.rd (i := j * 2) (v := .int .i64 (-6)) (by rw [List.getElem?_set]; simp; omega)
        exact this
      · obtain ⟨g', hg', hc⟩ := hHb j (by omega)
        injection hg' with hg'; injection hg' with hg'; subst hg'
        rw [far9 gb _ (.inr (by omega)), far8 gb _ (.inr (by omega)), far7 gb _ (.inl (by omega)), far6 gb _ (.inl (by omega))]; exact hc
    · exact (((fA.trans (f6.mono fun y _ h => .inl h)).trans (f7.mono fun y _ h => .inl h)).trans (f8.mono fun y _ h => .inr h)).trans (f9.mono fun y _ h => .inr h)
    · intro g o ho
      rw [far9 g o (.inr (by omega)), far8 g o (.inr (by omega)), far7 g o (.inr (by omega)), far6 g o (.inr (by omega)), farA g o ho]
    · show R.length - ((i5 : Int) + 1).toNat < R.length - (i5 : Int).toNat
      omega
  have hi5e : i5 = R.length := by omega
  rw [hi5e] at hHa hHb
  have slX5 := slX1.fr fA fun y hy h => by have := iX y hy; rcases h with h | h; have := iA y h; omega; have := iB y h; omega
  have slY5 := slY1.fr fA fun y hy h => by have := iY y hy; rcases h with h | h; have := iA y h; omega; have := iB y h; omega
  have lM5 := lM.far fun g => farA g _ (Nat.le_refl _)
  have lL5 := lL.far fun g => farA g _ (Nat.le_refl _)
  have lU5 := lU.fr fA fun y hy h => by
    rcases onU y hy with h1 | h1
    · have := iX y h1; rcases h with h | h; have := iA y h; omega; have := iB y h; omega
    · rcases h with h | h; have := iA y h; omega; have := iB y h; omega
  have lV5 := lV.fr fA fun y hy h => by
    rcases onV y hy with h1 | h1
    · have := iY y h1; rcases h with h | h; have := iA y h; omega; have := iB y h; omega
    · rcases h with h | h; have := iA y h; omega; have := iB y h; omega
  -- the second loop
  refine Loop.by (fun s' w' => ∃ (i : Nat) (xa xb : List Value), s' = [.int .i64 (i : Int)] ∧ i ≤ L.length ∧ Sl w' wD.heap.size 3 1 px L.length cx xa ∧ Sl w' wX.heap.size 3 1 py L.length cy xb ∧ Holds w' px i 1 (.int .i64 (-7)) ∧ Holds w' py i 1 (.int .i64 (-8)) ∧
      Fr (fun y => On px y ∨ On py y) w5 w' ∧ ∀ g o, L.length * 1 ≤ o → w'.cell? ⟨g, o, none⟩ = w5.cell? ⟨g, o, none⟩)
    (fun s _ => match s with | [.int _ k] => L.length - k.toNat | _ => 0)
    ⟨0, _, _, rfl, by omega, slX5, slY5, fun j h => by omega, fun j h => by omega, Fr.refl _ _, fun g o _ => rfl⟩ ?_
  rintro _ w6 ⟨i6, xx, xy, rfl, hi6, skx, sky, hHx, hHy, fX, farX⟩
  simp only [UnC_cons, UnN_nil, AsI_int]
  refine BIf_cases (fun hlt => ?_) (fun hge => ?_)
  · have hil : i6 < L.length := by omega
    obtain ⟨ga, spa, rfl, _, hha⟩ := skx.some_ (by omega)
    obtain ⟨gb, spb, rfl, _, hhb⟩ := sky.some_ (by omega)
    have ya := iX ga ⟨_, rfl, rfl⟩
    have yb := iY gb ⟨_, rfl, rfl⟩
    have la := skx.len
    have lb := sky.len
    simp only [NilP_some, at0_mk, Nat.zero_add, Int.toNat_natCast]
    refine ⟨by omega, by omega, ?_⟩
    refine skx.st2 rfl (by omega) rfl fun w7 sk7 f7 far7 => ?_
    refine ⟨by omega, by omega, ?_⟩
    have sky7 := sky.fr f7 fun y hy h => by have := iY y hy; have := iX y h; omega
    refine sky7.st2 rfl (by omega) rfl fun w9 sk9 f9 far9 => ?_
    rw [w64 (n := (i6 : Int) + 1) (by omega) (by omega)]
    have skx9 := sk7.fr f9 fun y hy h => by have := iX y hy; have := iY y h; omega
    refine ⟨⟨i6 + 1, _, _, rfl, by omega, skx9, sk9, ?_, ?_, ?_, ?_⟩, ?_⟩
    · intro j hj
      refine ⟨ga, rfl, ?_⟩
      by_cases e : j = i6
      · subst e
        rw [far9 ga _ (.inl (by omega))]
        have := Rd.at_ sk7.rd (i := j * 1) (v := .int .i64 (-7)) (by rw [List.getElem?_set]; simp; omega)
        exact this
      · obtain ⟨g', hg', hc⟩ := hHx j (by omega)
        injection hg' with hg'; injection hg' with hg'; subst hg'
        rw [far9 ga _ (.inl (by omega)), far7 ga _ (.inr (by omega))]; exact hc
    · intro j hj
      refine ⟨gb, rfl, ?_⟩
      by_cases e : j = i6
      · subst e
        have := Rd.at_ sk9.rd (i := j * 1) (v := .int .i64 (-8)) (by rw [List.getElem?_set]; simp; omega)
        exact this
      · obtain ⟨g', hg', hc⟩ := hHy j (by omega)
        injection hg' with hg'; injection hg' with hg'; subst hg'
        rw [far9 gb _ (.inr (by omega)), far7 gb _ (.inl (by omega))]; exact hc
    · exact (fX.trans (f7.mono fun y _ h => .inl h)).trans (f9.mono fun y _ h => .inr h)
    · intro g o ho
      rw [far9 g o (.inr (by omega)), far7 g o (.inr (by omega)), farX g o ho]
    · show L.length - ((i6 : Int) + 1).toNat < L.length - (i6 : Int).toNat
      omega
  have hi6e : i6 = L.length := by omega
  rw [hi6e] at hHx hHy
  have dX : ∀ y, (On px y ∨ On py y) → wD.heap.size ≤ y ∧ y < wY.heap.size := fun y h => by
    rcases h with h | h
    · have := iX y h; omega
    · have := iY y h; omega
  have hHa6 := hHa.fr fX fun y hy h => by have := iA y hy; have := dX y h; omega
  have hHb6 := hHb.fr fX fun y hy h => by have := iB y hy; have := dX y h; omega
  have lM6 := lM5.fr fX fun y hy h => by
    have := dX y h
    rcases onM y hy with h1 | h1
    · have := iA y h1; omega
    · omega
  have lL6 := lL5.fr fX fun y hy h => by
    have := dX y h
    rcases onL y hy with h1 | h1
    · have := iB y h1; omega
    · omega
  have lU6 := lU5.far fun g => farX g _ (Nat.le_refl _)
  have lV6 := lV5.far fun g => farX g _ (Nat.le_refl _)
  have slZ6 : Sl w6 wY.heap.size 3 1 pz l.length cz (i64n (l.map Qr.f)) := ((slZ.fr fTV fun y hy h => by
    have := iZ y hy
    rcases h with h | h | h | h
    · have := iA y h; omega
    · have := iB y h; omega
    · have := iX y h; omega
    · have := iY y h; omega).fr fA fun y hy h => by have := iZ y hy; rcases h with h | h; have := iA y h; omega; have := iB y h; omega).fr fX fun y hy h => by have := iZ y hy; have := dX y h; omega
  -- the third loop
  refine Loop.by (fun s' w' => ∃ (i : Nat) (xa : List Value), s' = [.int .i64 (i : Int)] ∧ i ≤ l.length ∧ Sl w' wY.heap.size 3 1 pz l.length cz xa ∧ Fr (On pz) w6 w')
    (fun s _ => match s with | [.int _ k] => l.length - k.toNat | _ => 0)
    ⟨0, _, rfl, by omega, slZ6, Fr.refl _ _⟩ ?_
  rintro _ w7 ⟨i7, xz, rfl, hi7, skz, fZ⟩
  simp only [UnC_cons, UnN_nil, AsI_int]
  refine BIf_cases (fun hlt => ?_) (fun hge => ?_)
  · have hil : i7 < l.length := by omega
    obtain ⟨ga, spa, rfl, _, hha⟩ := skz.some_ (by omega)
    have la := skz.len
    simp only [NilP_some, at0_mk, Nat.zero_add, Int.toNat_natCast]
    refine ⟨by omega, by omega, ?_⟩
    refine skz.st rfl (by omega) rfl fun w8 sk8 f8 _ => ?_
    rw [w64 (n := (i7 : Int) + 1) (by omega) (by omega)]
    refine ⟨⟨i7 + 1, _, rfl, by omega, sk8, fZ.trans f8⟩, ?_⟩
    show l.length - ((i7 : Int) + 1).toNat < l.length - (i7 : Int).toNat
    omega
  have hHa7 := hHa6.fr fZ fun y hy h => by have := iA y hy; have := iZ y h; omega
  have hHb7 := hHb6.fr fZ fun y hy h => by have := iB y hy; have := iZ y h; omega
  have hHx7 := hHx.fr fZ fun y hy h => by have := iX y hy; have := iZ y h; omega
  have hHy7 := hHy.fr fZ fun y hy h => by have := iY y hy; have := iZ y h; omega
  have lM7 := lM6.fr fZ fun y hy h => by
    have := iZ y h
    rcases onM y hy with h1 | h1
    · have := iA y h1; omega
    · omega
  have lL7 := lL6.fr fZ fun y hy h => by
    have := iZ y h
    rcases onL y hy with h1 | h1
    · have := iB y h1; omega
    · omega
  have lU7 := lU6.fr fZ fun y hy h => by
    have := iZ y h
    rcases onU y hy with h1 | h1
    · have := iX y h1; omega
    · omega
  have lV7 := lV6.fr fZ fun y hy h => by
    have := iZ y h
    rcases onV y hy with h1 | h1
    · have := iY y h1; omega
    · omega
  have fAll : Fr (fun y => On pa y ∨ On pb y ∨ On px y ∨ On py y ∨ On pz y) wT w7 := (((fTV.mono fun y _ h => by rcases h with h | h | h | h <;> simp [h]).trans (fA.mono fun y _ h => by rcases h with h | h <;> simp [h])).trans (fX.mono fun y _ h => by rcases h with h | h <;> simp [h])).trans (fZ.mono fun y _ h => by simp [h])
  have dAll : ∀ y, (On pa y ∨ On pb y ∨ On px y ∨ On py y ∨ On pz y) → w3.heap.size ≤ y ∧ y < wZ.heap.size ∧ ¬ On pw y ∧ ¬ On pt y := by
    intro y h
    refine ⟨?_, ?_, fun h2 => ?_, fun h2 => ?_⟩
    · rcases h with h | h | h | h | h
      · have := iA y h; omega
      · have := iB y h; omega
      · have := iX y h; omega
      · have := iY y h; omega
      · have := iZ y h; omega
    · rcases h with h | h | h | h | h
      · have := iA y h; omega
      · have := iB y h; omega
      · have := iX y h; omega
      · have := iY y h; omega
      · have := iZ y h; omega
    · have := iW y h2
      rcases h with h | h | h | h | h
      · have := iA y h; omega
      · have := iB y h; omega
      · have := iX y h; omega
      · have := iY y h; omega
      · have := iZ y h; omega
    · have := iT y h2
      rcases h with h | h | h | h | h
      · have := iA y h; omega
      · have := iB y h; omega
      · have := iX y h; omega
      · have := iY y h; omega
      · have := iZ y h; omega
  have hO7 := hOT.frT fAll (fun y hy => ⟨fun h => by have := dAll y hy; have := hlt3 y (.inl h); omega, fun h => by have := dAll y hy; have := hlt3 y (.inr h); omega⟩) fun y hy => by have := dAll y hy; omega
  have slW7 := slW.fr fAll fun y hy h => (dAll y h).2.2.1 hy
  have slT7 := slT.fr fAll fun y hy h => (dAll y h).2.2.2 hy
  -- the lists hold what was written
  refine Loop.by (fun s' w' => ∃ (i : Nat) (bb : Bool), s' = [.int .i64 (i : Int), .bool bb] ∧ i ≤ R.length ∧ w' = w7)
    (fun s _ => match s with | [.int _ k, _] => R.length - k.toNat | _ => 0)
    ⟨0, false, rfl, by omega, rfl⟩ ?_
  rintro _ w8 ⟨i8, b8, rfl, hi8, hw8⟩
  obtain rfl := hw8.symm
  simp only [UnC_cons, UnN_nil, AsI_int, AsB_bool]
  refine BIf_cases (fun hlt => ?_) (fun hge => ?_)
  · obtain ⟨ga, rfl, hca⟩ := hHa7 i8 (by omega)
    obtain ⟨gb, rfl, hcb⟩ := hHb7 i8 (by omega)
    simp only [NilP_some, at0_mk, Nat.zero_add, Nat.add_zero, Int.toNat_natCast]
    refine ⟨by omega, by omega, ?_⟩
    refine Ld.of hca ?_
    rw [AsI_int]
    refine BIf_ne (fun h => absurd rfl h) (fun _ => ?_)
    refine ⟨by omega, by omega, ?_⟩
    refine Ld.of hcb ?_
    rw [AsI_int]
    refine BIf_ne (fun h => absurd rfl h) (fun _ => ?_)
    rw [w64 (n := (i8 : Int) + 1) (by omega) (by omega)]
    refine ⟨⟨i8 + 1, b8, rfl, by omega, by trivial⟩, ?_⟩
    show R.length - ((i8 : Int) + 1).toNat < R.length - (i8 : Int).toNat
    omega
  refine Loop.by (fun s' w' => ∃ (i : Nat) (bb : Bool), s' = [.int .i64 (i : Int), .bool bb] ∧ i ≤ L.length ∧ w' = w7)
    (fun s _ => match s with | [.int _ k, _] => L.length - k.toNat | _ => 0)
    ⟨0, b8, rfl, by omega, rfl⟩ ?_
  rintro _ w9 ⟨i9, b9, rfl, hi9, hw9⟩
  obtain rfl := hw9.symm
  simp only [UnC_cons, UnN_nil, AsI_int, AsB_bool]
  refine BIf_cases (fun hlt => ?_) (fun hge => ?_)
  · obtain ⟨ga, rfl, hca⟩ := hHx7 i9 (by omega)
    obtain ⟨gb, rfl, hcb⟩ := hHy7 i9 (by omega)
    simp only [NilP_some, at0_mk, Nat.zero_add, Nat.add_zero, Int.toNat_natCast]
    refine ⟨by omega, by omega, ?_⟩
    refine Ld.of hca ?_
    rw [AsI_int]
    refine BIf_ne (fun h => absurd rfl h) (fun _ => ?_)
    refine ⟨by omega, by omega, ?_⟩
    refine Ld.of hcb ?_
    rw [AsI_int]
    refine BIf_ne (fun h => absurd rfl h) (fun _ => ?_)
    rw [w64 (n := (i9 : Int) + 1) (by omega) (by omega)]
    refine ⟨⟨i9 + 1, b9, rfl, by omega, by trivial⟩, ?_⟩
    show L.length - ((i9 : Int) + 1).toNat < L.length - (i9 : Int).toNat
    omega
  obtain ⟨gm, rfl, hcm⟩ := lM7
  obtain ⟨gl, rfl, hcl⟩ := lL7
  obtain ⟨gu, rfl, hcu⟩ := lU7
  obtain ⟨gv, rfl, hcv⟩ := lV7
  simp only [NilP_some, at0_mk, Nat.zero_add, Nat.add_zero, Int.toNat_natCast]
  refine ⟨by omega, by omega, ?_⟩
  refine Ld.of hcm ?_
  rw [AsI_int]
  refine BIf_ne (fun h => absurd rfl h) (fun _ => ?_)
  refine ⟨by omega, by omega, ?_⟩
  refine Ld.of hcl ?_
  rw [AsI_int]
  refine BIf_ne (fun h => absurd rfl h) (fun _ => ?_)
  refine ⟨by omega, by omega, ?_⟩
  refine Ld.of hcu ?_
  rw [AsI_int]
  refine BIf_ne (fun h => absurd rfl h) (fun _ => ?_)
  refine ⟨by omega, by omega, ?_⟩
  refine Ld.of hcv ?_
  rw [AsI_int]
  refine BIf_ne (fun h => absurd rfl h) (fun _ => ?_)
  refine Ret.use (f28 hO7.pool hO7.tz') ?_
  rw [hR]
  rintro v w10 ⟨q10, c10, rfl, sl10, hf10⟩
  rw [AsSl_slice]
  refine Ret.use (f27 (ac := c10) (bc := cw) (first := p.first) (R1 := R) (R2 := R) ⟨sl10.rd, rfl⟩ ⟨slW7.rd.fr0 hf10, by omega⟩ (by omega)) ?_
  rintro v w11 ⟨rfl, hq11⟩
  rw [AsB_bool, decide_eq_true rfl, BIf_true]
  have hO11 := (hO7.fr0 hf10).fr0 hq11.fr
  refine Ret.use (f17 hO11.A) ?_
  rw [hL]
  rintro v w12 ⟨q12, c12, rfl, sl12, hf12⟩
  rw [AsSl_slice]
  have rT12 := ((slT7.rd.fr0 hf10).qt hq11).fr0 hf12
  have hr := f24n (ac := c12) (bc := ct) sl12.rd rT12 (by omega) (by omega)
  simp only [Nat.zero_add] at hr ⊢
  refine Ret.use hr ?_
  rintro v w13 ⟨rfl, hq13⟩
  rw [AsB_bool, decide_true, BIf_true]
  have hO13 := (hO11.fr0 hf12).fr0 hq13.fr
  refine Ret.use (f18 hO13.A) ?_
  rintro v w14 ⟨q14, c14, rfl, sl14, hf14⟩
  rw [AsSl_slice]
  have rT14 := (rT12.qt hq13).fr0 hf14
  have hf31 := f31 (fc := c14) (tc := ct) hO13.A.ok sl14.rd (by rw [hL]; exact rT14)
  rw [hL] at hf31
  refine Ret.use hf31 ?_
  rintro v w15 ⟨rfl, hq15⟩
  rw [AsB_bool]
  exact ⟨by trivial, (hO13.fr.trans hf14).trans hq15.fr⟩
end Go.Proofs.YthpodlcbikialaaDoor
