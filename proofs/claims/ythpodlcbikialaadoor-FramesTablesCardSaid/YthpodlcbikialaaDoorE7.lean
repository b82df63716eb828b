import Derived.Test.YthpodlcbikialaaDoorE6
set_option linter.unusedVariables false
set_option linter.unusedSimpArgs false
namespace Go.Proofs.YthpodlcbikialaaDoor
open Go Go.Sh Go.Fr

theorem ScrAt.field {w : World} {q : Option Addr} {n : Nat} {l : List Op5} (h : ScrAt w q n l) {i : Nat} {o : Op5} (ho : l[i]? = some o) (j : Nat) (hj : j < 5) {x : Int} (hx : o.cells[j]? = some (.int .i64 x)) {K : Int → Prop} (k : K x) :
    NilP q fun a => (0 : Int) ≤ (i : Int) ∧ (i : Int) < (n : Int) ∧ Ld w (at0 (at0 a ((i : Int).toNat * 5)) j) fun v => AsI .i64 v K := by
  have hil := (List.getElem?_eq_some_iff.1 ho).1
  have hn := h.len
  refine h.get ho fun sb so hq hc => ?_
  refine ⟨by omega, by omega, ?_⟩
  rw [at0_mk, at0_mk, Int.toNat_natCast, Nat.add_assoc]
  exact Ld.of (hc j _ hj hx) (AsI_int.2 k)
/-- a pointer out of the two -/
theorem Has.ptr {w : World} {bs : Nat} {cells : List Value} (h : Has w bs cells) {n : Nat} (hn : cells.length = n) {k : Nat} {a : Option Addr} (hk : cells[k]? = some (.pointer a)) {K : Option Addr → Prop} (hK : K a) :
    NilP (some ⟨bs, 0, none⟩) fun a => (0 : Int) ≤ (k : Int) ∧ (k : Int) < (n : Int) ∧ Ld w (at0 a ((k : Int).toNat * 1)) fun v => AsP v K := by
  have := (List.getElem?_eq_some_iff.1 hk).1
  refine ⟨by omega, by omega, ?_⟩
  rw [at0_mk, Int.toNat_natCast, Nat.mul_one, Nat.zero_add]
  exact h.ld hk (AsP_pointer.2 hK)
theorem f8 {w : World} (hT : Tz w) (first count : Int) {q : Option Addr} {n c : Nat} {l : List Op5} (hs : ScrAt w q n l) (hi1 : I64 first) (hi2 : I64 count) :
    Ret prog 8 #[.int .i64 first, .int .i64 count, .slice q n c] w fun v w' => v = .bool true ∧ Fr0 w w' := by
  have h0 := hT.size
  refine F8_of _ _ _ _ _ _ _ ?_
  unfold F8
  refine Ret.use (f19 first count) ?_
  rintro v w1 ⟨b, bu, bd, rfl, hP1, hf1, hb⟩
  have hown : ∀ x, Own b bu bd x → w.heap.size ≤ x := by intro x hx; unfold Own at hx; omega
  simp only [AsTup_tuple, UnC_cons, UnN_nil, AsI_int, AsP_pointer]
  rw [show (some (⟨b, 0, none⟩ : Addr)).isNone = false from rfl, BIf_false]
  refine Ret.use (f13 (hT.fr0 hf1)) ?_
  rintro v w2 ⟨rfl, hf2⟩
  rw [AsB_bool, Bool.not_true, BIf_false]
  have g1 : 0 ≤ first % 10000 ∧ first % 10000 < 10000 := by omega
  have g2 : 1 ≤ 1 + count % 200 ∧ 1 + count % 200 ≤ 200 := by omega
  obtain ⟨lo, hlo⟩ : ∃ lo : Nat, first % 10000 = lo := ⟨(first % 10000).toNat, by omega⟩
  obtain ⟨m, hm⟩ : ∃ m : Nat, 1 + count % 200 = m := ⟨(1 + count % 200).toNat, by omega⟩
  rw [hlo, hm] at hP1 ⊢
  rw [hlo] at g1; rw [hm] at g2
  simp only [Int.toNat_natCast] at hP1
  refine Ret.use (f12 b) ?_
  rintro v w3 ⟨rfl, hS3, hf3, hs3⟩
  simp only [AsTup_tuple, UnC_cons, UnN_nil, AsI_int, AsP_pointer]
  refine Ret.use (f12 b) ?_
  rintro v w4 ⟨rfl, hS4, hf4, hs4⟩
  simp only [AsTup_tuple, UnC_cons, UnN_nil, AsI_int, AsP_pointer]
  refine Ret.use (f14 _) ?_
  rintro v w5 ⟨rfl, hw⟩
  obtain rfl := hw.symm
  rw [AsI_int]
  refine BIf_ne (fun h => absurd rfl h) (fun _ => ?_)
  refine Ret.use (f14 _) ?_
  rintro v w5 ⟨rfl, hw⟩
  obtain rfl := hw.symm
  rw [AsI_int]
  refine BIf_ne (fun h => absurd rfl h) (fun _ => ?_)
  show BIf false _ _
  rw [BIf_false]
  show BIf false _ _
  rw [BIf_false]
  obtain ⟨sa, hsa⟩ : ∃ sa, w2.heap.size = sa := ⟨_, rfl⟩
  obtain ⟨sb, hsb⟩ : ∃ sb, w3.heap.size = sb := ⟨_, rfl⟩
  rw [hsa] at hS3 ⊢
  rw [hsb] at hS4 ⊢
  refine RunV.buildN E33 [.pointer (some ⟨sa, 0, none⟩), .pointer (some ⟨sb, 0, none⟩)] _ rfl 2 rfl (by decide) (by decide) (by intro v hv; simp at hv; rcases hv with rfl | rfl <;> rfl) fun w5 hB5 hf5 hs5 => ?_
  rw [AsSl_slice]
  obtain ⟨bs, hbs⟩ : ∃ bs, w4.heap.size = bs := ⟨_, rfl⟩
  rw [hbs] at hB5 ⊢
  replace hB5 : Has w5 bs [.pointer (some ⟨sa, 0, none⟩), .pointer (some ⟨sb, 0, none⟩)] := hB5
  have lt1 := (hP1.fr0 hf2).lt
  have z1 := hf1.size
  have z2 := hf2.size
  have hfw2 := hf1.trans hf2
  have z02 := hfw2.size
  have hlt2 : ∀ x, Own b bu bd x → x < sa := fun x hx => by have := lt1 x hx; omega
  have hon : ∀ x, ¬ On (none : Option Addr) x := fun x ⟨a, h, _⟩ => by cases h
  have two5 : Two w w5 b bu bd sa sb none none 0 0 [] [] (newPool lo m) := by
    refine ⟨((hP1.fr0 hf2).fr0 hf3 |>.fr0 hf4).fr0 hf5, (hS3.fr0 hf4).fr0 hf5, hS4.fr0 hf5, fun q h => by simp at h, fun q h => by simp at h, fun q h => by simp at h, ?_, ?_, ?_, ((hfw2.trans hf3).trans hf4).trans hf5, hT⟩
    · rintro x (rfl | hx)
      · refine ⟨fun h => by have := hlt2 _ h; omega, ?_⟩
        rintro (h | h)
        · omega
        · exact hon _ h
      · exact absurd hx (hon x)
    · rintro x (rfl | hx)
      · intro h; have := hlt2 _ h; omega
      · exact absurd hx (hon x)
    · rintro x (h | (h | h) | (h | h))
      · exact hown x h
      · omega
      · exact absurd h (hon x)
      · omega
      · exact absurd h (hon x)
  have tbl5 : TblS w w5 b bu bd sa sb lo m bs none none 0 0 [] [] (newPool lo m) := by
    refine ⟨⟨two5, rfl, by simp [newPool], fun q h => by simp at h, fun q h => by simp at h, by simp [newPool_free]⟩, by omega, ⟨fun h => by have := hlt2 _ h; omega, ?_, ?_⟩, hB5.lt⟩
    · rintro (h | h)
      · omega
      · exact hon _ h
    · rintro (h | h)
      · omega
      · exact hon _ h
  clear two5 hS3 hS4 hP1
  refine Loop.by (fun s w' => ∃ (i : Nat) (bb : Bool) (ga gb : Option Addr) (ca cb : Nat) (la lb : List Qr) (p : Pool), s = [.int .i64 (i : Int), .bool bb] ∧ i ≤ n ∧ TblS w w' b bu bd sa sb lo m bs ga gb ca cb la lb p ∧ Has w' bs [.pointer (some ⟨sa, 0, none⟩), .pointer (some ⟨sb, 0, none⟩)])
    (fun s _ => match s with | [.int _ k, _] => n - k.toNat | _ => 0)
    ⟨0, false, none, none, 0, 0, [], [], newPool lo m, rfl, by omega, tbl5, hB5⟩ ?_
  rintro _ w6 ⟨i, bb, ga, gb, ca, cb, la, lb, p, rfl, hi, hX0, hB6⟩
  simp only [UnC_cons, UnN_nil, AsI_int, AsB_bool, Ld_drew]
  have hn := hs.lt
  refine BIf_cases (fun hlt => ?_) (fun hge => ?_)
  · have hil : i < l.length := by rw [hs.len]; omega
    obtain ⟨o, ho⟩ : ∃ o, l[i]? = some o := ⟨_, List.getElem?_eq_getElem hil⟩
    have hok := hs.ok o (List.mem_of_getElem? ho)
    refine (hs.fr0 hX0.t.two.fr).field ho 4 (by decide) rfl ?_
    rw [andI_one hok.y]
    obtain ⟨k, sx, sy, gx, gy, cx, cy, lx, ly, hkk, hX, hcell, back⟩ : ∃ (k sx sy : Nat) (gx gy : Option Addr) (cx cy : Nat) (lx ly : List Qr), o.y % 2 = (k : Int) ∧ TblS w w6 b bu bd sx sy lo m bs gx gy cx cy lx ly p ∧ [Value.pointer (some ⟨sa, 0, none⟩), .pointer (some ⟨sb, 0, none⟩)][k]? = some (.pointer (some ⟨sx, 0, none⟩)) ∧
        ∀ w'' gx' cx' lx' p', TblS w w'' b bu bd sx sy lo m bs gx' gy cx' cy lx' ly p' → ∃ (ga gb : Option Addr) (ca cb : Nat) (la lb : List Qr), TblS w w'' b bu bd sa sb lo m bs ga gb ca cb la lb p' := by
      rcases (show o.y % 2 = 0 ∨ o.y % 2 = 1 by omega) with h | h
      · exact ⟨0, sa, sb, ga, gb, ca, cb, la, lb, by omega, hX0, rfl, fun w'' gx' cx' lx' p' h => ⟨_, _, _, _, _, _, h⟩⟩
      · exact ⟨1, sb, sa, gb, ga, cb, ca, lb, la, by omega, hX0.swap, rfl, fun w'' gx' cx' lx' p' h => ⟨_, _, _, _, _, _, h.swap⟩⟩
    clear hX0
    rw [hkk]
    refine Has.ptr hB6 rfl hcell ?_
    have hokx := hX.t.two.A.ok
    have hNx := hokx.len
    have hTx := tabs_len lx
    refine Ret.use (f17 hX.t.two.A) ?_
    rintro v w7 ⟨lq, lc, rfl, sl7, hf7⟩
    rw [AsSl_slice]
    have hX7 := hX.fr0 hf7
    have hB7 := hB6.fr0 hf7
    refine Ret.use (f26 hX7.t.two.pool) ?_
    rintro v w8 ⟨rfl, hw⟩
    obtain rfl := hw.symm
    rw [AsI_int]
    refine Join.at (fun s w' => ∃ (bb : Bool) (gx' : Option Addr) (cx' : Nat) (lx' : List Qr) (p' : Pool), s = [.bool bb] ∧ TblS w w' b bu bd sx sy lo m bs gx' gy cx' cy lx' ly p' ∧ Has w' bs [.pointer (some ⟨sa, 0, none⟩), .pointer (some ⟨sb, 0, none⟩)]) ?_ ?_
    rotate_left
    · rintro _ w9 ⟨bb', gx', cx', lx', p', rfl, hX9, hB9⟩
      simp only [UnC_cons, UnN_nil, AsB_bool]
      obtain ⟨ga', gb', ca', cb', la', lb', hA9⟩ := back _ _ _ _ _ hX9
      refine Ret.use (f34 hA9.t.two) ?_
      rintro v w10 ⟨rfl, hf10⟩
      rw [AsB_bool, Bool.not_true, BIf_false]
      have hA10 := hA9.fr0 hf10
      refine Ret.use (f26 hA10.t.two.pool) ?_
      rintro v w11 ⟨rfl, hw⟩
      obtain rfl := hw.symm
      rw [AsI_int]
      refine Ret.use (f18 hA10.t.two.A) ?_
      rintro v w12 ⟨q12, c12, rfl, sl12, hf12⟩
      rw [AsSl_slice]
      have hA12 := hA10.fr0 hf12
      refine Ret.use (f18 hA12.t.two.B) ?_
      rintro v w13 ⟨q13, c13, rfl, sl13, hf13⟩
      rw [AsSl_slice]
      have hsum := hA9.t.sum
      have hl1 := hA9.t.two.A.ok.len
      have hl2 := hA9.t.two.B.ok.len
      rw [w64 (n := ((p'.free : Nat) : Int) + (la'.length : Int)) (by omega) (by omega), w64 (n := ((p'.free : Nat) : Int) + (la'.length : Int) + (lb'.length : Int)) (by omega) (by omega)]
      refine BIf_ne (fun h => absurd (by omega) h) (fun _ => ?_)
      rw [w64 (n := (i : Int) + 1) (by omega) (by omega)]
      refine ⟨⟨i + 1, bb', ga', gb', ca', cb', la', lb', p', rfl, by omega, hA12.fr0 hf13, ((hB9.fr0 hf10).fr0 hf12).fr0 hf13⟩, ?_⟩
      show n - ((i : Int) + 1).toNat < n - (i : Int).toNat
      omega
    refine (hs.fr0 hX7.t.two.fr).field ho 0 (by decide) rfl ?_
    refine BIf_eq (fun heven => ?_) (fun hodd => ?_)
    · refine Has.ptr hB7 rfl hcell ?_
      refine Ret.use (hX7.take hB7) ?_
      rintro v w9 ⟨r, e, p', lx', gx', cx', rfl, hst, hX9, hB9, hf9⟩
      simp only [AsTup_tuple, UnC_cons, UnN_nil, AsI_int]
      have hown7 := hX.own
      have hlq9 : Rd w9 lq (i64n (tabs lx)) := sl7.rd.fr hf9 fun x hx h => by have := (sl7.lt x hx).1; have := hown7 x h; omega
      have hpl : p.u.length ≤ 1048576 := hX.t.two.pool.ok.n
      refine Has.ptr hB9 rfl hcell ?_
      refine Ret.use (f14 _) ?_
      rintro v w10 ⟨rfl, hw⟩
      obtain rfl := hw.symm
      rw [AsI_int]
      have hce : w9.cell? (at0 ⟨bs, 0, none⟩ (((k : Nat) : Int).toNat * 1)) = some (.pointer (some ⟨sx, 0, none⟩)) := by
        rw [at0_mk, Int.toNat_natCast, Nat.mul_one, Nat.zero_add, hB9.cell, hcell]
      refine ⟨hce, ?_⟩
      refine Ret.use (f26 (w := w9.drew) (hX9.t.two.pool.qt (Qt.refl _).drew)) ?_
      rintro v w11 ⟨rfl, hw⟩
      obtain rfl := hw.symm
      rw [AsI_int]
      refine ⟨hce, ?_⟩
      refine Ret.use (f32 (w := w9.drew) (lc := lc) hst hokx hX.t.two.hA (hX9.t.two.A.qt (Qt.refl _).drew) (hlq9.qt (Qt.refl _).drew) hpl) ?_
      rintro v w12 ⟨rfl, hf12⟩
      rw [AsB_bool, Bool.not_true, BIf_false]
      have hf12' : Fr0 w9 w12 := Fr.of_drew hf12
      exact ⟨bb, gx', cx', lx', p', rfl, hX9.fr0 hf12', hB9.fr0 hf12'⟩
    · refine BIf_cases (fun hpos => ?_) (fun hzero => ?_)
      · refine (hs.fr0 hX7.t.two.fr).field ho 1 (by decide) rfl ?_
        refine Ret.use (f22 o.f ((tabs lx).length : Int) (by omega) (by omega)) ?_
        rintro v w9 ⟨rfl, hw⟩
        obtain rfl := hw.symm
        rw [AsI_int]
        have g3 := Int.emod_nonneg o.f (show ((tabs lx).length : Int) ≠ 0 by omega)
        have g4 := Int.emod_lt_of_pos o.f (show (0 : Int) < ((tabs lx).length : Int) by omega)
        obtain ⟨j, hj⟩ : ∃ j : Nat, o.f % ((tabs lx).length : Int) = j := ⟨(o.f % ((tabs lx).length : Int)).toNat, by omega⟩
        rw [hj] at g4 ⊢
        have hjl : j < (tabs lx).length := by omega
        obtain ⟨x, hx⟩ : ∃ x, (tabs lx)[j]? = some x := ⟨_, List.getElem?_eq_getElem hjl⟩
        have hxm := List.mem_of_getElem? hx
        have hxl := tabs_lt hokx hxm
        refine Has.ptr hB7 rfl hcell ?_
        refine Rd.nat sl7.rd hx ?_
        refine Ret.use ((hX7.fr0 (Qt.refl _).drew.fr).drop hB7.drew x hxl) ?_
        rintro v w9 ⟨e, p', lx', gx', cx', rfl, hd, hX9, hB9, hf9⟩
        have hf9' : Fr (OwnS b bu bd sx gx) w7 w9 := hf9.of_drew
        have hown7 := hX.own
        have hlq9 : Rd w9 lq (i64n (tabs lx)) := sl7.rd.fr hf9' fun x hx h => by have := (sl7.lt x hx).1; have := hown7 x h; omega
        rcases hd with ⟨_, hbad, _⟩ | ⟨rfl, _, htab⟩
        · exact absurd hxm hbad
        rw [AsI_int]
        refine Ret.use (f14 _) ?_
        rintro v w10 ⟨rfl, hw⟩
        obtain rfl := hw.symm
        rw [AsI_int]
        refine BIf_ne (fun h => absurd rfl h) (fun _ => ?_)
        refine Has.ptr hB9 rfl hcell ?_
        refine Rd.nat hlq9 hx ?_
        refine Ret.use (hX9.drop hB9 x hxl) ?_
        rintro v w10 ⟨e, p'', lx'', gx'', cx'', rfl, hd, hX10, hB10, hf10⟩
        have hxn : x ∉ tabs lx' := by rw [htab]; simp
        rcases hd with ⟨rfl, _, rfl, rfl⟩ | ⟨_, hbad, _⟩
        rotate_left
        · exact absurd hbad hxn
        rw [AsI_int]
        refine Ret.use (f14 _) ?_
        rintro v w11 ⟨rfl, hw⟩
        obtain rfl := hw.symm
        rw [AsI_int]
        refine BIf_ne (fun h => absurd rfl h) (fun _ => ?_)
        refine Has.ptr hB10 rfl hcell ?_
        refine Ret.use (f17 hX10.t.two.A) ?_
        rintro v w11 ⟨q11, c11, rfl, sl11, hf11⟩
        rw [AsSl_slice]
        have hlen : (tabs lx'').length = (tabs lx).length - 1 := by rw [htab]; exact filter_len (tabs_rise hokx.rise) hxm
        rw [w64 (n := ((tabs lx).length : Int) - 1) (by omega) (by omega)]
        refine BIf_ne (fun h => absurd (by omega) h) (fun _ => ?_)
        exact ⟨bb, gx'', cx'', lx'', p'', rfl, hX10.fr0 hf11, hB10.fr0 hf11⟩
      · exact ⟨bb, gx, cx, lx, p, rfl, hX7, hB7⟩
  · refine Loop.by (fun s w' => ∃ (i : Nat) (bb : Bool) (ga gb : Option Addr) (ca cb : Nat) (la lb : List Qr) (p : Pool), s = [.int .i64 (i : Int), .bool bb] ∧ i ≤ 2 ∧ (1 ≤ i → la = []) ∧ (2 ≤ i → lb = []) ∧ TblS w w' b bu bd sa sb lo m bs ga gb ca cb la lb p ∧ Has w' bs [.pointer (some ⟨sa, 0, none⟩), .pointer (some ⟨sb, 0, none⟩)])
      (fun s _ => match s with | [.int _ k, _] => 2 - k.toNat | _ => 0)
      ⟨0, bb, ga, gb, ca, cb, la, lb, p, rfl, by omega, fun h => by omega, fun h => by omega, hX0, hB6⟩ ?_
    clear hX0 hB6 ga gb ca cb la lb p
    rintro _ w7 ⟨i, bb1, ga, gb, ca, cb, la, lb, p, rfl, hi, hl1, hl2, hX0, hB7⟩
    simp only [UnC_cons, UnN_nil, AsI_int, AsB_bool]
    refine BIf_cases (fun hlt => ?_) (fun hge => ?_)
    · obtain ⟨sx, sy, gx, gy, cx, cy, lx, ly, hX, hcell, back⟩ : ∃ (sx sy : Nat) (gx gy : Option Addr) (cx cy : Nat) (lx ly : List Qr), TblS w w7 b bu bd sx sy lo m bs gx gy cx cy lx ly p ∧ [Value.pointer (some ⟨sa, 0, none⟩), .pointer (some ⟨sb, 0, none⟩)][i]? = some (.pointer (some ⟨sx, 0, none⟩)) ∧
          ∀ w'' gx' cx' p', TblS w w'' b bu bd sx sy lo m bs gx' gy cx' cy [] ly p' → ∃ (ga gb : Option Addr) (ca cb : Nat) (la lb : List Qr), (1 ≤ i + 1 → la = []) ∧ (2 ≤ i + 1 → lb = []) ∧ TblS w w'' b bu bd sa sb lo m bs ga gb ca cb la lb p' := by
        rcases (show i = 0 ∨ i = 1 by omega) with rfl | rfl
        · exact ⟨sa, sb, ga, gb, ca, cb, la, lb, hX0, rfl, fun w'' gx' cx' p' h => ⟨_, _, _, _, _, _, fun _ => rfl, fun h => by omega, h⟩⟩
        · obtain rfl := hl1 (by omega)
          exact ⟨sb, sa, gb, ga, cb, ca, lb, [], hX0.swap, rfl, fun w'' gx' cx' p' h => ⟨_, _, _, _, _, _, fun _ => rfl, fun _ => rfl, h.swap⟩⟩
      clear hX0
      refine Has.ptr hB7 rfl hcell ?_
      have hokx := hX.t.two.A.ok
      have hNx := hokx.len
      have hTx := tabs_len lx
      refine Ret.use (f17 hX.t.two.A) ?_
      rintro v w8 ⟨lq, lc, rfl, sl8, hf8⟩
      rw [AsSl_slice]
      refine Loop.by (fun s w' => ∃ (j : Nat) (bb : Bool) (gx' : Option Addr) (cx' : Nat) (lx' : List Qr) (p' : Pool), s = [.int .i64 (j : Int), .bool bb] ∧ j ≤ (tabs lx).length ∧ tabs lx' = (tabs lx).drop j ∧ TblS w w' b bu bd sx sy lo m bs gx' gy cx' cy lx' ly p' ∧ Has w' bs [.pointer (some ⟨sa, 0, none⟩), .pointer (some ⟨sb, 0, none⟩)] ∧ Rd w' lq (i64n (tabs lx)) ∧
          ∀ x, On lq x → ¬ OwnS b bu bd sx gx' x)
        (fun s _ => match s with | [.int _ k, _] => (tabs lx).length - k.toNat | _ => 0)
        ⟨0, bb1, gx, cx, lx, p, rfl, by omega, rfl, hX.fr0 hf8, hB7.fr0 hf8, sl8.rd, fun x hx h => by have := (sl8.lt x hx).1; have := hX.own x h; omega⟩ ?_
      clear hX
      rintro _ w9 ⟨j, bb2, gx', cx', lx', p', rfl, hj, htab, hX9, hB9, hR9, hsep⟩
      simp only [UnC_cons, UnN_nil, AsI_int, AsB_bool, Ld_drew]
      refine BIf_cases (fun hjl => ?_) (fun hjg => ?_)
      · have hjl : j < (tabs lx).length := by omega
        obtain ⟨x, hx⟩ : ∃ x, (tabs lx)[j]? = some x := ⟨_, List.getElem?_eq_getElem hjl⟩
        have hxl := tabs_lt hokx (List.mem_of_getElem? hx)
        have hdrop : (tabs lx).drop j = x :: (tabs lx).drop (j + 1) := by
          rw [List.drop_eq_getElem_cons hjl, (List.getElem?_eq_some_iff.1 hx).2]
        refine Has.ptr hB9 rfl hcell ?_
        refine Rd.nat hR9 hx ?_
        have hl9 := (hX9.fr0 (Qt.refl _).drew.fr).lt
        refine Ret.use (f33 (w := w9.drew) (hX9.t.two.pool.qt (Qt.refl _).drew) (hX9.t.two.tz'.qt (Qt.refl _).drew) (fun hx => by
          obtain ⟨z1, z2, _⟩ := hX9.t.two.z
          rcases hx with hx | hx | hx
          · exact z1 hx
          · exact z2 (.inl hx)
          · exact z2 (.inr hx)) (hX9.t.two.A.qt (Qt.refl _).drew) hX9.t.two.hA (hX9.t.two.sab sx (.inl rfl)).1 (fun x hx => (hX9.t.two.sab x (.inr hx)).1) (x : Int) ⟨by omega, by omega⟩) ?_
        rintro v w10 ⟨e, p'', lx'', gx'', cx'', rfl, hst, hP10, hS10, hf10, hon10⟩
        have hf10' : Fr (OwnS b bu bd sx gx') w9 w10 := hf10.of_drew
        obtain ⟨h1, h2, h3⟩ := hst.held hX9.t.two.A.ok hX9.t.two.hA
        obtain ⟨o1, o2, o3, o4, o5⟩ := hst.ones hX9.t.two.A.ok hX9.t.two.hA hX9.t.oA
        have hX10 : TblS w w10 b bu bd sx sy lo m bs gx'' gy cx'' cy lx'' ly p'' := by
          refine ⟨⟨hX9.t.two.turned hP10 hS10 hf10' hon10 h1 (h2 ly hX9.t.two.hB hX9.t.two.dj) (h3 ly hX9.t.two.dj), by rw [o4, hX9.t.first], by rw [o5, hX9.t.len], o1, o2 ly hX9.t.two.hB hX9.t.two.dj hX9.t.oB, by have := hX9.t.sum; omega⟩, hX9.hs, ⟨hX9.out.1, ?_, hX9.out.2.2⟩, Nat.lt_of_lt_of_le hX9.lt hf10'.size⟩
          rintro (e | hx)
          · exact hX9.out.2.1 (.inl e)
          · rcases hon10 _ hx with h4 | h4
            · exact hX9.out.2.1 (.inr h4)
            · have := hX9.lt; have h6 : w9.drew.heap.size = w9.heap.size := rfl; omega
        rcases hst.tabs_eq hX9.t.two.A.ok (x := x) rfl with ⟨_, hbad, _⟩ | ⟨rfl, _, ht2⟩
        · rw [htab, hdrop] at hbad; exact absurd (by simp) hbad
        rw [AsI_int]
        refine Ret.use (f14 _) ?_
        rintro v w11 ⟨rfl, hw⟩
        obtain rfl := hw.symm
        rw [AsI_int]
        refine BIf_ne (fun h => absurd rfl h) (fun _ => ?_)
        rw [w64 (n := (j : Int) + 1) (by omega) (by omega)]
        refine ⟨⟨j + 1, bb2, gx'', cx'', lx'', p'', rfl, by omega, ?_, hX10, hB9.fr hf10' hX9.aside, hR9.fr hf10' hsep, ?_⟩, ?_⟩
        · rw [ht2, htab, hdrop]
          refine filter_head ?_
          rw [← hdrop]
          exact (tabs_rise hokx.rise).sublist (List.drop_sublist _ _)
        · intro y hy h
          rcases h with h | h | h
          · exact hsep y hy (.inl h)
          · exact hsep y hy (.inr (.inl h))
          · rcases hon10 y h with h4 | h4
            · exact hsep y hy (.inr (.inr h4))
            · have h6 : w9.drew.heap.size = w9.heap.size := rfl
              obtain ⟨b', o', hlq, hc⟩ := hR9 j _ (by rw [i64n, List.getElem?_map, hx]; rfl)
              obtain ⟨a, ha, rfl⟩ := hy
              rw [hlq] at ha; injection ha with ha; subst ha
              have := cell_lt hc
              simp only at h4 this
              omega
        · show (tabs lx).length - ((j : Int) + 1).toNat < (tabs lx).length - (j : Int).toNat
          omega
      · have : j = (tabs lx).length := by omega
        rw [this, List.drop_length] at htab
        obtain rfl := tabs_nil hX9.t.two.A.ok htab
        obtain ⟨ga', gb', ca', cb', la', lb', k1, k2, hA9⟩ := back _ _ _ _ hX9
        rw [w64 (n := (i : Int) + 1) (by omega) (by omega)]
        refine ⟨⟨i + 1, bb2, ga', gb', ca', cb', la', lb', p', rfl, by omega, k1, k2, hA9, hB9⟩, ?_⟩
        show 2 - ((i : Int) + 1).toNat < 2 - (i : Int).toNat
        omega
    · obtain rfl := hl1 (by omega)
      obtain rfl := hl2 (by omega)
      refine Ret.use (f26 hX0.t.two.pool) ?_
      rintro v w8 ⟨rfl, hw⟩
      obtain rfl := hw.symm
      rw [AsI_int]
      have hsum := hX0.t.sum
      have hplen := hX0.t.len
      simp only [List.length_nil, Nat.add_zero] at hsum
      rw [hsum]
      refine BIf_eq (fun _ => ?_) (fun h => absurd rfl h)
      refine Ret.use (f28 hX0.t.two.pool hX0.t.two.tz') ?_
      rintro v w8 ⟨rq, rc, rfl, sl8, hf8⟩
      rw [AsSl_slice]
      have hall : ∀ x, p.u.getD x 0 = 0 := zero_all (by show p.free = _; rw [hsum, hplen])
      have hruns : p.runs = [(0, m)] := by rw [← hplen]; exact all_zero_runs hall (by omega)
      refine RunV.build1 E55 (by decide) rfl fun w9 h9 hf9 _ => ?_
      rw [AsSl_slice]
      have hR1 : RunsAt w9 rq p.runs.length p.first p.runs := ⟨sl8.rd.fr0 hf9, rfl⟩
      have hR2 : RunsAt w9 (some ⟨w8.heap.size, 0, none⟩) 1 p.first [(0, m)] := by
        refine ⟨fun j v hv => ⟨_, 0, rfl, ?_⟩, rfl⟩
        rw [Nat.zero_add, h9.cell]
        have e : (Value.agg #[Value.int .i64 (lo : Int), .int .i64 (m : Int)]).cells.toList = runCells p.first [(0, m)] := by
          simp [runCells, Value.cells, hX0.t.first]
        rw [e]; exact hv
      refine Ret.use (f27 (ac := rc) (bc := 1) hR1 hR2 (by rw [hruns]; simp)) ?_
      rintro v w10 ⟨rfl, hq10⟩
      rw [AsB_bool, hruns]
      exact ⟨by simp, ((hX0.t.two.fr.trans hf8).trans hf9).trans hq10.fr⟩
end Go.Proofs.YthpodlcbikialaaDoor
