import Derived.Test.YtmgjicnipgdjhaaGreatDoorP08
import Derived.ProofKit
import Derived.LaidMore
import Derived.OpenShut
import Derived.Carry
import Derived.Stop.Joined
import Derived.SevenTiedAt
set_option linter.unusedVariables false
set_option linter.unusedSimpArgs false
set_option maxRecDepth 10000
namespace Go.Proofs.YtmgjicnipgdjhaaGreatDoor
open Go Go.Sh Go.Fr
def worldV (c0 c1 c2 c3 c4 c5 c6 c7 c8 : Int) : Value := .agg #[.int .i64 c0, .int .i64 c1, .int .i64 c2, .int .i64 c3, .int .i64 c4, .int .i64 c5, .int .i64 c6, .int .i64 c7, .int .i64 c8]
def deskLen (d : Nat) (w : World) : Nat := match w.cell? ⟨d, 4, none⟩ with | some (.slice _ n _) => n | _ => 0
theorem deskLen_eq {w : World} {ro : Ro} {J : Ids} {n d B : Nat} {tk : List (Nat × Nat)} (h : DeskAt w ro J n d B tk) : deskLen d w = tk.length := by
  obtain ⟨p, c, h1, _⟩ := h.st
  unfold deskLen
  rw [h1.cell]
  rfl
theorem key_ld {w : World} {q : Option Addr} {l : List (Nat × RootS)} (h : Rd w q ((keysOf l).map (Value.int .u64))) {i : Nat} {x : Int} (hi : (keysOf l)[i]? = some x) {N : Int} (hN : (i : Int) < N) {K : Int → Prop} (k : K x) :
    NilP q fun b => 0 ≤ (i : Int) ∧ (i : Int) < N ∧ Ld w (at0 b (i : Int).toNat) fun v => AsI .u64 v K := by
  refine h.ld (i := i) (v := .int .u64 x) (by simp [hi]) fun b o _ hc => ⟨by omega, hN, ?_⟩
  rw [at0_mk, Int.toNat_natCast]; exact ⟨_, hc, AsI_int.2 k⟩
theorem op13_cells : op13.cells.toArray = #[.int .i64 13, .int .i64 0, .int .i64 0, .slice none 0 0, .slice none 0 0, .int .i64 0, .int .u32 0, .bool false, .bool false, .slice none 0 0, .int .i64 0, .int .u32 0, .int .i64 0, .int .u32 0, .bool false, .int .i64 0, .int .i64 0] := by kernel_rfl
set_option maxHeartbeats 1000000 in
/-- all goes back -/
theorem f4 {w : World} (hG : Gl w) (c0 c1 c2 c3 c4 c5 c6 c7 c8 : Int) (h7 : I64 c7) (h8 : I64 c8) {q : Option Addr} {m c : Nat} {s : ScrT} (hs : ScrAt w w.heap.size q m s) :
    Ret prog 4 #[worldV c0 c1 c2 c3 c4 c5 c6 c7 c8, .slice q m c] w fun v w' => v = .bool true ∧ Fr0 w w' := by
  refine F4_of _ _ _ _ _ _ _ _ _ _ _ _ _ _ ?_
  unfold F4; try dsimp only [Liiiiiiiii, Liiissiubbsiuiubii, Uib, Uii, Uvi, ce_, lb_, li_, lp_, ls_, ub_, ui_]
  refine New.mk fun w1 n1 f1 s1 => ?_
  try simp only [n1.ld_iff, sb_, Nat.reduceAdd]
  have hsz := hG.gr.size
  refine Ret.use (f9 (hG.fr0 f1) c0 c1 c2 c3 c4 c5 c6 c7 c8 h7 h8) ?_
  rintro _ w2 ⟨J, ro2, n, d, k, rfl, H2⟩
  simp only [sb_, Nat.reduceAdd]
  simp only [Option.isNone_some, BIf_false]
  refine Ret.use (f10 H2.sys.gl) ?_
  rintro _ w3 ⟨rfl, f3⟩
  have H3 := H2.fr0 f3
  simp only [sb_, Nat.reduceAdd]
  simp only [Bool.not_true, BIf_false]
  refine Loop.by (fun st w' => ∃ (i : Nat) (ro : Ro) (S : St) (tk : List (Nat × Nat)), i ≤ m ∧ st = [.int .i64 (i : Int)] ∧ LawAt w1 w' ro J n S d tk) (fun st _ => match st with | [.int _ i] => m - i.toNat | _ => 0) ⟨0, ro2, _, _, by omega, rfl, H3⟩ ?_
  rintro _ w4 ⟨i, ro4, S4, tk4, hi, rfl, H4⟩
  simp only [sb_, Nat.reduceAdd]
  refine BIf_cases (fun hlt => ?_) (fun hge => ?_)
  · obtain ⟨x, hx⟩ : ∃ x, s[i]? = some x := ⟨s[i]'(by have := hs.len; omega), List.getElem?_eq_getElem _⟩
    refine op_ld (hs.rd.fr0 (f1.trans H4.fr)) rfl hx hlt ?_
    have hO := (hs.ok x (List.mem_of_getElem? hx)).fr0 f1
    have hO : OpIn w1 w1.heap.size x.1 x.2.1 x.2.2 := { hO with lo := fun hl b hb => Nat.lt_of_lt_of_le (hO.lo hl b hb) f1.size }
    refine Ret.use (f11 H4 hO) ?_
    rintro _ w5 ⟨y, e, S5, tk5, ro5, rfl, hd, E5, H5, _⟩
    simp only [sb_, Nat.reduceAdd]
    have hmt := hs.lt
    rw [w64 (by omega) (by omega)]
    exact ⟨⟨i + 1, ro5, S5, tk5, by omega, rfl, H5⟩, (by first | omega | (simp only [Int.toNat_natCast]; omega))⟩
  refine Loop.by (fun st w' => ∃ (ro : Ro) (S : St) (tk : List (Nat × Nat)), st = [.bool false] ∧ LawAt w1 w' ro J n S d tk) (fun st w' => deskLen d w') ⟨ro4, S4, tk4, rfl, H4⟩ ?_
  rintro _ w5 ⟨ro5, S5, tk5, rfl, H5⟩
  obtain ⟨p5, c5, d5, _, _⟩ := H5.desk.st
  try simp only [d5.ld_iff, sb_, Nat.reduceAdd]
  refine BIf_cases (fun hlt => ?_) (fun hge => ?_)
  · try simp only [d5.ld_iff, sb_, Nat.reduceAdd]
    have h11 := f11 H5 (op13_in w1 w1.heap.size)
    rw [op13_cells] at h11
    refine Ret.use h11 ?_
    rintro _ w6 ⟨y, e, S6, tk6, ro6, rfl, hd, E6, H6, _⟩
    obtain ⟨rfl, hl6, _⟩ := does13 hd (by omega)
    obtain ⟨p6, c6, d6, _, _⟩ := H6.desk.st
    simp only [sb_, Nat.reduceAdd]
    refine BIf_ne (fun h => absurd rfl h) (fun _ => ?_)
    try simp only [d6.ld_iff, sb_, Nat.reduceAdd]
    have htl := H5.inv.tkLen
    rw [w64 (by omega) (by omega)]
    refine BIf_ne (fun h => absurd (by omega) h) (fun _ => ?_)
    refine ⟨⟨ro6, S6, tk6, by trivial, H6⟩, ?_⟩
    rw [deskLen_eq H6.desk, deskLen_eq H5.desk]
    omega
  obtain rfl : tk5 = [] := List.eq_nil_of_length_eq_zero (by omega)
  try simp only [d5.ld_iff, sb_, Nat.reduceAdd]
  refine Ret.use (f12k H5.sys H5.inv.rl) ?_
  rintro _ w6 ⟨q6, c6, rfl, sl6, f6⟩
  have H6 := H5.fr0 f6
  have hnd := H5.inv.nd
  have hkl := keysOf_len S5.roots
  have hknd := keysOf_nodup hnd
  have hrl := H5.inv.rl
  simp only [sb_, Nat.reduceAdd]
  refine Loop.by (fun st w' => ∃ (i : Nat) (ro : Ro) (S : St), i ≤ S5.roots.length ∧ st = [.int .i64 (i : Int), .bool false] ∧ LawAt w1 w' ro J n S d [] ∧ Rd w' q6 ((keysOf S5.roots).map (Value.int .u64)) ∧ (∀ b, On q6 b → (ro b).1 = 0) ∧ (∀ a : Nat, a ∈ S.roots.map (·.1) ↔ (a : Int) ∈ (keysOf S5.roots).drop i))
    (fun st _ => match st with | [.int _ i, _] => S5.roots.length - i.toNat | _ => 0) ⟨0, ro5.cut w5, S5, by omega, rfl, H5.cut.fr0 f6, sl6.rd, fun b hb => Ro.cut_new (sl6.lt b hb).1, fun a => by rw [List.drop_zero, keysOf_mem]⟩ ?_
  rintro _ w7 ⟨i, ro7, S7, hi7, rfl, H7, hrd7, hon7, hk7⟩
  obtain ⟨p7, c7', d7, _, _⟩ := H7.desk.st
  simp only [sb_, Nat.reduceAdd]
  refine BIf_cases (fun hlt => ?_) (fun hge => ?_)
  · obtain ⟨kx, hkx⟩ : ∃ x, (keysOf S5.roots)[i]? = some x := ⟨(keysOf S5.roots)[i]'(by omega), List.getElem?_eq_getElem _⟩
    obtain ⟨a, rfl, _⟩ := keysOf_nat (List.mem_of_getElem? hkx)
    have hdrop : (keysOf S5.roots).drop i = (a : Int) :: (keysOf S5.roots).drop (i + 1) := by
      obtain ⟨h1, h2⟩ := List.getElem?_eq_some_iff.1 hkx
      rw [← h2]; exact List.drop_eq_getElem_cons h1
    have hnot : (a : Int) ∉ (keysOf S5.roots).drop (i + 1) := by
      have := hknd.sublist (List.drop_sublist i _)
      rw [hdrop] at this
      exact (List.nodup_cons.1 this).1
    have ham : a ∈ S7.roots.map (·.1) := (hk7 a).2 (by rw [hdrop]; simp)
    obtain ⟨R, hR⟩ := root_some H7.inv.nd ham
    have ha40 : a < 2 ^ 40 := by have := H7.inv.small (by decide) (root_mem hR); omega
    have rdk : ∀ {w' : World} {S' : St} {ro' : Ro}, FrR ro7 w7 w' → Rd w' q6 ((keysOf S5.roots).map (Value.int .u64)) := fun F => hrd7.fr F (fun b hb h => h (hon7 b hb))
    try simp only [d7.ld_iff, sb_, Nat.reduceAdd]
    refine key_ld hrd7 hkx hlt ?_
    refine Ret.use (H7.drew.blocks a hR) ?_
    rintro _ w8 ⟨p8, c8', rfl, sl8, f8⟩
    have f8 := f8.of_drew
    have H8 := H7.fr0 f8
    have hrd8 := hrd7.fr0 f8
    obtain ⟨pp8, cc8, d8, _, _⟩ := H8.desk.st
    simp only [sb_, Nat.reduceAdd]
    refine Join.at (fun st w' => st = [.bool false] ∧ LawAt w1 w' ro7 J n S7 d [] ∧ FrR ro7 w7 w') ?_ ?_
    · refine BIf_cases (fun hb => ?_) (fun hb => ?_)
      · try simp only [d8.ld_iff, sb_, Nat.reduceAdd]
        refine key_ld hrd8 hkx hlt ?_
        refine Ret.use (H8.drew.free a) ?_
        rintro _ w9 ⟨e, S9, rfl, hr, H9, F9⟩
        obtain ⟨h1, h2⟩ := free_full hR (fun h => by rw [h] at hb; simp at hb) hr
        subst h1; subst h2
        simp only [sb_, Nat.reduceAdd]
        refine ret_eq (f17 _) ?_
        simp only [sb_, Nat.reduceAdd]
        refine BIf_ne (fun h => absurd rfl h) (fun _ => ?_)
        exact ⟨by trivial, H9, (f8.drew.mono fun _ _ h => h.elim : FrR ro7 w7 w8.drew).trans F9⟩
      · exact ⟨by trivial, H8.drew, f8.drew.mono fun _ _ h => h.elim⟩
    · rintro _ w9 ⟨rfl, H9, F79⟩
      have hrd9 := rdk (S' := S7) (ro' := ro7) F79
      obtain ⟨pp9, cc9, d9, _, _⟩ := H9.desk.st
      try simp only [d9.ld_iff, sb_, Nat.reduceAdd]
      refine key_ld hrd9 hkx hlt ?_
      refine Ret.use (H9.drew.empty a ha40 5) ?_
      rintro _ w10 ⟨e, S10, ro10, rfl, he, E10, H10, F10⟩
      obtain ⟨h1, ⟨R10, hR10, hb10⟩, hk10⟩ := empty_ok hR H9.inv.nd he
      subst h1
      have F710 : FrR ro7 w7 w10 := (F79.trans (Fr.refl _ _).drew).trans F10
      have hrd10 := rdk (S' := S7) (ro' := ro7) F710
      have E710 : RExt w7 ro7 ro10 := fun x hx => E10 x (Nat.lt_of_lt_of_le hx F79.size)
      obtain ⟨pp10, cc10, d10, _, _⟩ := H10.desk.st
      simp only [sb_, Nat.reduceAdd]
      refine ret_eq (f17 _) ?_
      simp only [sb_, Nat.reduceAdd]
      refine BIf_ne (fun h => absurd rfl h) (fun _ => ?_)
      try simp only [d10.ld_iff, sb_, Nat.reduceAdd]
      refine key_ld hrd10 hkx hlt ?_
      refine Ret.use (H10.blocks a hR10) ?_
      rintro _ w11 ⟨p11, c11, rfl, sl11, f11⟩
      rw [hb10]
      simp only [sb_, Nat.reduceAdd]
      refine BIf_ne (fun h => absurd rfl h) (fun _ => ?_)
      have H11 := H10.fr0 f11
      have F711 : FrR ro7 w7 w11 := F710.trans (f11.mono fun _ _ h => h.elim)
      have hrd11 := rdk (S' := S7) (ro' := ro7) F711
      obtain ⟨pp11, cc11, d11, _, _⟩ := H11.desk.st
      try simp only [d11.ld_iff, sb_, Nat.reduceAdd]
      refine key_ld hrd11 hkx hlt ?_
      refine Ret.use (H11.free a) ?_
      rintro _ w12 ⟨e, S12, rfl, hr, H12, F12⟩
      obtain ⟨h1, hk12⟩ := free_ok hR10 hb10 hr
      subst h1
      have F712 : FrR ro7 w7 w12 := FrR.then F711 E710 F12
      have hrd12 := rdk (S' := S7) (ro' := ro7) F712
      obtain ⟨pp12, cc12, d12, _, _⟩ := H12.desk.st
      have hroots : ∀ b : Nat, b ∈ S12.roots.map (·.1) ↔ b ∈ S7.roots.map (·.1) ∧ b ≠ a := fun b => by
        rw [hk12, ← hk10]
        simp only [List.mem_map, List.mem_filter, decide_eq_true_eq]
        constructor
        · rintro ⟨x, ⟨h1, h2⟩, rfl⟩; exact ⟨⟨x, h1, rfl⟩, h2⟩
        · rintro ⟨⟨x, h1, rfl⟩, h2⟩; exact ⟨x, ⟨h1, h2⟩, rfl⟩
      simp only [sb_, Nat.reduceAdd]
      refine ret_eq (f17 _) ?_
      simp only [sb_, Nat.reduceAdd]
      refine BIf_ne (fun h => absurd rfl h) (fun _ => ?_)
      try simp only [d12.ld_iff, sb_, Nat.reduceAdd]
      refine key_ld hrd12 hkx hlt ?_
      refine Ret.use (H12.free a) ?_
      rintro _ w13 ⟨e, S13, rfl, hr, H13, F13⟩
      obtain ⟨h1, h2⟩ := free_gone (root_none (fun h => ((hroots a).1 h).2 rfl)) hr
      subst h1; subst h2
      have F713 : FrR ro7 w7 w13 := FrR.then F712 E710 F13
      simp only [sb_, Nat.reduceAdd]
      refine ret_eq (f17 _) ?_
      simp only [sb_, Nat.reduceAdd]
      refine BIf_ne (fun h => absurd rfl h) (fun _ => ?_)
      rw [w64 (n := (i : Int) + 1) (by omega) (by omega)]
      refine ⟨⟨i + 1, ro10, S13, by omega, rfl, H13, rdk (S' := S7) (ro' := ro7) F713, fun b hb => ?_, fun b => ?_⟩, (by first | omega | (simp only [Int.toNat_natCast]; omega))⟩
      · have := hon7 b hb
        rw [E710 b ?_]
        · exact this
        · obtain ⟨bb, oo, hq, hcell⟩ := hrd7 i (.int .u64 (a : Int)) (by rw [List.getElem?_map, hkx]; rfl)
          obtain ⟨aa, haa, hab⟩ := hb
          rw [hq] at haa
          injection haa with haa
          rw [← hab, ← haa]
          have hlt9 := cell_lt hcell
          exact hlt9
      · rw [hroots, hk7, hdrop, List.mem_cons]
        constructor
        · rintro ⟨h1 | h1, h2⟩
          · exact absurd (by omega) h2
          · exact h1
        · intro h
          refine ⟨.inr h, fun e => ?_⟩
          subst e
          exact hnot h
  · have hr0 : S7.roots = [] := by
      cases hx : S7.roots with
      | nil => rfl
      | cons y r =>
        have := (hk7 y.1).1 (by rw [hx]; simp)
        rw [List.drop_of_length_le (by omega)] at this
        simp at this
    try simp only [d7.ld_iff, sb_, Nat.reduceAdd]
    have H8 := H7.drew
    obtain ⟨p8, c8', d8, _, _⟩ := H8.desk.st
    refine ret_eq (f20 H8.sys.ps.pool) ?_
    simp only [sb_, Nat.reduceAdd]
    refine ⟨d8.cell.trans rfl, ?_⟩
    refine Ret.use (f21 H8.sys.ps.pool) ?_
    rintro _ w9 ⟨rfl, f9⟩
    have H9 := H8.fr0 f9
    obtain ⟨p9, c9', d9, _, _⟩ := H9.desk.st
    simp only [sb_, Nat.reduceAdd]
    have hfree := H9.inv.allFree hr0
    rw [hfree]
    refine BIf_eq (fun _ => ?_) (fun h => absurd rfl h)
    try simp only [d9.ld_iff, sb_, Nat.reduceAdd]
    refine Ret.use (f22 H9.sys) ?_
    rintro _ w10 ⟨q10, d10, rfl, sl10, f10⟩
    have H10 := H9.fr0 f10
    obtain ⟨p10, c10', e10, _, _⟩ := H10.desk.st
    have hb := H10.inv.bare (fun x hx => by rw [hr0] at hx; simp at hx)
    rw [hb.1]
    simp only [sb_, Nat.reduceAdd]
    refine BIf_eq (fun _ => ?_) (fun h => absurd rfl h)
    try simp only [e10.ld_iff, sb_, Nat.reduceAdd]
    refine Ret.use (f12k H10.sys H10.inv.rl) ?_
    rintro _ w11 ⟨q11, d11, rfl, sl11, f11⟩
    simp only [sb_, Nat.reduceAdd]
    rw [hr0]
    exact ⟨by trivial, f1.trans (H10.fr.trans f11)⟩
end Go.Proofs.YtmgjicnipgdjhaaGreatDoor
namespace Go.Sh
open Go.ChangeShapes Go.WideShapes Go.ChangeAt Go.WideElems Go.RowKit
section
variable {H : Type} {enc : TypeId × Value → H} {P : Program}
theorem Fr0.below {w w' : World} (h : Fr0 w w') : Below w.heap.size w w' := ⟨h.os, h.tape, h.output, h.size, fun b hb => h.block b hb fun h => h⟩
theorem trodAll_stays (hl : laidOutB P = true) {W W' : World} (hb : Below W.heap.size W W') : ∀ {ts : List TypeId} {vs : List Value} {ds : List (DataW H)} {ps : List MemPlace}, (∀ t ∈ ts, P.readableRec t = true ∧ t < P.types.size) →
    DataW.TrodAll enc P W 0 (fun _ => true) true ts vs ds ps → (∀ x ∈ ps, x.block < W.heap.size) → DataW.TrodAll enc P W' 0 (fun b => decide (b < W.heap.size)) true ts vs ds ps
  | [], vs, ds, ps, _, h, _ => by
    obtain ⟨rfl, rfl, rfl⟩ := trodAll_nil h
    exact trodAll_mk0
  | t :: ts, vs, ds, ps, hr, h, hlt => by
    obtain ⟨v0, vs0, d0, ds0, p0, q0, rfl, rfl, rfl, h0, r0⟩ := trodAll_cons h
    refine trodAll_cons_mk (Below.trod hl (hr t (by simp)).1 (hr t (by simp)).2 h0 hb fun x hx => hlt x (by simp [hx])) ?_
    exact trodAll_stays hl hb (fun t ht => hr t (by simp [ht])) r0 fun x hx => hlt x (by simp [hx])
theorem post_law {s : ChangeSpec} {f : Func} {W W' : World} {args : Array Value} {ds : List (DataW H)} {before : List MemPlace} {t : TypeId} (hv : s.vars = []) (hfn : s.fn H ds = { results := [.lit (.bool true)], args := ds }) (hrt : f.resultTypes = #[t]) (ht : P.underlying t = some .bool)
    (hl : laidOutB P = true) (hr : ∀ t ∈ f.params.toList, P.readableRec t = true ∧ t < P.types.size) (hW : DataW.Whole enc P f.params.toList s.vars false W args.toList ds [] before) (hf : Fr0 W W') :
    s.post enc P f false true false false W args (.bool true) W' := by
  have hlt := hW.lt
  have hW2 := hW
  obtain ⟨p, q, hA, hV, rfl, _, _⟩ := hW2
  rw [hv] at hV
  obtain ⟨_, rfl⟩ := trodVars_none hV
  have hds : s.fn H (ds ++ []) = { results := [.lit (.bool true)], args := ds } := by rw [List.append_nil]; exact hfn
  refine ⟨ds, [], p ++ [], [], p, [], hW, ?_, ?_, ?_, World.keptBut_mono (fun x hx => hx.elim) (hf.below.frame fun _ => False), fun h => by cases h⟩
  · rw [hds, hrt]
    exact trodAll_mk1 (shut_bool ht _)
  · rw [hds]
    exact trodAll_stays hl hf.below hr hA fun x hx => hlt x (by simp [hx])
  · rw [hds, hv]; rfl
end
end Go.Sh
