import Derived.Shelf.Pu.ToError
import Derived.Test.YthpodlcbikialaaDoorProg
import Derived.Test.YthpodlcbikialaaDoorG4
import Derived.Test.YthpodlcbikialaaDoorCbPure
set_option linter.unusedVariables false
set_option linter.unusedSimpArgs false
/- the shelf's facts on strconv's error functions, laid at this seat -/
set_option maxRecDepth 100000
namespace Go.Proofs
def Tryd.laysPu17_ren : Go.Shelf.Ren := ⟨fun | 17 => 76 | 21 => 79 | 22 => 80 | 23 => 81 | 24 => 82 | 25 => 83 | 27 => 85 | 26 => 84 | 28 => 86 | 29 => 87 | 30 => 88 | 31 => 89 | 32 => 90 | 33 => 91 | 35 => 93 | 34 => 92 | 36 => 94 | 37 => 95 | 38 => 96 | 39 => 97 | 40 => 69 | n => n, fun | 9 => 9 | 3 => 3 | 24 => 103 | 34 => 117 | 4 => 4 | 39 => 120 | 44 => 125 | 37 => 66 | 0 => 0 | 47 => 127 | 50 => 130 | 48 => 128 | 2 => 2 | 52 => 132 | 22 => 101 | 5 => 5 | 55 => 134 | 59 => 137 | 60 => 111 | 20 => 20 | 61 => 138 | 36 => 89 | 65 => 139 | 66 => 116 | 67 => 140 | n => n, fun | 0 => 1 | 1 => 2 | 2 => 3 | 3 => 4 | 4 => 0 | n => n⟩
theorem Tryd.laysPu17 : Go.Proofs.LaysPu.n17 Tryd.prog Tryd.laysPu17_ren where
  mixed := by kernel_rfl
  f17 := Tryd.func76.trans (congrArg some (by kernel_rfl))
  f21 := Tryd.func79.trans (congrArg some (by kernel_rfl))
  f22 := Tryd.func80.trans (congrArg some (by kernel_rfl))
  f23 := Tryd.func81.trans (congrArg some (by kernel_rfl))
  f24 := Tryd.func82.trans (congrArg some (by kernel_rfl))
  f25 := Tryd.func83.trans (congrArg some (by kernel_rfl))
  f26 := Tryd.func84.trans (congrArg some (by kernel_rfl))
  f27 := Tryd.func85.trans (congrArg some (by kernel_rfl))
  f28 := Tryd.func86.trans (congrArg some (by kernel_rfl))
  f29 := Tryd.func87.trans (congrArg some (by kernel_rfl))
  f30 := Tryd.func88.trans (congrArg some (by kernel_rfl))
  f31 := Tryd.func89.trans (congrArg some (by kernel_rfl))
  f32 := Tryd.func90.trans (congrArg some (by kernel_rfl))
  f33 := Tryd.func91.trans (congrArg some (by kernel_rfl))
  f34 := Tryd.func92.trans (congrArg some (by kernel_rfl))
  f35 := Tryd.func93.trans (congrArg some (by kernel_rfl))
  f36 := Tryd.func94.trans (congrArg some (by kernel_rfl))
  f37 := Tryd.func95.trans (congrArg some (by kernel_rfl))
  f38 := Tryd.func96.trans (congrArg some (by kernel_rfl))
  f39 := Tryd.func97.trans (congrArg some (by kernel_rfl))
  f40 := Tryd.func69.trans (congrArg some (by kernel_rfl))
  t0 := Tryd.underlying0
  a0 := Tryd.isAgg0
  z0 := Tryd.sizeOf0
  v0 := Tryd.zeroValue0
  i0 := by kernel_rfl
  t2 := Tryd.underlying2
  a2 := Tryd.isAgg2
  z2 := Tryd.sizeOf2
  v2 := Tryd.zeroValue2
  i2 := by kernel_rfl
  t3 := Tryd.underlying3
  a3 := Tryd.isAgg3
  z3 := Tryd.sizeOf3
  v3 := Tryd.zeroValue3
  i3 := by kernel_rfl
  t4 := Tryd.underlying4
  a4 := Tryd.isAgg4
  z4 := Tryd.sizeOf4
  v4 := Tryd.zeroValue4
  i4 := by kernel_rfl
  t5 := Tryd.underlying5
  a5 := Tryd.isAgg5
  z5 := Tryd.sizeOf5
  v5 := Tryd.zeroValue5
  i5 := by kernel_rfl
  t9 := Tryd.underlying9
  a9 := Tryd.isAgg9
  z9 := Tryd.sizeOf9
  v9 := Tryd.zeroValue9
  i9 := by kernel_rfl
  t20 := Tryd.underlying20
  a20 := Tryd.isAgg20
  z20 := Tryd.sizeOf20
  v20 := Tryd.zeroValue20
  i20 := by kernel_rfl
  t22 := Tryd.underlying101
  a22 := Tryd.isAgg101
  z22 := Tryd.sizeOf101
  v22 := Tryd.zeroValue101
  i22 := by kernel_rfl
  t24 := Tryd.underlying103
  a24 := Tryd.isAgg103
  z24 := Tryd.sizeOf103
  v24 := Tryd.zeroValue103
  i24 := by kernel_rfl
  t34 := Tryd.underlying117
  a34 := Tryd.isAgg117
  z34 := Tryd.sizeOf117
  v34 := Tryd.zeroValue117
  i34 := by kernel_rfl
  c34 := by kernel_rfl
  t36 := Tryd.underlying89
  a36 := Tryd.isAgg89
  z36 := Tryd.sizeOf89
  v36 := Tryd.zeroValue89
  i36 := by kernel_rfl
  t37 := Tryd.underlying66
  a37 := Tryd.isAgg66
  z37 := Tryd.sizeOf66
  v37 := Tryd.zeroValue66
  i37 := by kernel_rfl
  t39 := Tryd.underlying120
  a39 := Tryd.isAgg120
  z39 := Tryd.sizeOf120
  v39 := Tryd.zeroValue120
  i39 := by kernel_rfl
  t44 := Tryd.underlying125
  a44 := Tryd.isAgg125
  z44 := Tryd.sizeOf125
  v44 := Tryd.zeroValue125
  i44 := by kernel_rfl
  t47 := Tryd.underlying127
  a47 := Tryd.isAgg127
  z47 := Tryd.sizeOf127
  v47 := Tryd.zeroValue127
  i47 := by kernel_rfl
  t48 := Tryd.underlying128
  a48 := Tryd.isAgg128
  z48 := Tryd.sizeOf128
  v48 := Tryd.zeroValue128
  i48 := by kernel_rfl
  t50 := Tryd.underlying130
  a50 := Tryd.isAgg130
  z50 := Tryd.sizeOf130
  v50 := Tryd.zeroValue130
  i50 := by kernel_rfl
  t52 := Tryd.underlying132
  a52 := Tryd.isAgg132
  z52 := Tryd.sizeOf132
  v52 := Tryd.zeroValue132
  i52 := by kernel_rfl
  t55 := Tryd.underlying134
  a55 := Tryd.isAgg134
  z55 := Tryd.sizeOf134
  v55 := Tryd.zeroValue134
  i55 := by kernel_rfl
  t59 := Tryd.underlying137
  a59 := Tryd.isAgg137
  z59 := Tryd.sizeOf137
  v59 := Tryd.zeroValue137
  i59 := by kernel_rfl
  t60 := Tryd.underlying111
  a60 := Tryd.isAgg111
  z60 := Tryd.sizeOf111
  v60 := Tryd.zeroValue111
  i60 := by kernel_rfl
  t61 := Tryd.underlying138
  a61 := Tryd.isAgg138
  z61 := Tryd.sizeOf138
  t65 := Tryd.underlying139
  a65 := Tryd.isAgg139
  z65 := Tryd.sizeOf139
  v65 := Tryd.zeroValue139
  i65 := by kernel_rfl
  t66 := Tryd.underlying116
  a66 := Tryd.isAgg116
  z66 := Tryd.sizeOf116
  v66 := Tryd.zeroValue116
  i66 := by kernel_rfl
  t67 := Tryd.underlying140
  a67 := Tryd.isAgg140
  z67 := Tryd.sizeOf140
  v67 := Tryd.zeroValue140
  i67 := by kernel_rfl
  g0 := by kernel_rfl
  m0 := by kernel_rfl
  g1 := by kernel_rfl
  m1 := by kernel_rfl
  g2 := by kernel_rfl
  m2 := by kernel_rfl
  g3 := by kernel_rfl
  m3 := by kernel_rfl
  g4 := by kernel_rfl
  m4 := by kernel_rfl
end Go.Proofs

set_option linter.unusedVariables false
set_option linter.unusedSimpArgs false
set_option maxRecDepth 100000
namespace Go.Proofs.YthpodlcbikialaaDoor
open Go Go.Sh Go.Sh.Cb
theorem elem66 : ElemT prog 66 5 (.int .u8 0) 1 1 := ⟨by kernel_rfl, by kernel_rfl, by kernel_rfl, by decide⟩
theorem und66 : prog.underlying 66 = some (.slice 5) := by kernel_rfl
theorem und5 : prog.underlying 5 = some (.int .u8) := by kernel_rfl
theorem und9 : prog.underlying 9 = some .string := by kernel_rfl
theorem orI_u8 (c : Nat) (hc : c < 256) : orI .u8 (c : Int) 32 = ((c ||| 32 : Nat) : Int) := by
  have : ∀ c : Fin 256, orI .u8 (c.val : Int) 32 = ((c.val ||| 32 : Nat) : Int) := by decide +kernel
  exact this ⟨c, hc⟩
theorem f77 {w : World} (c : Nat) (hc : c < 256) : Ret prog 77 #[.int .u8 (c : Int)] w fun v w' => v = .int .u8 ((c ||| 32 : Nat) : Int) ∧ w' = w := by
  refine F77_of _ _ _ ?_
  exact ⟨by rw [orI_u8 c hc], rfl⟩
/-- what the Go library's reading of one byte comes to: the ways, met again -/
theorem dig_walk {w : World} {c : Nat} (hc : c < 256) {bad : World → Prop} {J : Int → World → Prop} (hJ : dig c < 255 → J (dig c) w) (hb : dig c = 255 → bad w) :
    BIf (decide ((48 : Int) ≤ (c : Int))) (BIf (decide ((c : Int) ≤ (57 : Int))) (J (IntKind.u8.wrap ((c : Int) - 48)) w) (CallS prog 77 #[.int .u8 (c : Int)] w fun v w1 => AsI .u8 v fun i => BIf (decide ((97 : Int) ≤ i)) (CallS prog 77 #[.int .u8 (c : Int)] w1 fun v w2 => AsI .u8 v fun i => BIf (decide (i ≤ (122 : Int))) (CallS prog 77 #[.int .u8 (c : Int)] w2 fun v w3 => AsI .u8 v fun i => J (IntKind.u8.wrap (IntKind.u8.wrap (i - 97) + 10)) w3) (bad w2)) (bad w1)))
      (CallS prog 77 #[.int .u8 (c : Int)] w fun v w1 => AsI .u8 v fun i => BIf (decide ((97 : Int) ≤ i)) (CallS prog 77 #[.int .u8 (c : Int)] w1 fun v w2 => AsI .u8 v fun i => BIf (decide (i ≤ (122 : Int))) (CallS prog 77 #[.int .u8 (c : Int)] w2 fun v w3 => AsI .u8 v fun i => J (IntKind.u8.wrap (IntKind.u8.wrap (i - 97) + 10)) w3) (bad w2)) (bad w1)) := by
  have hor : (c ||| 32) < 256 := Nat.or_lt_two_pow (n := 8) hc (by decide)
  have rest : ¬ (48 ≤ c ∧ c ≤ 57) → (CallS prog 77 #[.int .u8 (c : Int)] w fun v w1 => AsI .u8 v fun i => BIf (decide ((97 : Int) ≤ i)) (CallS prog 77 #[.int .u8 (c : Int)] w1 fun v w2 => AsI .u8 v fun i => BIf (decide (i ≤ (122 : Int))) (CallS prog 77 #[.int .u8 (c : Int)] w2 fun v w3 => AsI .u8 v fun i => J (IntKind.u8.wrap (IntKind.u8.wrap (i - 97) + 10)) w3) (bad w2)) (bad w1)) := fun hn => by
    refine Ret.use (f77 c hc) ?_
    rintro v w1 ⟨rfl, hw⟩
    obtain rfl := hw.symm
    rw [AsI_int]
    refine BIf_cases (fun h1 => ?_) (fun h1 => ?_)
    · refine Ret.use (f77 c hc) ?_
      rintro v w2 ⟨rfl, hw⟩
      obtain rfl := hw.symm
      rw [AsI_int]
      refine BIf_cases (fun h2 => ?_) (fun h2 => ?_)
      · refine Ret.use (f77 c hc) ?_
        rintro v w3 ⟨rfl, hw⟩
        obtain rfl := hw.symm
        rw [AsI_int]
        have e : dig c = (c ||| 32) - 97 + 10 := by unfold dig; rw [if_neg hn, if_pos ⟨by omega, by omega⟩]
        rw [wu8 (n := ((c ||| 32 : Nat) : Int) - 97) (by omega) (by omega), wu8 (by omega) (by omega), show (((c ||| 32 : Nat) : Int) - 97 + 10) = ((dig c : Nat) : Int) by rw [e]; omega]
        exact hJ (by omega)
      · exact hb (by unfold dig; rw [if_neg hn, if_neg (by omega)])
    · exact hb (by unfold dig; rw [if_neg hn, if_neg (by omega)])
  refine BIf_cases (fun h1 => BIf_cases (fun h2 => ?_) (fun h2 => rest (by omega))) (fun h1 => rest (by omega))
  have e : dig c = c - 48 := by unfold dig; rw [if_pos ⟨by omega, by omega⟩]
  rw [wu8 (by omega) (by omega), show ((c : Int) - 48) = ((dig c : Nat) : Int) by rw [e]; omega]
  exact hJ (by omega)
/-- what strconv's inner ParseUint(s, 16, 8) answers of two bytes -/
def hexOk (a b : UInt8) : Prop := worth a < 16 ∧ worth b < 16
instance (a b : UInt8) : Decidable (hexOk a b) := by unfold hexOk; infer_instance
theorem worth_of (a : UInt8) : (dig a.toNat < 16 → worth a = dig a.toNat) ∧ (16 ≤ dig a.toNat → worth a = 16) := by
  have := worth_dig ⟨a.toNat, a.toNat_lt⟩
  simpa using this
def R75 (a b : UInt8) (w : World) (v : Value) (w' : World) : Prop := (if hexOk a b then v = .tuple #[.int .u64 ((16 * worth a + worth b : Nat) : Int), .nilIface] else v = .tuple #[.int .u64 0, .iface 117 (.int .i64 2)]) ∧ Fr0 w w'
theorem not_hex {a b : UInt8} {i : Nat} {u : UInt8} (hu : [a, b][i]? = some u) (h : 16 ≤ dig u.toNat) : ¬ hexOk a b := by
  have := (worth_of u).2 h
  rintro ⟨h1, h2⟩
  match i, hu with
  | 0, hu => simp at hu; subst hu; omega
  | 1, hu => simp at hu; subst hu; omega
theorem f75 {w : World} (a b : UInt8) : Ret prog 75 #[.string (str [a, b]), .int .i64 16, .int .i64 8] w (R75 a b w) := by
  refine F75c_of _ _ _ ?_
  unfold F75c
  rw [show ((str [a, b]).toList == (⟨#[]⟩ : ByteArray).toList) = false by rw [toList_eq, str_list]; rfl, BIf_false]
  refine RunV.toBytes und9 und66 und5 fun w2 c hR hF => ?_
  rw [AsSl_slice, str_size]
  rw [str_list] at hR
  have bad : ¬ hexOk a b → R75 a b w (Value.tuple #[.int .u64 (0 : Int), Value.iface (117 : Nat) (.int .i64 (2 : Int))]) w2 := fun h => ⟨by rw [if_neg h], hF⟩
  refine Loop.by (fun s w' => w' = w2 ∧ ∃ (i : Nat) (n : Nat) (x : Value) (m : Int), s = [.int .i64 (i : Nat), .int .u64 (n : Nat), .bool false, x, .int .u64 m] ∧ i ≤ 2 ∧ (∀ j u, j < i → [a, b][j]? = some u → worth u < 16) ∧ (i = 0 → n = 0) ∧ (i = 1 → n = worth a) ∧ (i = 2 → n = 16 * worth a + worth b))
    (fun s _ => match s with | [.int _ i, _, _, _, _] => 2 - i.toNat | _ => 0) ?_ ?_
  · exact ⟨rfl, 0, 0, _, 0, rfl, by omega, fun j u hj => by omega, by simp, by simp, by simp⟩
  rintro s w8 ⟨hw8, i, n, x, m, rfl, hi, hw, h0, h1, h2⟩
  obtain rfl := hw8.symm
  simp only [UnC_cons, UnN_nil, AsI_int, AsB_bool]
  refine BIf_cases (fun hlt => ?_) (fun hge => ?_)
  · have hlt' : i < 2 := by simpa using Int.ofNat_lt.1 hlt
    obtain ⟨u, hu⟩ : ∃ u, [a, b][i]? = some u := ⟨_, List.getElem?_eq_getElem (by simpa using hlt')⟩
    have hul := u.toNat_lt
    have hn : n < 16 := by
      rcases Nat.lt_or_ge i 1 with h | h
      · rw [h0 (by omega)]; decide
      · rw [h1 (by omega)]; exact hw 0 a (by omega) rfl
    refine Join.triv ?_
    refine hR.ld (i := i) (v := bv u) (by rw [List.getElem?_map, hu]; rfl) fun bb o hp hc => ⟨by omega, hlt, ?_⟩
    rw [at0_mk, Int.toNat_natCast, Nat.mul_one]
    refine ⟨_, hc, ?_⟩
    refine AsI_int.2 ?_
    refine Join.at (fun s w' => s = [.int .u8 ((dig u.toNat : Nat) : Int), .bool false, x, .int .u64 m] ∧ w' = w2 ∧ dig u.toNat < 255) ?_ ?_
    · have hJ : dig u.toNat < 255 → [Value.int IntKind.u8 ((dig u.toNat : Nat) : Int), .bool false, x, .int .u64 m] = [.int .u8 ((dig u.toNat : Nat) : Int), .bool false, x, .int .u64 m] ∧ w2 = w2 ∧ dig u.toNat < 255 := fun h => ⟨rfl, rfl, h⟩
      have hb : dig u.toNat = 255 → R75 a b w (Value.tuple #[.int .u64 (0 : Int), Value.iface (117 : Nat) (.int .i64 (2 : Int))]) w2 := fun h => bad (not_hex hu (by omega))
      refine BIf_eq (fun _ => ?_) (fun _ => ?_)
      · exact dig_walk hul (J := fun d w' => [Value.int IntKind.u8 d, .bool false, x, .int .u64 m] = [.int .u8 ((dig u.toNat : Nat) : Int), .bool false, x, .int .u64 m] ∧ w' = w2 ∧ dig u.toNat < 255) (bad := fun w' => R75 a b w (Value.tuple #[.int .u64 (0 : Int), Value.iface (117 : Nat) (.int .i64 (2 : Int))]) w') hJ hb
      · exact dig_walk hul (J := fun d w' => [Value.int IntKind.u8 d, .bool false, x, .int .u64 m] = [.int .u8 ((dig u.toNat : Nat) : Int), .bool false, x, .int .u64 m] ∧ w' = w2 ∧ dig u.toNat < 255) (bad := fun w' => R75 a b w (Value.tuple #[.int .u64 (0 : Int), Value.iface (117 : Nat) (.int .i64 (2 : Int))]) w') hJ hb
    · rintro s w' ⟨rfl, hw', hd⟩
      obtain rfl := hw'.symm
      simp only [UnC_cons, UnN_nil, AsI_int, AsB_bool]
      rw [wu8 (n := 16) (by decide) (by decide)]
      refine BIf_cases (fun h16 => bad (not_hex hu (by omega))) (fun h16 => ?_)
      have hwu := (worth_of u).1 (by omega)
      refine BIf_neg (by omega) ?_
      rw [wu64 (n := 16) (by decide) (by decide), wu64 (n := (n : Int) * 16) (by omega) (by omega), wu64 (n := ((dig u.toNat : Nat) : Int)) (by omega) (by omega), wu64 (n := (n : Int) * 16 + ((dig u.toNat : Nat) : Int)) (by omega) (by omega)]
      refine BIf_neg (by omega) ?_
      rw [show IntKind.u64.wrap (shlI IntKind.u64 (1 : Int) (IntKind.u64.wrap (8 : Int)) - (1 : Int)) = 255 by decide +kernel]
      refine BIf_neg (by omega) ?_
      refine ⟨⟨by trivial, i + 1, n * 16 + dig u.toNat, x, m, ?_, by omega, ?_, by omega, ?_, ?_⟩, ?_⟩
      · rw [w64 (by omega) (by omega)]
        simp
      · intro j v hj hv
        rcases Nat.lt_or_ge j i with h | h
        · exact hw j v h hv
        · obtain rfl : j = i := by omega
          rw [hu] at hv; injection hv with hv; subst hv; omega
      · intro h
        have : i = 0 := by omega
        subst this
        simp at hu; subst hu
        rw [h0 rfl]; omega
      · intro h
        have : i = 1 := by omega
        subst this
        simp at hu; subst hu
        rw [h1 rfl]; omega
      · show 2 - (IntKind.i64.wrap ((i : Int) + 1)).toNat < 2 - ((i : Int)).toNat
        rw [w64 (by omega) (by omega)]; omega
  · have hi2 : i = 2 := by
      have : ¬ ((i : Int) < ((2 : Nat) : Int)) := hge
      omega
    subst hi2
    refine ⟨?_, hF⟩
    rw [if_pos ⟨hw 0 a (by omega) rfl, hw 1 b (by omega) rfl⟩, h2 rfl]
end Go.Proofs.YthpodlcbikialaaDoor

set_option linter.unusedVariables false
set_option linter.unusedSimpArgs false
set_option maxRecDepth 100000
namespace Go.Proofs.YthpodlcbikialaaDoor
open Go Go.Sh Go.Sh.Cb
theorem below_fr {w w' : World} (h : RowKit.Below w.heap.size w w') : Fr0 w w' := ⟨h.os, h.output, h.tape, h.size, fun b hb _ => h.block b hb⟩
/-- the variable strconv.ErrSyntax holds an error -/
def Es (w : World) : Prop := ∃ te pe, w.cell? ⟨1, 0, none⟩ = some (.iface te pe)
theorem Es.fr {w w' : World} (h : Es w) (f : Fr0 w w') : Es w' := by
  obtain ⟨te, pe, h⟩ := h
  exact ⟨te, pe, cell_fr h f fun h => h⟩
theorem f76 {w : World} (hE : Es w) (fn s : ByteArray) (base bits : Int) (hs : s.size ≤ 281474976710656) :
    Ret prog 76 #[.string fn, .string s, .int .i64 base, .int .i64 bits, .iface 117 (.int .i64 2)] w fun v w' => (∃ te pe, v = .iface te pe) ∧ Fr0 w w' := by
  obtain ⟨te, pe, hc⟩ := hE
  have := AnyPu.strconv_toError_syntax Tryd.laysPu17 fn s base bits _ w hs hc (.inr ⟨te, pe, rfl⟩)
  have h2 : Calls prog 76 #[.string fn, .string s, .int .i64 base, .int .i64 bits, .iface 117 (.int .i64 2)] w _ := this
  exact Calls.mono h2 fun e w' ⟨N, he, _, _, hb⟩ => ⟨_, he, ⟨_, _, rfl⟩, below_fr hb⟩
def R63 (a b : UInt8) (w : World) (v : Value) (w' : World) : Prop := (if hexOk a b then v = .tuple #[.int .u64 ((16 * worth a + worth b : Nat) : Int), .nilIface] else ∃ te pe, v = .tuple #[.int .u64 0, .iface te pe]) ∧ Fr0 w w'
theorem f63 {w : World} (hE : Es w) (a b : UInt8) : Ret prog 63 #[.string (str [a, b]), .int .i64 16, .int .i64 8] w (R63 a b w) := by
  refine F63_of _ _ _ _ _ ?_
  unfold F63
  refine Ret.use (f75 a b) ?_
  rintro v w1 ⟨hv, hf⟩
  by_cases hx : hexOk a b
  · rw [if_pos hx] at hv
    subst hv
    simp only [AsTup_tuple, UnC_cons, UnN_nil, AsI_int]
    exact ⟨rfl, by rw [if_pos hx], hf⟩
  · rw [if_neg hx] at hv
    subst hv
    simp only [AsTup_tuple, UnC_cons, UnN_nil, AsI_int]
    refine ⟨rfl, ?_⟩
    show CallS _ _ _ _ _
    refine Ret.use (f76 (hE.fr hf) _ _ 16 8 (by rw [str_size]; show 2 ≤ _; decide)) ?_
    rintro v w2 ⟨⟨te, pe, rfl⟩, hf2⟩
    exact ⟨by rw [if_neg hx]; exact ⟨_, _, rfl⟩, hf.trans hf2⟩
theorem plain_iff (x : UInt8) : plain x = true ↔ 33 ≤ x.toNat ∧ x.toNat ≤ 126 ∧ x.toNat ≠ 92 ∧ x.toNat ≠ 35 := by
  have : ∀ c : Fin 256, plain (UInt8.ofNat c.val) = true ↔ 33 ≤ c.val ∧ c.val ≤ 126 ∧ c.val ≠ 92 ∧ c.val ≠ 35 := by decide +kernel
  have := this ⟨x.toNat, x.toNat_lt⟩
  simpa using this
theorem plain_walk {w : World} (x : UInt8) {Q : Value → World → Prop} (h : Q (.bool (plain x)) w) :
    BIf (decide (((x.toNat : Nat) : Int) ≥ (33 : Int))) (BIf (decide (((x.toNat : Nat) : Int) ≤ (126 : Int))) (BIf (((x.toNat : Nat) : Int) != (92 : Int)) (Q (.bool (((x.toNat : Nat) : Int) != (35 : Int))) w) (Q (.bool false) w)) (Q (.bool false) w)) (Q (.bool false) w) := by
  have hi := plain_iff x
  have no : ¬ (33 ≤ x.toNat ∧ x.toNat ≤ 126 ∧ x.toNat ≠ 92 ∧ x.toNat ≠ 35) → Q (.bool false) w := fun hn => by
    rw [show plain x = false by rw [← Bool.not_eq_true, hi]; exact hn] at h; exact h
  refine BIf_cases (fun h1 => BIf_cases (fun h2 => BIf_ne (fun h3 => ?_) (fun h3 => no (by omega))) (fun h2 => no (by omega))) (fun h1 => no (by omega))
  by_cases h4 : x.toNat = 35
  · rw [show (((x.toNat : Nat) : Int) != (35 : Int)) = false by rw [h4]; rfl]; exact no (by omega)
  · rw [show (((x.toNat : Nat) : Int) != (35 : Int)) = true by rw [bne_iff_ne]; omega]
    rw [hi.2 ⟨by omega, by omega, by omega, h4⟩] at h; exact h
theorem f62 {w : World} (x : UInt8) : Ret prog 62 #[.int .u8 (x.toNat : Int)] w fun v w' => v = .bool (plain x) ∧ w' = w := by
  refine F62_of _ _ _ ?_
  exact plain_walk x (Q := fun v w' => v = .bool (plain x) ∧ w' = w) ⟨rfl, rfl⟩
theorem f64 {w : World} (x : UInt8) : Ret prog 64 #[.int .u8 (x.toNat : Int)] w fun v w' => v = .bool (plain x) ∧ w' = w := by
  refine F64_of _ _ _ ?_
  exact plain_walk x (Q := fun v w' => v = .bool (plain x) ∧ w' = w) ⟨rfl, rfl⟩
theorem lit_low : (⟨#[(48 : UInt8), (49 : UInt8), (50 : UInt8), (51 : UInt8), (52 : UInt8), (53 : UInt8), (54 : UInt8), (55 : UInt8), (56 : UInt8), (57 : UInt8), (97 : UInt8), (98 : UInt8), (99 : UInt8), (100 : UInt8), (101 : UInt8), (102 : UInt8)]⟩ : ByteArray) = str low := rfl
theorem lit_upp : (⟨#[(48 : UInt8), (49 : UInt8), (50 : UInt8), (51 : UInt8), (52 : UInt8), (53 : UInt8), (54 : UInt8), (55 : UInt8), (56 : UInt8), (57 : UInt8), (65 : UInt8), (66 : UInt8), (67 : UInt8), (68 : UInt8), (69 : UInt8), (70 : UInt8)]⟩ : ByteArray) = str upp := rfl
theorem low_get {i : Nat} (hi : i < 16) : (str low)[i]? = some (low.getD i 0) := by
  rw [str_get, List.getD_eq_getElem?_getD, List.getElem?_eq_getElem (show i < low.length from hi)]; rfl
theorem upp_get {i : Nat} (hi : i < 16) : (str upp)[i]? = some (upp.getD i 0) := by
  rw [str_get, List.getD_eq_getElem?_getD, List.getElem?_eq_getElem (show i < upp.length from hi)]; rfl
theorem u8_ne {a b : UInt8} : ((a.toNat : Nat) : Int) = ((b.toNat : Nat) : Int) ↔ a = b := by
  rw [Int.ofNat_inj]; exact UInt8.toNat_inj
theorem f65 {w : World} (x : UInt8) : Ret prog 65 #[.int .u8 (x.toNat : Int)] w fun v w' => v = .int .i64 (if worth x < 16 then (worth x : Int) else -1) ∧ w' = w := by
  refine F65_of _ _ _ ?_
  unfold F65
  refine Loop.by (fun s w' => w' = w ∧ ∃ (i : Nat) (m : Int), s = [.int .i64 (i : Nat), .int .i64 m] ∧ i ≤ 16 ∧ ∀ j : Fin 16, j.val < i → low.getD j.val 0 ≠ x ∧ upp.getD j.val 0 ≠ x)
    (fun s _ => match s with | [.int _ i, _] => 16 - i.toNat | _ => 0) ⟨rfl, 0, 0, rfl, by omega, fun j hj => by omega⟩ ?_
  rintro s w1 ⟨hw, i, m, rfl, hi, hn⟩
  obtain rfl := hw.symm
  simp only [UnC_cons, UnN_nil, AsI_int]
  have hx : UInt8.ofNat x.toNat = x := by simp
  refine BIf_cases (fun hlt => ?_) (fun hge => ?_)
  · have hlt' : i < 16 := by omega
    have found : (low.getD i 0 = x ∨ upp.getD i 0 = x) → worth x = i := fun h => by
      have := worth_at ⟨x.toNat, x.toNat_lt⟩ ⟨i, hlt'⟩ (by rw [hx]; exact h) (fun j hj => by rw [hx]; exact hn j hj)
      simp only [hx] at this; exact this
    refine ⟨by omega, _, by rw [Int.toNat_natCast]; exact low_get hlt', ?_⟩
    refine BIf_eq (fun h1 => ?_) (fun h1 => ?_)
    · have := found (.inl (u8_ne.1 h1))
      exact ⟨by rw [this, if_pos hlt'], by trivial⟩
    refine ⟨by omega, _, by rw [Int.toNat_natCast]; exact upp_get hlt', ?_⟩
    refine BIf_eq (fun h2 => ?_) (fun h2 => ?_)
    · have := found (.inr (u8_ne.1 h2))
      exact ⟨by rw [this, if_pos hlt'], by trivial⟩
    rw [w64 (by omega) (by omega)]
    refine ⟨⟨by trivial, i + 1, m, by simp, by omega, fun j hj => ?_⟩, by simp only [Int.toNat_natCast]; omega⟩
    rcases Nat.lt_or_ge j.val i with h | h
    · exact hn j h
    · obtain e : j.val = i := by omega
      rw [e]
      exact ⟨fun h => h1 (u8_ne.2 h), fun h => h2 (u8_ne.2 h)⟩
  · have : worth x = 16 := by
      have := worth_none ⟨x.toNat, x.toNat_lt⟩ (fun j => by simp only [hx]; exact hn j (by omega))
      simpa only [hx] using this
    exact ⟨by rw [this]; rfl, by trivial⟩
theorem f66 {w : World} (n : Nat) (hn : n < 16) : Ret prog 66 #[.int .i64 (n : Int)] w fun v w' => v = .string (str [digit n]) ∧ w' = w := by
  refine F66_of _ _ _ ?_
  unfold F66
  rw [w64 (by omega) (by omega)]
  refine ⟨by omega, by omega, by omega, by omega, ?_, rfl⟩
  congr 1
  rw [show (⟨#[(48 : UInt8), (49 : UInt8), (50 : UInt8), (51 : UInt8), (52 : UInt8), (53 : UInt8), (54 : UInt8), (55 : UInt8), (56 : UInt8), (57 : UInt8), (97 : UInt8), (98 : UInt8), (99 : UInt8), (100 : UInt8), (101 : UInt8), (102 : UInt8)]⟩ : ByteArray) = str low from rfl, str_extract, show ((n : Int) + 1).toNat - (n : Int).toNat = 1 by omega, Int.toNat_natCast]
  congr 1
  have : ∀ n : Fin 16, (low.drop n.val).take 1 = [digit n.val] := by decide
  exact this ⟨n, hn⟩
end Go.Proofs.YthpodlcbikialaaDoor

set_option linter.unusedVariables false
set_option linter.unusedSimpArgs false
set_option maxRecDepth 100000
namespace Go.Sh
variable {P : Program}
/-- append(v, x, y, ..): some elements of one cell each, written out -/
theorem pushN {t e : TypeId} {z : Value} {bytes : Nat} (E : ElemT P t e z 1 bytes) {w : World} {K : Value → World → Prop} {B : Nat}
    {p : Option Addr} {n c : Nat} {xs : List Value} (h : Sl w B e 1 p n c xs) (hB : B ≤ w.heap.size) (vs : List Value) (parts : Array (Nat × Value)) (hparts : parts.toList = (vs.zipIdx 0).map fun x => (x.2, x.1)) (m : Nat) (hm : vs.length = m) (hpos : 0 < m) (hm2 : m ≤ 16777216)
    (hc : (vs.flatMap fun v => v.cells.toList) = vs) (hv : ∀ v ∈ vs, v.cells.size = 1) (h1 : ∀ u ∈ vs, u.oneCell' = true)
    (h63 : n + m ≤ maxLen) (hbytes : (n + m) * bytes ≤ 140737488355328)
    (k : ∀ p' c' w', Sl w' B e 1 p' (n + m) c' (xs ++ vs) → Fr (On p) w w' → (∀ b, On p' b → On p b ∨ w.heap.size ≤ b) → K (.slice p' (n + m) c') w') :
    RunV P (Instr.buildSlice t m parts) w fun v1 w1 => AsSl v1 fun q m d => RunV P (Builtin.append_ #[t, t] t #[.slice p n c, .slice q m d]) w1 K := by
  refine RunV.buildN E vs parts hparts m hm hpos (by omega) hv fun w1 hw1 hf1 hs1 => ?_
  rw [hc] at hw1
  rw [AsSl_slice]
  have hp : ∀ b, On p b → ¬ (fun _ : Nat => False) b := fun _ _ h => h
  refine append_sl E (h.fr hf1 hp) (Nat.le_trans hB hf1.size) (news := vs) (fun j u hj => by rw [Nat.zero_add, hw1.cell]; exact hj) (by rw [Nat.mul_one]; exact hm) h1 h63 hbytes fun p' c' w' h2 hf2 hon => ?_
  refine k p' c' w' h2 ⟨hf2.os.trans hf1.os, hf2.output.trans hf1.output, hf2.tape.trans hf1.tape, Nat.le_trans hf1.size hf2.size, fun b hb hn => (hf2.block b (Nat.lt_of_lt_of_le hb hf1.size) hn).trans (hf1.block b hb fun h => h)⟩ fun b hb => ?_
  rcases hon b hb with h | h
  · exact .inl h
  · exact .inr (by omega)
/-- an owned slice of bytes that grew: what was there of old is as it was -/
theorem Sl.grew {w w1 w2 : World} {e : TypeId} {size n c : Nat} {p : Option Addr} {xs : List Value} (h : Sl w1 w.heap.size e size p n c xs) (f : Fr0 w w1) (g : Fr (On p) w1 w2) : Fr0 w w2 :=
  Fr.own f g fun b hb hlt => absurd (h.lt b hb).1 (by omega)
end Go.Sh
namespace Go.Proofs.YthpodlcbikialaaDoor
open Go Go.Sh Go.Sh.Cb
theorem shr4 (x : UInt8) : shrI .u8 (x.toNat : Int) 4 = ((x.toNat / 16 : Nat) : Int) := by
  have : ∀ c : Fin 256, shrI .u8 (c.val : Int) 4 = ((c.val / 16 : Nat) : Int) := by decide +kernel
  exact this ⟨x.toNat, x.toNat_lt⟩
theorem and15 (x : UInt8) : andI .u8 (x.toNat : Int) 15 = ((x.toNat % 16 : Nat) : Int) := by
  have : ∀ c : Fin 256, andI .u8 (c.val : Int) 15 = ((c.val % 16 : Nat) : Int) := by decide +kernel
  exact this ⟨x.toNat, x.toNat_lt⟩
theorem Rd.byte {w : World} {p : Option Addr} {l : List UInt8} (h : Rd w p (bvs l)) {i n : Nat} (hn : l.length = n) {x : UInt8} (hx : l[i]? = some x) {K : Addr → Int → Prop} (k : ∀ b o, p = some ⟨b, o, none⟩ → w.cell? ⟨b, o + i, none⟩ = some (bv x) → K ⟨b, o, none⟩ (x.toNat : Int)) :
    NilP p fun a => (0 : Int) ≤ (i : Int) ∧ (i : Int) < ((n : Nat) : Int) ∧ Ld w (at0 a ((i : Int).toNat * 1)) fun v => AsI .u8 v fun y => K a y := by
  refine h.ld (i := i) (v := bv x) (by rw [List.getElem?_map, hx]; rfl) fun b o hp hc => ⟨by omega, ?_, ?_⟩
  · have := (List.getElem?_eq_some_iff.1 hx).1; omega
  · rw [at0_mk, Int.toNat_natCast, Nat.mul_one]
    exact ⟨_, hc, AsI_int.2 (k b o hp hc)⟩
/-- the size that keeps a list of bytes in bounds -/
def Small (n : Nat) : Prop := n ≤ 4194304
theorem take_succ' {l : List UInt8} {i : Nat} {x : UInt8} (hx : l[i]? = some x) : shown (l.take (i + 1)) = shown (l.take i) ++ one x := by
  rw [List.take_add_one, hx]; exact shown_snoc _ _
theorem shown_take_len {l : List UInt8} (i : Nat) : (shown (l.take i)).length ≤ 3 * l.length := by
  have := shown_len (l.take i)
  have h2 := List.length_take_le' i l
  omega
theorem f37 {w : World} {b : Option Addr} {n c : Nat} {l : List UInt8} (hR : Rd w b (bvs l)) (hn : l.length = n) (hS : Small n) :
    Ret prog 37 #[.slice b n c] w fun v w' => v = .string (str (shown l)) ∧ Fr0 w w' := by
  unfold Small at hS
  refine F37_of _ _ _ _ _ ?_
  unfold F37
  refine Loop.by (fun s w' => ∃ (i : Nat) (p : Option Addr) (m d : Nat), s = [.int .i64 (i : Nat), .slice p m d] ∧ i ≤ n ∧ m = (shown (l.take i)).length ∧ Sl w' w.heap.size 5 1 p m d (bvs (shown (l.take i))) ∧ Fr0 w w')
    (fun s _ => match s with | [.int _ i, _] => n - i.toNat | _ => 0) ⟨0, none, 0, 0, rfl, by omega, rfl, Sl.nil _ _ _ _, Fr.refl _ _⟩ ?_
  rintro s w1 ⟨i, p, m, d, rfl, hi, hm, hs, hf⟩
  simp only [UnC_cons, UnN_nil, AsI_int, AsSl_slice]
  have hml := shown_take_len (l := l) i
  refine BIf_cases (fun hlt => ?_) (fun hge => ?_)
  · have hlt' : i < n := by omega
    obtain ⟨x, hx⟩ : ∃ x, l[i]? = some x := ⟨_, List.getElem?_eq_getElem (by omega)⟩
    have hxl := x.toNat_lt
    have e1 := take_succ' hx
    have e2 : (shown (l.take (i + 1))).length = m + (one x).length := by rw [e1, List.length_append, hm]
    have hml2 := shown_take_len (l := l) (i + 1)
    refine Join.at (fun s w' => ∃ (p' : Option Addr) (m' d' : Nat), s = [.slice p' m' d'] ∧ m' = (shown (l.take (i + 1))).length ∧ Sl w' w.heap.size 5 1 p' m' d' (bvs (shown (l.take (i + 1)))) ∧ Fr0 w w') ?_ ?_
    · refine Rd.byte (hR.fr0 hf) hn hx fun bb o hp hc => ?_
      refine Ret.use (f62 x) ?_
      rintro v w2 ⟨rfl, hw2⟩
      obtain rfl := hw2.symm
      rw [AsB_bool]
      refine BIf_b (fun hx1 => ?_) (fun hx1 => ?_)
      · have o1 : one x = [x] := by unfold Cb.one; rw [if_pos hx1]
        rw [o1] at e1 e2
        refine push_sl elem66 (by decide) hs hf.size (v := bv x) rfl (fun u hu => by simp [bv, Value.cells] at hu; subst hu; rfl) (by simp only [maxLen]; omega) (by omega) fun p' d' w' h1 h2 h3 => ?_
        rw [AsSl_slice]
        refine ⟨p', m + 1, d', rfl, by rw [e2]; rfl, ?_, hs.grew hf h2⟩
        rw [e1]
        simpa [bv, Value.cells] using h1
      · have o1 : one x = [92, digit (x.toNat / 16), digit (x.toNat % 16)] := by unfold Cb.one; rw [if_neg (by rw [hx1]; exact Bool.false_ne_true)]
        rw [o1] at e1 e2
        rw [shr4, and15]
        refine ⟨by omega, digit (x.toNat / 16), ?_, by omega, digit (x.toNat % 16), ?_, ?_⟩
        · rw [lit_low, Int.toNat_natCast]; exact low_get (by omega)
        · rw [lit_low, Int.toNat_natCast]; exact low_get (by omega)
        refine pushN elem66 (w := w1.drew) (hs.qt (Qt.refl _).drew) hf.drew.size (bvs [92, digit (x.toNat / 16), digit (x.toNat % 16)]) _ rfl 3 rfl (by decide) (by decide) rfl ?_ ?_ (by simp only [maxLen]; omega) (by omega) fun p' d' w' h1 h2 h3 => ?_
        · intro v hv
          obtain ⟨u, _, rfl⟩ := List.mem_map.1 hv; rfl
        · intro v hv
          obtain ⟨u, _, rfl⟩ := List.mem_map.1 hv; rfl
        rw [AsSl_slice]
        refine ⟨p', m + 3, d', rfl, by rw [e2]; rfl, ?_, hs.grew hf h2.of_drew⟩
        rw [e1, bvs, List.map_append]
        exact h1
    · rintro s w' ⟨p', m', d', rfl, hm', hs', hf'⟩
      simp only [UnC_cons, UnN_nil, AsSl_slice]
      rw [w64 (by omega) (by omega)]
      exact ⟨⟨i + 1, p', m', d', by simp, by omega, hm', hs', hf'⟩, by simp only [Int.toNat_natCast]; omega⟩
  · have hin : i = n := by omega
    refine RunV.toStr und66 und5 und9 hs.rd hm.symm ?_
    rw [AsS_string]
    refine ⟨?_, hf⟩
    rw [List.take_of_length_le (by omega)]
end Go.Proofs.YthpodlcbikialaaDoor

set_option linter.unusedVariables false
set_option linter.unusedSimpArgs false
set_option maxRecDepth 100000
namespace Go.Proofs.YthpodlcbikialaaDoor
open Go Go.Sh Go.Sh.Cb
theorem lit_app (l : List UInt8) : (⟨⟨(str l).data.toList ++ [92]⟩⟩ : ByteArray) = str (l ++ [92]) := by
  rw [str_list]; rfl
theorem str_nil : (⟨#[]⟩ : ByteArray) = str [] := rfl
theorem f40 {w : World} {b : Option Addr} {n c : Nat} {l : List UInt8} (hR : Rd w b (bvs l)) (hn : l.length = n) (hnc : n ≤ c) (hS : Small n) :
    Ret prog 40 #[.slice b n c] w fun v w' => v = .string (str (shown l)) ∧ Fr0 w w' := by
  unfold Small at hS
  refine F40_of _ _ _ _ _ ?_
  unfold F40
  refine Loop.by (fun s w' => ∃ (i : Nat), s = [.int .i64 (i : Nat), .string (str (shown (l.take i)))] ∧ i ≤ n ∧ Fr0 w w')
    (fun s _ => match s with | [.int _ i, _] => n - i.toNat | _ => 0) ⟨0, rfl, by omega, Fr.refl _ _⟩ ?_
  rintro s w1 ⟨i, rfl, hi, hf⟩
  simp only [UnC_cons, UnN_nil, AsI_int, AsS_string]
  have hml := shown_take_len (l := l) i
  refine BIf_cases (fun hlt => ?_) (fun hge => ?_)
  · have hlt' : i < n := by omega
    obtain ⟨x, hx⟩ : ∃ x, l[i]? = some x := ⟨_, List.getElem?_eq_getElem (by omega)⟩
    have hxl := x.toNat_lt
    have e1 := take_succ' hx
    have hml2 := shown_take_len (l := l) (i + 1)
    have hmax : IntKind.i64.max = 9223372036854775807 := by decide
    refine Join.at (fun s w' => s = [.string (str (shown (l.take (i + 1))))] ∧ Fr0 w w') ?_ ?_
    · refine Rd.byte (hR.fr0 hf) hn hx fun bb o hp hc => ?_
      refine Ret.use (f64 x) ?_
      rintro v w2 ⟨rfl, hw2⟩
      obtain rfl := hw2.symm
      rw [AsB_bool]
      refine BIf_b (fun hx1 => ?_) (fun hx1 => ?_)
      · have o1 : one x = [x] := by unfold Cb.one; rw [if_pos hx1]
        rw [o1] at e1
        rw [w64 (by omega) (by omega), show ((i : Int) + 1).toNat - (i : Int).toNat = 1 by omega]
        refine ⟨by omega, by omega, by omega, by omega, ?_⟩
        refine RunV.toStr (l := [x]) und66 und5 und9 ?_ rfl ?_
        · intro j v hv
          have hj : j = 0 := by
            have := (List.getElem?_eq_some_iff.1 hv).1; simp at this; omega
          subst hj
          simp at hv; subst hv
          refine ⟨bb, o + i, ?_, hc⟩
          rw [hp]
          unfold slAddr
          rw [if_neg (by omega)]
          simp [at0_mk]
        have hl1 : (shown (l.take (i + 1))).length = (shown (l.take i)).length + 1 := by rw [e1, List.length_append]; rfl
        rw [AsS_string, str_append, ← e1, str_size, str_size]
        refine ⟨?_, by trivial, hf⟩
        rw [hmax]; simp only [List.length_singleton]; omega
      · have o1 : one x = [92, digit (x.toNat / 16), digit (x.toNat % 16)] := by unfold Cb.one; rw [if_neg (by rw [hx1]; exact Bool.false_ne_true)]
        rw [o1] at e1
        have hlen : (shown (l.take (i + 1))).length = (shown (l.take i)).length + 3 := by rw [e1, List.length_append]; rfl
        rw [lit_app]
        simp only [str_size]
        refine ⟨by rw [hmax]; omega, ?_⟩
        refine Rd.byte ((hR.fr0 hf).qt (Qt.refl _).drew) hn hx fun bb o hp hc => ?_
        refine Rd.byte ((hR.fr0 hf).qt (Qt.refl _).drew) hn hx fun bb' o' hp' hc' => ?_
        rw [w64 (n := (x.toNat : Int)) (by omega) (by omega), show ((x.toNat : Int)).tdiv 16 = ((x.toNat / 16 : Nat) : Int) from (Int.ofNat_tdiv _ _).symm, show ((x.toNat : Int)).tmod 16 = ((x.toNat % 16 : Nat) : Int) from (Int.ofNat_tmod _ _).symm, w64 (n := ((x.toNat / 16 : Nat) : Int)) (by omega) (by omega)]
        refine Ret.use (f66 _ (by omega)) ?_
        rintro v w3 ⟨rfl, hw3⟩
        obtain rfl := hw3.symm
        rw [AsS_string]
        simp only [str_append, str_size]
        refine ⟨?_, by rw [hmax]; simp; omega, ?_⟩
        · rw [at0_mk, Int.toNat_natCast, Nat.mul_one]; exact hc'
        refine Ret.use (f66 _ (by omega)) ?_
        rintro v w4 ⟨rfl, hw4⟩
        obtain rfl := hw4.symm
        rw [AsS_string]
        simp only [str_append, str_size]
        refine ⟨by rw [hmax]; simp; omega, ?_, hf.drew⟩
        rw [e1]
        simp
    · rintro s w' ⟨rfl, hf'⟩
      simp only [UnC_cons, UnN_nil, AsS_string]
      rw [w64 (by omega) (by omega)]
      exact ⟨⟨i + 1, by simp, by omega, hf'⟩, by simp only [Int.toNat_natCast]; omega⟩
  · have hin : i = n := by omega
    refine ⟨?_, hf⟩
    rw [List.take_of_length_le (by omega)]
end Go.Proofs.YthpodlcbikialaaDoor

set_option linter.unusedVariables false
set_option linter.unusedSimpArgs false
set_option maxRecDepth 100000
namespace Go.Proofs.YthpodlcbikialaaDoor
open Go Go.Sh Go.Sh.Cb
/-- what Hide answers -/
def RHide (l : List UInt8) (w : World) (v : Value) (w' : World) : Prop := ∃ p n c, v = .tuple #[.slice p n c, .bool (hidden l).isSome] ∧ Rd w' p (bvs ((hidden l).getD [])) ∧ ((hidden l).getD []).length = n ∧ Fr0 w w'
theorem RHide.bad {l : List UInt8} {w w' : World} (h : hidden l = none) (f : Fr0 w w') : RHide l w (Value.tuple #[Value.slice none (0 : Nat) (0 : Nat), .bool false]) w' :=
  ⟨none, 0, 0, by rw [h]; rfl, by rw [h]; exact Rd.nil _ _, by rw [h]; rfl, f⟩
theorem RHide.ok {l out : List UInt8} {w w' : World} {p : Option Addr} {n c : Nat} (h : hidden l = some out) (hR : Rd w' p (bvs out)) (hn : out.length = n) (f : Fr0 w w') : RHide l w (Value.tuple #[Value.slice p n c, .bool true]) w' :=
  ⟨p, n, c, by rw [h]; rfl, by rw [h]; exact hR, by rw [h]; exact hn, f⟩
theorem hidden_len (l : List UInt8) : ∀ out, hidden l = some out → out.length ≤ l.length := by
  induction l using hidden.induct with
  | case1 => intro out h; simp [hidden] at h; subst h; simp
  | case2 x r hx ih =>
    intro out h
    rw [hidden_plain hx] at h
    obtain ⟨o, ho, rfl⟩ := Option.map_eq_some_iff.1 h
    have := ih o ho
    simp; omega
  | case3 x r hx h2 => intro out h; rw [hidden_bad (by simpa using hx) (by simpa using h2)] at h; cases h
  | case4 x hx h2 a b t hw ih =>
    intro out h
    obtain rfl : x = 92 := by simpa using h2
    rw [hidden_hex, if_pos hw] at h
    obtain ⟨o, ho, rfl⟩ := Option.map_eq_some_iff.1 h
    have := ih o ho
    simp; omega
  | case5 x hx h2 a b t hw =>
    intro out h
    obtain rfl : x = 92 := by simpa using h2
    rw [hidden_hex, if_neg hw] at h; cases h
  | case6 x r hx h2 hr =>
    intro out h
    obtain rfl : x = 92 := by simpa using h2
    rw [hidden_short (by rcases r with _ | ⟨a, _ | ⟨b, t⟩⟩ <;> simp <;> exact absurd rfl (hr _ _ _))] at h; cases h
theorem f38 {w : World} {l : List UInt8} (hS : Small l.length) (hE : Es w) : Ret prog 38 #[.string (str l)] w (RHide l w) := by
  unfold Small at hS
  refine F38_of _ _ _ ?_
  unfold F38
  refine Loop.by (fun s w' => ∃ (acc rest : List UInt8) (p : Option Addr) (d : Nat) (x : Bool) (q : Option Addr) (qn qc : Nat), s = [.slice p acc.length d, .bool x, .slice q qn qc, .string (str rest)] ∧ acc.length + rest.length ≤ l.length ∧ hidden l = (hidden rest).map (acc ++ ·) ∧ Sl w' w.heap.size 5 1 p acc.length d (bvs acc) ∧ Fr0 w w')
    (fun s _ => match s with | [_, _, _, .string t] => t.size | _ => 0) ⟨[], l, none, 0, _, _, _, _, rfl, by simp, by simp, Sl.nil _ _ _ _, Fr.refl _ _⟩ ?_
  rintro s w1 ⟨acc, rest, p, d, x, q, qn, qc, rfl, hlen, hh, hs, hf⟩
  simp only [UnC_cons, UnN_nil, AsSl_slice, AsB_bool, AsS_string, str_size]
  refine BIf_cases (fun hlt => ?_) (fun hge => ?_)
  · obtain ⟨y, r, rfl⟩ : ∃ y r, rest = y :: r := by
      cases rest with
      | nil => simp at hlt
      | cons y r => exact ⟨y, r, rfl⟩
    have hg : (str (y :: r))[(0 : Nat)]? = some y := by rw [str_get]; rfl
    refine ⟨by omega, y, hg, ?_⟩
    refine Ret.use (f62 y) ?_
    rintro v w2 ⟨rfl, hw2⟩
    obtain rfl := hw2.symm
    rw [AsB_bool]
    refine BIf_b (fun hy => ?_) (fun hy => ?_)
    · refine ⟨by omega, y, hg, ?_⟩
      refine push_sl elem66 (by decide) hs hf.size (v := bv y) rfl (fun u hu => by simp [bv, Value.cells] at hu; subst hu; rfl) (by simp only [maxLen]; simp at hlen; omega) (by simp at hlen; omega) fun p' d' w' h1 h2 h3 => ?_
      rw [AsSl_slice]
      refine ⟨by omega, by simp; omega, ⟨acc ++ [y], r, p', d', x, q, qn, qc, ?_, ?_, ?_, ?_, hs.grew hf h2⟩, ?_⟩
      · rw [str_extract]; simp
      · simp at hlen ⊢; omega
      · rw [hh, hidden_plain hy, Option.map_map]
        congr 1; funext z; simp
      · simpa [bv, Value.cells] using h1
      · rw [str_extract, str_size]; simp
    · refine ⟨by omega, y, hg, ?_⟩
      refine BIf_ne (fun hne => ?_) (fun heq => ?_)
      · refine RHide.bad ?_ hf
        rw [hh, hidden_bad hy (fun h => hne (by rw [h]; rfl))]; rfl
      · obtain rfl : y = 92 := u8_ne.1 heq
        refine BIf_cases (fun hsh => ?_) (fun hsh => ?_)
        · refine RHide.bad ?_ hf
          rw [hh, hidden_short (by simp at hsh; omega)]; rfl
        · obtain ⟨a, b, t, rfl⟩ : ∃ a b t, r = a :: b :: t := by
            rcases r with _ | ⟨a, _ | ⟨b, t⟩⟩
            · simp at hsh
            · simp at hsh
            · exact ⟨a, b, t, rfl⟩
          refine ⟨by omega, by simp; omega, by omega, by omega, ?_⟩
          rw [str_extract, show ((((92 : UInt8) :: a :: b :: t).drop 1).take (3 - 1)) = [a, b] from rfl]
          refine Ret.use (f63 (hE.fr hf) a b) ?_
          rintro v w3 ⟨hv, hf3⟩
          by_cases hx : hexOk a b
          · rw [if_pos hx] at hv
            subst hv
            simp only [AsTup_tuple, UnC_cons, UnN_nil, AsI_int]
            refine ⟨rfl, ?_⟩
            show RunV _ _ _ _
            have hu : IntKind.u8.wrap ((16 * worth a + worth b : Nat) : Int) = ((UInt8.ofNat (16 * worth a + worth b)).toNat : Int) := by
              have h1 := hx.1
              have h2 := hx.2
              rw [wu8 (by omega) (by omega), UInt8.toNat_ofNat_of_lt' (by show _ < 256; omega)]
            rw [hu]
            refine push_sl elem66 (by decide) (hs.fr0 hf3) (hf.trans hf3).size (v := bv (UInt8.ofNat (16 * worth a + worth b))) rfl (fun u hu => by simp [bv, Value.cells] at hu; subst hu; rfl) (by simp only [maxLen]; simp at hlen; omega) (by simp at hlen; omega) fun p' d' w' h1 h2 h3 => ?_
            rw [AsSl_slice]
            refine ⟨by omega, by simp; omega, ⟨acc ++ [UInt8.ofNat (16 * worth a + worth b)], t, p', d', x, q, qn, qc, ?_, ?_, ?_, ?_, (hs.fr0 hf3).grew (hf.trans hf3) h2⟩, ?_⟩
            · rw [str_extract]; simp
            · simp at hlen ⊢; omega
            · rw [hh, hidden_hex, if_pos ⟨hx.1, hx.2⟩, Option.map_map]
              congr 1; funext z; simp
            · simpa [bv, Value.cells] using h1
            · rw [str_extract, str_size]; simp; omega
          · rw [if_neg hx] at hv
            obtain ⟨te, pe, rfl⟩ := hv
            simp only [AsTup_tuple, UnC_cons, UnN_nil, AsI_int]
            refine ⟨rfl, ?_⟩
            show RHide _ _ _ _
            refine RHide.bad ?_ (hf.trans hf3)
            rw [hh, hidden_hex, if_neg (show ¬ (worth a < 16 ∧ worth b < 16) from hx)]; rfl
  · obtain rfl : rest = [] := by
      cases rest with
      | nil => rfl
      | cons y r => exact absurd (by simp) hge
    exact RHide.ok (by rw [hh]; simp [hidden]) hs.rd rfl hf
end Go.Proofs.YthpodlcbikialaaDoor

set_option linter.unusedVariables false
set_option linter.unusedSimpArgs false
set_option maxRecDepth 100000
namespace Go.Proofs.YthpodlcbikialaaDoor
open Go Go.Sh Go.Sh.Cb
theorem str_at {l : List UInt8} {i : Nat} {y : UInt8} {r : List UInt8} (h : l.drop i = y :: r) : (str l)[i]? = some y := by
  rw [str_get, ← Nat.add_zero i, ← List.getElem?_drop, h]; rfl
theorem drop_len {l : List UInt8} {i : Nat} {y : UInt8} {r : List UInt8} (h : l.drop i = y :: r) : l.length = i + (r.length + 1) ∧ l.drop (i + 1) = r := by
  have h1 := congrArg List.length h
  have h2 := congrArg (List.drop 1) h
  rw [List.drop_drop] at h2
  simp at h1
  exact ⟨by omega, h2⟩
theorem f39 {w : World} {l : List UInt8} (hS : Small l.length) : Ret prog 39 #[.string (str l)] w (RHide l w) := by
  unfold Small at hS
  refine F39_of _ _ _ ?_
  unfold F39
  refine Loop.by (fun s w' => ∃ (i : Nat) (acc rest : List UInt8) (p : Option Addr) (d : Nat) (x : Bool) (q : Option Addr) (qn qc : Nat), s = [.int .i64 (i : Nat), .slice p acc.length d, .bool x, .slice q qn qc] ∧ i ≤ l.length ∧ rest = l.drop i ∧ acc.length ≤ i ∧ hidden l = (hidden rest).map (acc ++ ·) ∧ Sl w' w.heap.size 5 1 p acc.length d (bvs acc) ∧ Fr0 w w')
    (fun s _ => match s with | [.int _ i, _, _, _] => l.length - i.toNat | _ => 0) ⟨0, [], l, none, 0, _, _, _, _, rfl, by simp, by simp, by simp, by simp, Sl.nil _ _ _ _, Fr.refl _ _⟩ ?_
  rintro s w1 ⟨i, acc, rest, p, d, x, q, qn, qc, rfl, hi, hrest, hlen, hh, hs, hf⟩
  simp only [UnC_cons, UnN_nil, AsI_int, AsSl_slice, AsB_bool, str_size]
  refine BIf_cases (fun hlt => ?_) (fun hge => ?_)
  · obtain ⟨y, r, hr⟩ : ∃ y r, l.drop i = y :: r := by
      cases hd : l.drop i with
      | nil => rw [List.drop_eq_nil_iff] at hd; omega
      | cons y r => exact ⟨y, r, rfl⟩
    rw [hr] at hrest
    subst hrest
    obtain ⟨hll, hr1⟩ := drop_len hr
    refine Join.at (fun s w' => ∃ (k : Nat) (acc rest : List UInt8) (p : Option Addr) (d : Nat) (x : Bool) (q : Option Addr) (qn qc : Nat), s = [.int .i64 (k : Nat), .slice p acc.length d, .bool x, .slice q qn qc] ∧ i ≤ k ∧ k + 1 ≤ l.length ∧ rest = l.drop (k + 1) ∧ acc.length ≤ k + 1 ∧ hidden l = (hidden rest).map (acc ++ ·) ∧ Sl w' w.heap.size 5 1 p acc.length d (bvs acc) ∧ Fr0 w w') ?_ ?_
    · have hg : (str l)[(i : Int).toNat]? = some y := by rw [Int.toNat_natCast]; exact str_at hr
      refine ⟨by omega, y, hg, ?_⟩
      refine BIf_ne (fun hne => ?_) (fun heq => ?_)
      · have hy92 : y ≠ 92 := fun h => hne (by rw [h]; rfl)
        refine ⟨by omega, y, hg, ?_⟩
        refine Ret.use (f64 y) ?_
        rintro v w2 ⟨rfl, hw2⟩
        obtain rfl := hw2.symm
        rw [AsB_bool, BIf_not]
        refine BIf_b (fun hy => ?_) (fun hy => ?_)
        · refine ⟨by omega, y, hg, ?_⟩
          refine push_sl elem66 (by decide) hs hf.size (v := bv y) rfl (fun u hu => by simp [bv, Value.cells] at hu; subst hu; rfl) (by simp only [maxLen]; omega) (by omega) fun p' d' w' h1 h2 h3 => ?_
          rw [AsSl_slice]
          refine ⟨i, acc ++ [y], r, p', d', x, q, qn, qc, ?_, by omega, by omega, hr1.symm, by simp; omega, ?_, ?_, hs.grew hf h2⟩
          · simp
          · rw [hh, hidden_plain hy, Option.map_map]
            congr 1; funext z; simp
          · simpa [bv, Value.cells] using h1
        · refine RHide.bad ?_ hf
          rw [hh, hidden_bad hy hy92]; rfl
      · obtain rfl : y = 92 := u8_ne.1 heq
        rw [w64 (n := (i : Int) + 2) (by omega) (by omega), w64 (n := (i : Int) + 1) (by omega) (by omega)]
        refine BIf_cases (fun hsh => ?_) (fun hsh => ?_)
        · refine RHide.bad ?_ hf
          rw [hh, hidden_short (by omega)]; rfl
        · obtain ⟨a, b, t, rfl⟩ : ∃ a b t, r = a :: b :: t := by
            rcases r with _ | ⟨a, _ | ⟨b, t⟩⟩
            · simp at hll; omega
            · simp at hll; omega
            · exact ⟨a, b, t, rfl⟩
          obtain ⟨_, hr2⟩ := drop_len hr1
          obtain ⟨_, hr3⟩ := drop_len hr2
          simp only [List.length_cons] at hll
          have hg1 : (str l)[((i : Int) + 1).toNat]? = some a := by rw [show ((i : Int) + 1).toNat = i + 1 by omega]; exact str_at hr1
          have hg2 : (str l)[((i : Int) + 2).toNat]? = some b := by rw [show ((i : Int) + 2).toNat = i + 1 + 1 by omega]; exact str_at hr2
          have hbad : ¬ (worth a < 16 ∧ worth b < 16) → hidden l = none := fun h => by rw [hh, hidden_hex, if_neg h]; rfl
          refine ⟨by omega, a, hg1, ?_⟩
          refine Ret.use (f65 a) ?_
          rintro v w2 ⟨rfl, hw2⟩
          obtain rfl := hw2.symm
          rw [AsI_int]
          by_cases ha : worth a < 16
          · rw [if_pos ha]
            refine BIf_neg (by omega) ?_
            refine ⟨by omega, b, hg2, ?_⟩
            refine Ret.use (f65 b) ?_
            rintro v w2 ⟨rfl, hw2⟩
            obtain rfl := hw2.symm
            rw [AsI_int]
            by_cases hb : worth b < 16
            · rw [if_pos hb]
              refine BIf_neg (by omega) ?_
              refine ⟨by omega, a, hg1, by omega, b, hg2, ?_⟩
              refine Ret.use (f65 a) ?_
              rintro v w2 ⟨rfl, hw2⟩
              obtain rfl := hw2.symm
              rw [AsI_int, if_pos ha]
              refine Ret.use (f65 b) ?_
              rintro v w2 ⟨rfl, hw2⟩
              obtain rfl := hw2.symm
              rw [AsI_int, if_pos hb]
              have hu : IntKind.u8.wrap (IntKind.i64.wrap (IntKind.i64.wrap ((16 : Int) * (worth a : Nat)) + (worth b : Nat))) = ((UInt8.ofNat (16 * worth a + worth b)).toNat : Int) := by
                rw [w64 (n := 16 * ((worth a : Nat) : Int)) (by omega) (by omega), w64 (by omega) (by omega), wu8 (by omega) (by omega), UInt8.toNat_ofNat_of_lt' (by show _ < 256; omega)]; omega
              rw [hu]
              refine push_sl elem66 (by decide) (hs.qt (Qt.refl _).drew) hf.drew.size (v := bv (UInt8.ofNat (16 * worth a + worth b))) rfl (fun u hu => by simp [bv, Value.cells] at hu; subst hu; rfl) (by simp only [maxLen]; omega) (by omega) fun p' d' w' h1 h2 h3 => ?_
              rw [AsSl_slice]
              refine ⟨i + 2, acc ++ [UInt8.ofNat (16 * worth a + worth b)], t, p', d', x, q, qn, qc, ?_, by omega, by omega, hr3.symm, by simp; omega, ?_, ?_, hs.grew hf h2.of_drew⟩
              · simp
              · rw [hh, hidden_hex, if_pos ⟨ha, hb⟩, Option.map_map]
                congr 1; funext z; simp
              · simpa [bv, Value.cells] using h1
            · rw [if_neg hb]
              exact BIf_pos (by decide) (RHide.bad (hbad fun h => hb h.2) hf)
          · rw [if_neg ha]
            exact BIf_pos (by decide) (RHide.bad (hbad fun h => ha h.1) hf)
    · rintro s w' ⟨k, acc', rest', p', d', x', q', qn', qc', rfl, hik, hk, hr', hl', hh', hs', hf'⟩
      simp only [UnC_cons, UnN_nil, AsI_int, AsSl_slice, AsB_bool]
      rw [w64 (by omega) (by omega)]
      exact ⟨⟨k + 1, acc', rest', p', d', x', q', qn', qc', by simp, by omega, hr', hl', hh', hs', hf'⟩, by simp only [Int.toNat_natCast]; omega⟩
  · obtain rfl : rest = [] := by rw [hrest, List.drop_eq_nil_iff]; omega
    exact RHide.ok (by rw [hh]; simp [hidden]) hs.rd rfl hf
/-- the bytes behind a Hide, told as text -/
theorem f10 {w : World} (hE : Es w) {b : Option Addr} {n c : Nat} {l t : List UInt8} (hR : Rd w b (bvs l)) (hn : l.length = n) (hnc : n ≤ c) (hb : b = none → c = 0) (hS : n ≤ 1048576) (ht : t.length ≤ 1048576) :
    Ret prog 10 #[.slice b n c, .string (str t)] w fun v w' => v = .bool true ∧ Fr0 w w' := by
  refine F10_of _ _ _ _ _ _ ?_
  unfold F10
  have hml := shown_len l
  refine RunV.build0 elem66 w.heap.size (Nat.le_refl _) fun p w1 h1 hf1 hon => ?_
  rw [AsSl_slice]
  refine append_rd elem66 h1 hf1.size (hR.fr0 hf1) (by simp; exact hn) hb (fun u hu => ?_) (by simp only [maxLen]; omega) (by omega) fun p2 c2 w2 h2 hf2 hon2 => ?_
  · obtain ⟨x, _, rfl⟩ := List.mem_map.1 hu; rfl
  have hF2 : Fr0 w w2 := h1.grew hf1 hf2
  rw [AsSl_slice]
  simp only [Nat.zero_add, List.nil_append] at h2 ⊢
  refine Ret.use (f37 h2.rd hn (by unfold Small; omega)) ?_
  rintro v w3 ⟨rfl, hf3⟩
  rw [AsS_string]
  have hF3 := hF2.trans hf3
  refine Ret.use (f38 (by unfold Small; omega) (hE.fr hF3)) ?_
  rintro v w4 ⟨py, ny, cy, rfl, hRy, hny, hf4⟩
  simp only [AsTup_tuple, UnC_cons, UnN_nil, AsSl_slice, AsB_bool]
  have hF4 := hF3.trans hf4
  refine Ret.use (f39 (by unfold Small; omega)) ?_
  rintro v w5 ⟨pz, nz, cz, rfl, hRz, hnz, hf5⟩
  simp only [AsTup_tuple, UnC_cons, UnN_nil, AsSl_slice, AsB_bool]
  have hF5 := hF4.trans hf5
  refine Ret.use (f38 (by unfold Small; omega) (hE.fr hF5)) ?_
  rintro v w6 ⟨pk, nk, ck, rfl, hRk, hnk, hf6⟩
  simp only [AsTup_tuple, UnC_cons, UnN_nil, AsSl_slice, AsB_bool]
  have hF6 := hF5.trans hf6
  rw [hidden_shown] at hRk hnk ⊢
  simp only [Option.getD_some, Option.isSome_some] at hRk hnk ⊢
  refine Ret.use (f40 (hR.fr0 hF6) hn hnc (by unfold Small; omega)) ?_
  rintro v w7 ⟨rfl, hf7⟩
  rw [AsS_string, beq_self_eq_true, BIf_true]
  have hF7 := hF6.trans hf7
  refine RunV.toStr und66 und5 und9 (((hRy.fr0 hf5).fr0 hf6).fr0 hf7) hny ?_
  rw [AsS_string]
  refine RunV.toStr und66 und5 und9 ((hRz.fr0 hf6).fr0 hf7) hnz ?_
  rw [AsS_string, beq_self_eq_true, BIf_true, beq_self_eq_true, BIf_true, BIf_true]
  refine RunV.toStr und66 und5 und9 (hRk.fr0 hf7) hnk ?_
  rw [AsS_string]
  refine RunV.toStr und66 und5 und9 (hR.fr0 hF7) hn ?_
  rw [AsS_string, beq_self_eq_true]
  exact ⟨rfl, hF7⟩
end Go.Proofs.YthpodlcbikialaaDoor
