import Derived.Test.YthpodlcbikialaaDoorC3
import Derived.Test.YthpodlcbikialaaDoorFrPure5
set_option linter.unusedVariables false
set_option linter.unusedSimpArgs false
namespace Go.Proofs.YthpodlcbikialaaDoor
open Go Go.Sh Go.Fr

/-- an op of the script, read whole -/
theorem ScrAt.use {w : World} {q : Option Addr} {n : Nat} {l : List Op5} (h : ScrAt w q n l) {i : Nat} {o : Op5} (ho : l[i]? = some o) {K : Int → Int → Int → Int → Int → Prop} (k : K o.k o.f o.n o.al o.y) :
    NilP q fun a => (0 : Int) ≤ (i : Int) ∧ (i : Int) < (n : Int) ∧ Ld w (at0 a ((i : Int).toNat * 5)) fun v => AsI .i64 v fun x0 => Ld w (at0 (at0 a ((i : Int).toNat * 5)) 1) fun v => AsI .i64 v fun x1 =>
      Ld w (at0 (at0 a ((i : Int).toNat * 5)) 2) fun v => AsI .i64 v fun x2 => Ld w (at0 (at0 a ((i : Int).toNat * 5)) 3) fun v => AsI .i64 v fun x3 => Ld w (at0 (at0 a ((i : Int).toNat * 5)) 4) fun v => AsI .i64 v fun x4 => K x0 x1 x2 x3 x4 := by
  have hil := (List.getElem?_eq_some_iff.1 ho).1
  have hn := h.len
  refine h.get ho fun sb so hq hc => ?_
  simp only [at0_mk, Int.toNat_natCast]
  refine ⟨by omega, by omega, ?_⟩
  refine Ld.of (hc 0 _ (by decide) rfl) ?_
  rw [AsI_int]
  refine Ld.of (hc 1 _ (by decide) rfl) ?_
  rw [AsI_int]
  refine Ld.of (hc 2 _ (by decide) rfl) ?_
  rw [AsI_int]
  refine Ld.of (hc 3 _ (by decide) rfl) ?_
  rw [AsI_int]
  refine Ld.of (hc 4 _ (by decide) rfl) ?_
  rw [AsI_int]
  exact k
/-- a slice of runs that may be read -/
structure RunsAt (w : World) (q : Option Addr) (n first : Nat) (R : List (Nat × Nat)) : Prop where
  rd : Rd w q (runCells first R)
  len : R.length = n
theorem RunsAt.qt {w w' : World} {q : Option Addr} {n first : Nat} {R : List (Nat × Nat)} (h : RunsAt w q n first R) (f : Qt w w') : RunsAt w' q n first R := ⟨h.rd.qt f, h.len⟩
theorem RunsAt.get0 {w : World} {q : Option Addr} {n first : Nat} {R : List (Nat × Nat)} (h : RunsAt w q n first R) {i : Nat} {r : Nat × Nat} (hi : R[i]? = some r) {K : Int → Prop} (k : K ((first + r.1 : Nat) : Int)) :
    NilP q fun a => (0 : Int) ≤ (i : Int) ∧ (i : Int) < (n : Int) ∧ Ld w (at0 (at0 a ((i : Int).toNat * 2)) 0) fun v => AsI .i64 v K := by
  have hil := (List.getElem?_eq_some_iff.1 hi).1
  have hn := h.len
  have hg := flat_get (g := fun r : Nat × Nat => [Value.int .i64 ((first + r.1 : Nat) : Int), .int .i64 ((r.2 : Nat) : Int)]) (size := 2) (fun _ => rfl) R i 0 (by decide) r hi
  refine h.rd.ld hg fun b o _ hc => ?_
  refine ⟨by omega, by omega, ?_⟩
  rw [at0_mk, at0_mk, Int.toNat_natCast, Nat.add_assoc]
  exact Ld.of hc (AsI_int.2 k)
theorem RunsAt.get1 {w : World} {q : Option Addr} {n first : Nat} {R : List (Nat × Nat)} (h : RunsAt w q n first R) {i : Nat} {r : Nat × Nat} (hi : R[i]? = some r) {K : Int → Prop} (k : K ((r.2 : Nat) : Int)) :
    NilP q fun a => (0 : Int) ≤ (i : Int) ∧ (i : Int) < (n : Int) ∧ Ld w (at0 (at0 a ((i : Int).toNat * 2)) 1) fun v => AsI .i64 v K := by
  have hil := (List.getElem?_eq_some_iff.1 hi).1
  have hn := h.len
  have hg := flat_get (g := fun r : Nat × Nat => [Value.int .i64 ((first + r.1 : Nat) : Int), .int .i64 ((r.2 : Nat) : Int)]) (size := 2) (fun _ => rfl) R i 1 (by decide) r hi
  refine h.rd.ld hg fun b o _ hc => ?_
  refine ⟨by omega, by omega, ?_⟩
  rw [at0_mk, at0_mk, Int.toNat_natCast, Nat.add_assoc]
  exact Ld.of hc (AsI_int.2 k)
theorem S58 : StructT prog 58 (prog.fieldsOf 58) := ⟨by kernel_rfl, by kernel_rfl, by kernel_rfl⟩
theorem fs58 : (prog.fieldsOf 58).toList.map (fun f => (f.name != "_" && prog.plainKey f.type, f.type, f.offset)) = [(true, 3, 0), (true, 3, 1)] := by kernel_rfl
theorem und3' : prog.underlying 3 = some (.int .i64) := by kernel_rfl
theorem fs58_mem {f : Field} (hf : f ∈ (prog.fieldsOf 58).toList) : f.name ≠ "_" ∧ prog.plainKey f.type = true ∧ f.type = 3 ∧ (f.offset = 0 ∨ f.offset = 1) := by
  have h := List.mem_map_of_mem (f := fun f : Field => (f.name != "_" && prog.plainKey f.type, f.type, f.offset)) hf
  rw [fs58] at h
  simp only [List.mem_cons, Prod.mk.injEq, List.not_mem_nil, or_false, Bool.and_eq_true, bne_iff_ne] at h
  rcases h with ⟨⟨h1, h2⟩, h3, h4⟩ | ⟨⟨h1, h2⟩, h3, h4⟩
  · exact ⟨h1, h2, h3, .inl h4⟩
  · exact ⟨h1, h2, h3, .inr h4⟩
theorem fs58_has {j : Nat} (hj : j < 2) : ∃ f ∈ (prog.fieldsOf 58).toList, f.offset = j := by
  have h : (true, 3, j) ∈ (prog.fieldsOf 58).toList.map (fun f => (f.name != "_" && prog.plainKey f.type, f.type, f.offset)) := by
    rw [fs58]
    rcases j with _ | _ | j
    · simp
    · simp
    · omega
  obtain ⟨f, hf, e⟩ := List.mem_map.1 h
  exact ⟨f, hf, by injection e with _ e; injection e⟩
theorem pair_fits (a b c d : Int) : ∀ f ∈ (prog.fieldsOf 58).toList, f.name ≠ "_" ∧ prog.plainKey f.type = true ∧ ∃ x y, (#[Value.int .i64 a, .int .i64 b])[f.offset]? = some x ∧ (#[Value.int .i64 c, .int .i64 d])[f.offset]? = some y ∧ LeafT.Fits prog f.type x y := by
  intro f hf
  obtain ⟨h1, h2, h3, h4⟩ := fs58_mem hf
  refine ⟨h1, h2, ?_⟩
  rw [h3]
  rcases h4 with h | h <;> rw [h]
  · exact ⟨_, _, rfl, rfl, .inl ⟨_, _, _, _, und3', rfl, rfl⟩⟩
  · exact ⟨_, _, rfl, rfl, .inl ⟨_, _, _, _, und3', rfl, rfl⟩⟩
theorem pair_iff (a b c d : Int) : (∀ f ∈ (prog.fieldsOf 58).toList, (#[Value.int .i64 a, .int .i64 b])[f.offset]? = (#[Value.int .i64 c, .int .i64 d])[f.offset]?) ↔ a = c ∧ b = d := by
  constructor
  · intro h
    obtain ⟨f, hf, e⟩ := fs58_has (j := 0) (by decide)
    have h0 := h f hf
    obtain ⟨f', hf', e'⟩ := fs58_has (j := 1) (by decide)
    have h1 := h f' hf'
    rw [e] at h0; rw [e'] at h1
    simp at h0 h1
    exact ⟨h0, h1⟩
  · rintro ⟨rfl, rfl⟩ f _; rfl
/-- '==' on two runs -/
theorem eql58 {x y : Operand} (a b c d : Int) {K : Value → Prop} (k : ∀ r : Bool, (r = true ↔ a = c ∧ b = d) → K (.bool r)) : RunP prog (binSem .eql 58 x y (.agg #[.int .i64 a, .int .i64 b]) (.agg #[.int .i64 c, .int .i64 d])) K :=
  RunP.eqlStruct S58 (pair_fits a b c d) fun r hr => k r (hr.trans (pair_iff a b c d))
theorem neq58 {x y : Operand} (a b c d : Int) {K : Value → Prop} (k : ∀ r : Bool, (r = true ↔ a = c ∧ b = d) → K (.bool (!r))) : RunP prog (binSem .neq 58 x y (.agg #[.int .i64 a, .int .i64 b]) (.agg #[.int .i64 c, .int .i64 d])) K :=
  RunP.neqStruct S58 (pair_fits a b c d) fun r hr => k r (hr.trans (pair_iff a b c d))
theorem getD_nat {u : List Nat} {i : Nat} (h : i < u.length) : (u.map fun n : Nat => (n : Int))[i]? = some ((u.getD i 0 : Nat) : Int) := by
  rw [List.getElem?_map, List.getElem?_eq_getElem h, getD_get h]; rfl

def F6tail (p82 : Option Addr) (n83 : Nat) (p47 : Option Addr) (n48 : Nat) (i9 i12 i90 i93 : Int) (b99 : Bool) (w87 : World) (J85 : List Value → World → Prop) (Q : Value → World → Prop) : Prop :=
  NilP p82 fun a145 => (0 : Int) ≤ i90 ∧ i90 < (↑n83 : Int) ∧ Ld w87.drew (at0 (at0 a145 (i90.toNat * (2 : Nat))) (0 : Nat)) fun v146 => AsI IntKind.i64 v146 fun i147 => NilP p82 fun a148 => (0 : Int) ≤ i90 ∧ i90 < (↑n83 : Int) ∧ Ld w87.drew (at0 (at0 a148 (i90.toNat * (2 : Nat))) (1 : Nat)) fun v149 => AsI IntKind.i64 v149 fun i150 => BIf (decide (IntKind.i64.wrap (i147 + i150) > IntKind.i64.wrap (i9 + i12))) (Q (.bool false) w87.drew) (NilP p82 fun a151 => (0 : Int) ≤ i90 ∧ i90 < (↑n83 : Int) ∧ Ld w87.drew (at0 (at0 a151 (i90.toNat * (2 : Nat))) (0 : Nat)) fun v152 => AsI IntKind.i64 v152 fun i153 => Sh.Loop [.int .i64 i153, .bool b99] w87.drew fun J154 s155 w156 => UnC s155 fun v157 s158 => AsI IntKind.i64 v157 fun i159 => UnC s158 fun v160 s161 => AsB v160 fun b162 => UnN s161 (NilP p82 fun a163 => (0 : Int) ≤ i90 ∧ i90 < (↑n83 : Int) ∧ Ld w156.drew (at0 (at0 a163 (i90.toNat * (2 : Nat))) (0 : Nat)) fun v164 => AsI IntKind.i64 v164 fun i165 => NilP p82 fun a166 => (0 : Int) ≤ i90 ∧ i90 < (↑n83 : Int) ∧ Ld w156.drew (at0 (at0 a166 (i90.toNat * (2 : Nat))) (1 : Nat)) fun v167 => AsI IntKind.i64 v167 fun i168 => BIf (decide (i159 < IntKind.i64.wrap (i165 + i168))) (NilP p47 fun a169 => (0 : Int) ≤ IntKind.i64.wrap (i159 - i9) ∧ IntKind.i64.wrap (i159 - i9) < (↑n48 : Int) ∧ Ld w156.drew (at0 a169 ((IntKind.i64.wrap (i159 - i9)).toNat * (1 : Nat))) fun v170 => AsI IntKind.i64 v170 fun i171 => BIf (i171 != (0 : Int)) (Q (.bool false) w156.drew) (J154 [.int .i64 (IntKind.i64.wrap (i159 + (1 : Int))), .bool b162] w156.drew)) (NilP p82 fun a172 => (0 : Int) ≤ i90 ∧ i90 < (↑n83 : Int) ∧ Ld w156.drew.drew (at0 (at0 a172 (i90.toNat * (2 : Nat))) (0 : Nat)) fun v173 => AsI IntKind.i64 v173 fun i174 => NilP p82 fun a175 => (0 : Int) ≤ i90 ∧ i90 < (↑n83 : Int) ∧ Ld w156.drew.drew (at0 (at0 a175 (i90.toNat * (2 : Nat))) (1 : Nat)) fun v176 => AsI IntKind.i64 v176 fun i177 => NilP p82 fun a178 => (0 : Int) ≤ i90 ∧ i90 < (↑n83 : Int) ∧ Ld w156.drew.drew (at0 (at0 a178 (i90.toNat * (2 : Nat))) (1 : Nat)) fun v179 => AsI IntKind.i64 v179 fun i180 => J85 [.int .i64 (IntKind.i64.wrap (i90 + (1 : Int))), .int .i64 (IntKind.i64.wrap (i93 + i180)), .int .i64 (IntKind.i64.wrap (IntKind.i64.wrap (i174 + i177) - (1 : Int))), .bool b162] w156.drew.drew)))
theorem f6tail {w : World} {p : Pool} (hok : p.Ok) {rq uq : Option Addr} {R : List (Nat × Nat)} (hR : RunsAt w rq R.length p.first R) (hRo : RunsOk p.u 0 R) (hU : Rd w uq (i64n p.u)) {k : Nat} {r : Nat × Nat} (hk : R[k]? = some r) (sum : Nat) (hsum : sum ≤ p.u.length) (hR2 : R.length ≤ p.u.length)
    (b : Bool) {J : List Value → World → Prop} {Q : Value → World → Prop} (hJ : ∀ b' w', Qt w w' → J [.int .i64 ((k + 1 : Nat) : Int), .int .i64 ((sum + r.2 : Nat) : Int), .int .i64 (((p.first + r.1 + r.2 : Nat) : Int) - 1), .bool b'] w') :
    F6tail rq R.length uq p.u.length (p.first : Int) (p.u.length : Int) (k : Int) (sum : Int) b w J Q := by
  have hN := hok.n
  have hL := hok.le
  obtain ⟨r1, _, r3, r4⟩ := hRo.each r (List.mem_of_getElem? hk)
  have hkl := (List.getElem?_eq_some_iff.1 hk).1
  unfold F6tail
  simp only [Ld_drew]
  refine hR.get0 hk ?_
  refine hR.get1 hk ?_
  rw [w64 (n := ((p.first + r.1 : Nat) : Int) + ((r.2 : Nat) : Int)) (by omega) (by omega), w64 (n := (p.first : Int) + (p.u.length : Int)) (by omega) (by omega)]
  refine BIf_neg (by omega) ?_
  refine hR.get0 hk ?_
  refine Loop.by (fun s w' => ∃ (f : Nat) (b : Bool), s = [.int .i64 (f : Int), .bool b] ∧ p.first + r.1 ≤ f ∧ f ≤ p.first + r.1 + r.2 ∧ Qt w w')
    (fun s _ => match s with | [.int _ f, _] => p.first + r.1 + r.2 - f.toNat | _ => 0)
    ⟨p.first + r.1, b, rfl, by omega, by omega, (Qt.refl w).drew⟩ ?_
  rintro _ w1 ⟨f, b1, rfl, hf1, hf2, hq⟩
  simp only [UnC_cons, UnN_nil, AsI_int, AsB_bool]
  have hR1 := hR.qt hq
  refine hR1.get0 hk ?_
  refine hR1.get1 hk ?_
  rw [w64 (n := ((p.first + r.1 : Nat) : Int) + ((r.2 : Nat) : Int)) (by omega) (by omega)]
  refine BIf_cases (fun hlt => ?_) (fun hge => ?_)
  · rw [w64 (n := (f : Int) - (p.first : Int)) (by omega) (by omega), w64 (n := (f : Int) + 1) (by omega) (by omega)]
    have hU1 := hU.qt hq
    rw [i64n_eq] at hU1
    have e : ((f : Int) - (p.first : Int)).toNat = f - p.first := by omega
    refine hU1.int (by rw [List.length_map]) (by omega) (x := ((p.u.getD (f - p.first) 0 : Nat) : Int)) (by rw [e]; exact getD_nat (by omega)) ?_
    rw [r4 (f - p.first) (by omega) (by omega)]
    refine BIf_ne (fun h => absurd rfl h) (fun _ => ?_)
    refine ⟨⟨f + 1, b1, rfl, by omega, by omega, hq.drew⟩, ?_⟩
    show p.first + r.1 + r.2 - ((f : Int) + 1).toNat < p.first + r.1 + r.2 - (f : Int).toNat
    omega
  · refine hR1.get0 hk ?_
    refine hR1.get1 hk ?_
    refine hR1.get1 hk ?_
    rw [w64 (n := (k : Int) + 1) (by omega) (by omega), w64 (n := (sum : Int) + ((r.2 : Nat) : Int)) (by omega) (by omega), w64 (n := ((p.first + r.1 : Nat) : Int) + ((r.2 : Nat) : Int)) (by omega) (by omega), w64 (n := ((p.first + r.1 : Nat) : Int) + ((r.2 : Nat) : Int) - 1) (by omega) (by omega)]
    exact hJ b1 _ hq.drew.drew

theorem sum_take_le (R : List (Nat × Nat)) (k : Nat) : ((R.take k).map (·.2)).sum ≤ (R.map (·.2)).sum := by
  conv => rhs; rw [← List.take_append_drop k R, List.map_append, List.sum_append]
  omega
theorem zeros_le (u : List Nat) : zeros u ≤ u.length := List.countP_le_length
theorem f6 {w : World} (hT : Tz w) (first count : Int) {q : Option Addr} {n c : Nat} {l : List Op5} (hs : ScrAt w q n l) (hi1 : I64 first) (hi2 : I64 count) :
    Ret prog 6 #[.int .i64 first, .int .i64 count, .slice q n c] w fun v w' => v = .bool true ∧ Fr0 w w' := by
  have h0 := hT.size
  refine F6_of _ _ _ _ _ _ _ ?_
  unfold F6
  refine Ret.use (f19 first count) ?_
  rintro v w1 ⟨b, bu, bd, rfl, hP1, hf1, hb⟩
  have hd : ¬ Own b bu bd 0 := by unfold Own; omega
  have hown : ∀ x, Own b bu bd x → w.heap.size ≤ x := by intro x hx; unfold Own at hx; omega
  simp only [AsTup_tuple, UnC_cons, UnN_nil, AsI_int, AsP_pointer]
  rw [show (some (⟨b, 0, none⟩ : Addr)).isNone = false from rfl, BIf_false]
  refine Ret.use (f13 (hT.fr0 hf1)) ?_
  rintro v w2 ⟨rfl, hf2⟩
  rw [AsB_bool, Bool.not_true, BIf_false]
  have g1 : 0 ≤ first % 10000 ∧ first % 10000 < 10000 := by omega
  have g2 : 1 ≤ 1 + count % 200 ∧ 1 + count % 200 ≤ 200 := by omega
  obtain ⟨lo, hlo⟩ : ∃ lo : Nat, first % 10000 = lo := ⟨(first % 10000).toNat, by omega⟩
  obtain ⟨m, hm⟩ : ∃ m : Nat, 1 + count % 200 = m := ⟨(1 + count % 200).toNat, by omega⟩
  rw [hlo, hm] at hP1 ⊢
  rw [hlo] at g1; rw [hm] at g2
  simp only [Int.toNat_natCast] at hP1
  refine Loop.by (fun s w' => ∃ (i : Nat) (bb : Bool) (p : Pool), s = [.int .i64 (i : Int), .bool bb] ∧ i ≤ n ∧ p.first = lo ∧ p.u.length = m ∧ PoolAt w' b bu bd p ∧ Fr0 w w')
    (fun s _ => match s with | [.int _ k, _] => n - k.toNat | _ => 0)
    ⟨0, false, newPool lo m, rfl, by omega, rfl, by simp [newPool], hP1.fr0 hf2, hf1.trans hf2⟩ ?_
  rintro _ w3 ⟨i, bb, p, rfl, hi, hpf, hpl, hP3, hf3⟩
  have hT3 := hT.fr0 hf3
  simp only [UnC_cons, UnN_nil, AsI_int, AsB_bool]
  have hn := hs.lt
  refine BIf_cases (fun hlt => ?_) (fun hge => ?_)
  · have hil : i < l.length := by rw [hs.len]; omega
    obtain ⟨o, ho⟩ : ∃ o, l[i]? = some o := ⟨_, List.getElem?_eq_getElem hil⟩
    have hok := hs.ok o (List.mem_of_getElem? ho)
    refine (hs.fr0 hf3).use ho ?_
    refine Ret.use (f20 hP3 hT3 hd o.k o.f o.n o.al o.y hok.f hok.n) ?_
    rintro v w4 ⟨r, e, p', rfl, hst, hP4, hf4⟩
    simp only [AsTup_tuple, UnC_cons, UnN_nil, AsI_int]
    obtain ⟨s1, s2⟩ := hst.same
    rw [w64 (n := (i : Int) + 1) (by omega) (by omega)]
    have hf4' := Fr.news hf3 hf4 hown
    rw [hpf] at s1; rw [hpl] at s2
    subst s1 s2
    clear hP3 hst hpf hpl p
    refine Ret.use (f21 hP4) ?_
    rintro v w5 ⟨uq, uc, rfl, sl5, hf5⟩
    rw [AsSl_slice]
    have hN := hP4.ok.n
    have hL := hP4.ok.le
    have hrd5 := sl5.rd
    refine Loop.by (fun s w' => ∃ (k : Nat) (bb : Bool), s = [.int .i64 (k : Int), .int .i64 ((zeros (p'.u.take k) : Nat) : Int), .bool bb] ∧ k ≤ p'.u.length ∧ w' = w5)
      (fun s _ => match s with | [.int _ k, _, _] => p'.u.length - k.toNat | _ => 0)
      ⟨0, bb, rfl, by omega, rfl⟩ ?_
    rintro _ w6 ⟨k, bb1, rfl, hk, hw⟩
    obtain rfl := hw.symm
    simp only [UnC_cons, UnN_nil, AsI_int, AsB_bool]
    refine BIf_cases (fun hkl => ?_) (fun hkl => ?_)
    · refine Join.triv ?_
      have hkl : k < p'.u.length := by omega
      have hu := hP4.ok.u _ (List.getElem_mem hkl)
      rw [i64n_eq] at hrd5
      have hx : (p'.u.map fun n : Nat => (n : Int))[(k : Int).toNat]? = some ((p'.u[k] : Nat) : Int) := by rw [Int.toNat_natCast, List.getElem?_map, List.getElem?_eq_getElem hkl]; rfl
      refine hrd5.int (by rw [List.length_map]) (by omega) hx ?_
      refine BIf_neg (by omega) ?_
      refine hrd5.int (by rw [List.length_map]) (by omega) hx ?_
      refine BIf_neg (by omega) ?_
      refine hrd5.int (by rw [List.length_map]) (by omega) hx ?_
      have hz : zeros (p'.u.take (k + 1)) = zeros (p'.u.take k) + if p'.u[k] = 0 then 1 else 0 := by
        unfold zeros
        rw [List.take_add_one, List.getElem?_eq_getElem hkl, List.countP_append]
        by_cases h : p'.u[k] = 0 <;> simp [h]
      have hzl := zeros_le (p'.u.take k)
      rw [List.length_take, Nat.min_eq_left (by omega)] at hzl
      have hmeas : p'.u.length - ((k : Int) + 1).toNat < p'.u.length - (k : Int).toNat := by omega
      simp only [UnC_cons, UnN_nil, AsI_int, AsB_bool]
      rw [w64 (n := (k : Int) + 1) (by omega) (by omega)]
      refine BIf_eq (fun h => ?_) (fun h => ?_)
      · rw [w64 (n := ((zeros (p'.u.take k) : Nat) : Int) + 1) (by omega) (by omega)]
        refine ⟨⟨k + 1, bb1, ?_, by omega, by trivial⟩, hmeas⟩
        rw [hz, if_pos (by omega)]; rfl
      · refine ⟨⟨k + 1, bb1, ?_, by omega, by trivial⟩, hmeas⟩
        rw [hz, if_neg (by omega)]; rfl
    have hk2 : k = p'.u.length := by omega
    rw [hk2, List.take_length]
    have hP5 := hP4.fr0 hf5
    have hf05 := hf4'.trans hf5
    refine Ret.use (f28 hP5 (hT.fr0 hf05)) ?_
    rintro v w6 ⟨rq, rc, rfl, sl6, hf6⟩
    rw [AsSl_slice]
    have hR : RunsAt w6 rq p'.runs.length p'.first p'.runs := ⟨sl6.rd, rfl⟩
    have hRo : RunsOk p'.u 0 p'.runs := (runs_all p'.u).1
    have hRs : (p'.runs.map (·.2)).sum = zeros p'.u := (runs_all p'.u).2
    have hU6 := hrd5.fr0 hf6
    have hP6 := hP5.fr0 hf6
    have hf06 := hf05.trans hf6
    have hRl : p'.runs.length ≤ p'.u.length := Nat.le_trans (runs_len _ _) (by omega)
    have hzl := zeros_le p'.u
    rw [w64 (n := (p'.first : Int) - 1) (by omega) (by omega)]
    refine Loop.by (fun s w' => ∃ (k : Nat) (bb : Bool) (last : Int), s = [.int .i64 (k : Int), .int .i64 ((((p'.runs.take k).map (·.2)).sum : Nat) : Int), .int .i64 last, .bool bb] ∧ k ≤ p'.runs.length ∧
        (∀ r, k ≠ 0 → p'.runs[k - 1]? = some r → last = ((p'.first + r.1 + r.2 : Nat) : Int) - 1) ∧ Qt w6 w')
      (fun s _ => match s with | [.int _ k, _, _, _] => p'.runs.length - k.toNat | _ => 0)
      ⟨0, bb1, (p'.first : Int) - 1, rfl, by omega, fun r h => absurd rfl h, Qt.refl _⟩ ?_
    rintro _ w7 ⟨k, bb2, last, rfl, hk3, hlast, hq7⟩
    simp only [UnC_cons, UnN_nil, AsI_int, AsB_bool]
    have hR7 := hR.qt hq7
    refine BIf_cases (fun hkl => ?_) (fun hkl => ?_)
    · have hkl : k < p'.runs.length := by omega
      obtain ⟨r, hr⟩ : ∃ r, p'.runs[k]? = some r := ⟨_, List.getElem?_eq_getElem hkl⟩
      obtain ⟨r1, _, r3, r4⟩ := hRo.each r (List.mem_of_getElem? hr)
      have hst := sum_take_le p'.runs k
      have tl := f6tail (J := fun s' w' => (∃ (k : Nat) (bb : Bool) (last : Int), s' = [.int .i64 (k : Int), .int .i64 ((((p'.runs.take k).map (·.2)).sum : Nat) : Int), .int .i64 last, .bool bb] ∧ k ≤ p'.runs.length ∧
        (∀ r, k ≠ 0 → p'.runs[k - 1]? = some r → last = ((p'.first + r.1 + r.2 : Nat) : Int) - 1) ∧ Qt w6 w') ∧ (match s' with | [.int _ k, _, _, _] => p'.runs.length - k.toNat | _ => 0) < p'.runs.length - (k : Int).toNat) (Q := fun v w' => v = .bool true ∧ Fr0 w w') hP6.ok hR7 hRo (hU6.qt hq7) hr (((p'.runs.take k).map (·.2)).sum) (by omega) hRl bb2 (fun b' w' hq8 => by
          refine ⟨⟨k + 1, b', ((p'.first + r.1 + r.2 : Nat) : Int) - 1, ?_, by omega, fun r' _ hr' => ?_, hq7.trans hq8⟩, ?_⟩
          · rw [List.take_add_one, hr]; simp
          · rw [Nat.add_sub_cancel, hr] at hr'; injection hr' with hr'; rw [← hr']
          · show p'.runs.length - ((k + 1 : Nat) : Int).toNat < p'.runs.length - (k : Int).toNat
            omega)
      unfold F6tail at tl
      simp only [Ld_drew] at tl ⊢
      refine hR7.get1 hr ?_
      refine BIf_neg (by omega) ?_
      refine hR7.get0 hr ?_
      refine BIf_neg (by omega) ?_
      refine BIf_cases (fun hpos => ?_) (fun hzero => ?_)
      · refine hR7.get0 hr ?_
        have hkm : k - 1 < p'.runs.length := by omega
        obtain ⟨r', hr'⟩ : ∃ r, p'.runs[k - 1]? = some r := ⟨_, List.getElem?_eq_getElem hkm⟩
        have hl := hlast r' (by omega) hr'
        obtain ⟨q1, _, q3, q4⟩ := hRo.each r' (List.mem_of_getElem? hr')
        have hrise : r'.1 + r'.2 < r.1 := by
          have := List.pairwise_iff_getElem.1 hRo.rise (k - 1) k hkm hkl (by omega)
          rw [(List.getElem?_eq_some_iff.1 hr').2, (List.getElem?_eq_some_iff.1 hr).2] at this
          exact this
        rw [w64 (n := last + 1) (by omega) (by omega)]
        refine BIf_neg (by omega) ?_
        exact tl
      · exact tl
    · have hk4 : k = p'.runs.length := by omega
      rw [hk4, List.take_length, hRs]
      refine Ret.use (f26 (hP6.qt hq7)) ?_
      rintro v w8 ⟨rfl, hw⟩
      obtain rfl := hw.symm
      rw [AsI_int]
      refine BIf_ne (fun h => absurd rfl h) (fun _ => ?_)
      refine BIf_ne (fun h => absurd rfl h) (fun _ => ?_)
      refine ⟨⟨i + 1, bb2, p', rfl, by omega, by trivial, by trivial, hP6.qt hq7, hf06.trans hq7.fr⟩, ?_⟩
      show n - ((i : Int) + 1).toNat < n - (i : Int).toNat
      omega
  · refine Ret.use (f29 hP3) ?_
    rintro v w4 ⟨rfl, hf4⟩
    rw [show (Value.agg #[.int .i64 (p.first : Int), .int .i64 (p.u.length : Int)]) = .agg [Value.int .i64 (p.first : Int), .int .i64 (p.u.length : Int)].toArray from rfl]
    simp only [AsAgg_agg, UnC_cons, UnN_nil, AsI_int]
    refine eql58 _ _ _ _ fun r hr => ?_
    rw [AsB_bool]
    rw [hr.2 ⟨by rw [hpf], by rw [hpl]⟩]
    exact ⟨rfl, hf3.trans hf4⟩
end Go.Proofs.YthpodlcbikialaaDoor
