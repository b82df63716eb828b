import Derived.Test.YthpodlcbikialaaDoorCs
import Derived.Test.YthpodlcbikialaaDoorFrPures
set_option linter.unusedVariables false
set_option linter.unusedSimpArgs false
set_option linter.unusedVariables false
set_option linter.unusedSimpArgs false
namespace Go.Proofs.YthpodlcbikialaaDoor
open Go Go.Sh Go.Fr

/-- an op of the script, read whole -/
theorem ScrAt.use {w : World} {q : Option Addr} {n : Nat} {l : List Op5} (h : ScrAt w q n l) {i : Nat} {o : Op5} (ho : l[i]? = some o) {K : Int → Int → Int → Int → Int → Prop} (k : K o.k o.f o.n o.al o.y) :
    NilP q fun a => (0 : Int) ≤ (i : Int) ∧ (i : Int) < (n : Int) ∧ Ld w (at0 a ((i : Int).toNat * 5)) fun v => AsI .i64 v fun x0 => Ld w (at0 (at0 a ((i : Int).toNat * 5)) 1) fun v => AsI .i64 v fun x1 =>
      Ld w (at0 (at0 a ((i : Int).toNat * 5)) 2) fun v => AsI .i64 v fun x2 => Ld w (at0 (at0 a ((i : Int).toNat * 5)) 3) fun v => AsI .i64 v fun x3 => Ld w (at0 (at0 a ((i : Int).toNat * 5)) 4) fun v => AsI .i64 v fun x4 => K x0 x1 x2 x3 x4 := by
  have hil := (List.getElem?_eq_some_iff.1 ho).1
  have hn := h.len
  refine h.get ho fun sb so hq hc => ?_
  simp only [at0_mk, Int.toNat_natCast]
  refine ⟨by omega, by omega, ?_⟩
  refine Ld.of (hc 0 _ (by decide) rfl) ?_
  rw [AsI_int]
  refine Ld.of (hc 1 _ (by decide) rfl) ?_
  rw [AsI_int]
  refine Ld.of (hc 2 _ (by decide) rfl) ?_
  rw [AsI_int]
  refine Ld.of (hc 3 _ (by decide) rfl) ?_
  rw [AsI_int]
  refine Ld.of (hc 4 _ (by decide) rfl) ?_
  rw [AsI_int]
  exact k
/-- a slice of runs that may be read -/
structure RunsAt (w : World) (q : Option Addr) (n first : Nat) (R : List (Nat × Nat)) : Prop where
  rd : Rd w q (runCells first R)
  len : R.length = n
theorem RunsAt.qt {w w' : World} {q : Option Addr} {n first : Nat} {R : List (Nat × Nat)} (h : RunsAt w q n first R) (f : Qt w w') : RunsAt w' q n first R := ⟨h.rd.qt f, h.len⟩
theorem RunsAt.get0 {w : World} {q : Option Addr} {n first : Nat} {R : List (Nat × Nat)} (h : RunsAt w q n first R) {i : Nat} {r : Nat × Nat} (hi : R[i]? = some r) {K : Int → Prop} (k : K ((first + r.1 : Nat) : Int)) :
    NilP q fun a => (0 : Int) ≤ (i : Int) ∧ (i : Int) < (n : Int) ∧ Ld w (at0 (at0 a ((i : Int).toNat * 2)) 0) fun v => AsI .i64 v K := by
  have hil := (List.getElem?_eq_some_iff.1 hi).1
  have hn := h.len
  have hg := flat_get (g := fun r : Nat × Nat => [Value.int .i64 ((first + r.1 : Nat) : Int), .int .i64 ((r.2 : Nat) : Int)]) (size := 2) (fun _ => rfl) R i 0 (by decide) r hi
  refine h.rd.ld hg fun b o _ hc => ?_
  refine ⟨by omega, by omega, ?_⟩
  rw [at0_mk, at0_mk, Int.toNat_natCast, Nat.add_assoc]
  exact Ld.of hc (AsI_int.2 k)
theorem RunsAt.get1 {w : World} {q : Option Addr} {n first : Nat} {R : List (Nat × Nat)} (h : RunsAt w q n first R) {i : Nat} {r : Nat × Nat} (hi : R[i]? = some r) {K : Int → Prop} (k : K ((r.2 : Nat) : Int)) :
    NilP q fun a => (0 : Int) ≤ (i : Int) ∧ (i : Int) < (n : Int) ∧ Ld w (at0 (at0 a ((i : Int).toNat * 2)) 1) fun v => AsI .i64 v K := by
  have hil := (List.getElem?_eq_some_iff.1 hi).1
  have hn := h.len
  have hg := flat_get (g := fun r : Nat × Nat => [Value.int .i64 ((first + r.1 : Nat) : Int), .int .i64 ((r.2 : Nat) : Int)]) (size := 2) (fun _ => rfl) R i 1 (by decide) r hi
  refine h.rd.ld hg fun b o _ hc => ?_
  refine ⟨by omega, by omega, ?_⟩
  rw [at0_mk, at0_mk, Int.toNat_natCast, Nat.add_assoc]
  exact Ld.of hc (AsI_int.2 k)
theorem S58 : StructT prog 58 (prog.fieldsOf 58) := ⟨by kernel_rfl, by kernel_rfl, by kernel_rfl⟩
theorem fs58 : (prog.fieldsOf 58).toList.map (fun f => (f.name != "_" && prog.plainKey f.type, f.type, f.offset)) = [(true, 3, 0), (true, 3, 1)] := by kernel_rfl
theorem und3' : prog.underlying 3 = some (.int .i64) := by kernel_rfl
theorem fs58_mem {f : Field} (hf : f ∈ (prog.fieldsOf 58).toList) : f.name ≠ "_" ∧ prog.plainKey f.type = true ∧ f.type = 3 ∧ (f.offset = 0 ∨ f.offset = 1) := by
  have h := List.mem_map_of_mem (f := fun f : Field => (f.name != "_" && prog.plainKey f.type, f.type, f.offset)) hf
  rw [fs58] at h
  simp only [List.mem_cons, Prod.mk.injEq, List.not_mem_nil, or_false, Bool.and_eq_true, bne_iff_ne] at h
  rcases h with ⟨⟨h1, h2⟩, h3, h4⟩ | ⟨⟨h1, h2⟩, h3, h4⟩
  · exact ⟨h1, h2, h3, .inl h4⟩
  · exact ⟨h1, h2, h3, .inr h4⟩
theorem fs58_has {j : Nat} (hj : j < 2) : ∃ f ∈ (prog.fieldsOf 58).toList, f.offset = j := by
  have h : (true, 3, j) ∈ (prog.fieldsOf 58).toList.map (fun f => (f.name != "_" && prog.plainKey f.type, f.type, f.offset)) := by
    rw [fs58]
    rcases j with _ | _ | j
    · simp
    · simp
    · omega
  obtain ⟨f, hf, e⟩ := List.mem_map.1 h
  exact ⟨f, hf, by injection e with _ e; injection e⟩
theorem pair_fits (a b c d : Int) : ∀ f ∈ (prog.fieldsOf 58).toList, f.name ≠ "_" ∧ prog.plainKey f.type = true ∧ ∃ x y, (#[Value.int .i64 a, .int .i64 b])[f.offset]? = some x ∧ (#[Value.int .i64 c, .int .i64 d])[f.offset]? = some y ∧ LeafT.Fits prog f.type x y := by
  intro f hf
  obtain ⟨h1, h2, h3, h4⟩ := fs58_mem hf
  refine ⟨h1, h2, ?_⟩
  rw [h3]
  rcases h4 with h | h <;> rw [h]
  · exact ⟨_, _, rfl, rfl, .inl ⟨_, _, _, _, und3', rfl, rfl⟩⟩
  · exact ⟨_, _, rfl, rfl, .inl ⟨_, _, _, _, und3', rfl, rfl⟩⟩
theorem pair_iff (a b c d : Int) : (∀ f ∈ (prog.fieldsOf 58).toList, (#[Value.int .i64 a, .int .i64 b])[f.offset]? = (#[Value.int .i64 c, .int .i64 d])[f.offset]?) ↔ a = c ∧ b = d := by
  constructor
  · intro h
    obtain ⟨f, hf, e⟩ := fs58_has (j := 0) (by decide)
    have h0 := h f hf
    obtain ⟨f', hf', e'⟩ := fs58_has (j := 1) (by decide)
    have h1 := h f' hf'
    rw [e] at h0; rw [e'] at h1
    simp at h0 h1
    exact ⟨h0, h1⟩
  · rintro ⟨rfl, rfl⟩ f _; rfl
/-- '==' on two runs -/
theorem eql58 {x y : Operand} (a b c d : Int) {K : Value → Prop} (k : ∀ r : Bool, (r = true ↔ a = c ∧ b = d) → K (.bool r)) : RunP prog (binSem .eql 58 x y (.agg #[.int .i64 a, .int .i64 b]) (.agg #[.int .i64 c, .int .i64 d])) K :=
  RunP.eqlStruct S58 (pair_fits a b c d) fun r hr => k r (hr.trans (pair_iff a b c d))
theorem neq58 {x y : Operand} (a b c d : Int) {K : Value → Prop} (k : ∀ r : Bool, (r = true ↔ a = c ∧ b = d) → K (.bool (!r))) : RunP prog (binSem .neq 58 x y (.agg #[.int .i64 a, .int .i64 b]) (.agg #[.int .i64 c, .int .i64 d])) K :=
  RunP.neqStruct S58 (pair_fits a b c d) fun r hr => k r (hr.trans (pair_iff a b c d))
theorem getD_nat {u : List Nat} {i : Nat} (h : i < u.length) : (u.map fun n : Nat => (n : Int))[i]? = some ((u.getD i 0 : Nat) : Int) := by
  rw [List.getElem?_map, List.getElem?_eq_getElem h, getD_get h]; rfl

def F6tail (p82 : Option Addr) (n83 : Nat) (p47 : Option Addr) (n48 : Nat) (i9 i12 i90 i93 : Int) (b99 : Bool) (w87 : World) (J85 : List Value → World → Prop) (Q : Value → World → Prop) : Prop :=
  NilP p82 fun a145 => (0 : Int) ≤ i90 ∧ i90 < (↑n83 : Int) ∧ Ld w87.drew (at0 (at0 a145 (i90.toNat * (2 : Nat))) (0 : Nat)) fun v146 => AsI IntKind.i64 v146 fun i147 => NilP p82 fun a148 => (0 : Int) ≤ i90 ∧ i90 < (↑n83 : Int) ∧ Ld w87.drew (at0 (at0 a148 (i90.toNat * (2 : Nat))) (1 : Nat)) fun v149 => AsI IntKind.i64 v149 fun i150 => BIf (decide (IntKind.i64.wrap (i147 + i150) > IntKind.i64.wrap (i9 + i12))) (Q (.bool false) w87.drew) (NilP p82 fun a151 => (0 : Int) ≤ i90 ∧ i90 < (↑n83 : Int) ∧ Ld w87.drew (at0 (at0 a151 (i90.toNat * (2 : Nat))) (0 : Nat)) fun v152 => AsI IntKind.i64 v152 fun i153 => Sh.Loop [.int .i64 i153, .bool b99] w87.drew fun J154 s155 w156 => UnC s155 fun v157 s158 => AsI IntKind.i64 v157 fun i159 => UnC s158 fun v160 s161 => AsB v160 fun b162 => UnN s161 (NilP p82 fun a163 => (0 : Int) ≤ i90 ∧ i90 < (↑n83 : Int) ∧ Ld w156.drew (at0 (at0 a163 (i90.toNat * (2 : Nat))) (0 : Nat)) fun v164 => AsI IntKind.i64 v164 fun i165 => NilP p82 fun a166 => (0 : Int) ≤ i90 ∧ i90 < (↑n83 : Int) ∧ Ld w156.drew (at0 (at0 a166 (i90.toNat * (2 : Nat))) (1 : Nat)) fun v167 => AsI IntKind.i64 v167 fun i168 => BIf (decide (i159 < IntKind.i64.wrap (i165 + i168))) (NilP p47 fun a169 => (0 : Int) ≤ IntKind.i64.wrap (i159 - i9) ∧ IntKind.i64.wrap (i159 - i9) < (↑n48 : Int) ∧ Ld w156.drew (at0 a169 ((IntKind.i64.wrap (i159 - i9)).toNat * (1 : Nat))) fun v170 => AsI IntKind.i64 v170 fun i171 => BIf (i171 != (0 : Int)) (Q (.bool false) w156.drew) (J154 [.int .i64 (IntKind.i64.wrap (i159 + (1 : Int))), .bool b162] w156.drew)) (NilP p82 fun a172 => (0 : Int) ≤ i90 ∧ i90 < (↑n83 : Int) ∧ Ld w156.drew.drew (at0 (at0 a172 (i90.toNat * (2 : Nat))) (0 : Nat)) fun v173 => AsI IntKind.i64 v173 fun i174 => NilP p82 fun a175 => (0 : Int) ≤ i90 ∧ i90 < (↑n83 : Int) ∧ Ld w156.drew.drew (at0 (at0 a175 (i90.toNat * (2 : Nat))) (1 : Nat)) fun v176 => AsI IntKind.i64 v176 fun i177 => NilP p82 fun a178 => (0 : Int) ≤ i90 ∧ i90 < (↑n83 : Int) ∧ Ld w156.drew.drew (at0 (at0 a178 (i90.toNat * (2 : Nat))) (1 : Nat)) fun v179 => AsI IntKind.i64 v179 fun i180 => J85 [.int .i64 (IntKind.i64.wrap (i90 + (1 : Int))), .int .i64 (IntKind.i64.wrap (i93 + i180)), .int .i64 (IntKind.i64.wrap (IntKind.i64.wrap (i174 + i177) - (1 : Int))), .bool b162] w156.drew.drew)))
theorem f6tail {w : World} {p : Pool} (hok : p.Ok) {rq uq : Option Addr} {R : List (Nat × Nat)} (hR : RunsAt w rq R.length p.first R) (hRo : RunsOk p.u 0 R) (hU : Rd w uq (i64n p.u)) {k : Nat} {r : Nat × Nat} (hk : R[k]? = some r) (sum : Nat) (hsum : sum ≤ p.u.length) (hR2 : R.length ≤ p.u.length)
    (b : Bool) {J : List Value → World → Prop} {Q : Value → World → Prop} (hJ : ∀ b' w', Qt w w' → J [.int .i64 ((k + 1 : Nat) : Int), .int .i64 ((sum + r.2 : Nat) : Int), .int .i64 (((p.first + r.1 + r.2 : Nat) : Int) - 1), .bool b'] w') :
    F6tail rq R.length uq p.u.length (p.first : Int) (p.u.length : Int) (k : Int) (sum : Int) b w J Q := by
  have hN := hok.n
  have hL := hok.le
  obtain ⟨r1, _, r3, r4⟩ := hRo.each r (List.mem_of_getElem? hk)
  have hkl := (List.getElem?_eq_some_iff.1 hk).1
  unfold F6tail
  simp only [Ld_drew]
  refine hR.get0 hk ?_
  refine hR.get1 hk ?_
  rw [w64 (n := ((p.first + r.1 : Nat) : Int) + ((r.2 : Nat) : Int)) (by omega) (by omega), w64 (n := (p.first : Int) + (p.u.length : Int)) (by omega) (by omega)]
  refine BIf_neg (by omega) ?_
  refine hR.get0 hk ?_
  refine Loop.by (fun s w' => ∃ (f : Nat) (b : Bool), s = [.int .i64 (f : Int), .bool b] ∧ p.first + r.1 ≤ f ∧ f ≤ p.first + r.1 + r.2 ∧ Qt w w')
    (fun s _ => match s with | [.int _ f, _] => p.first + r.1 + r.2 - f.toNat | _ => 0)
    ⟨p.first + r.1, b, rfl, by omega, by omega, (Qt.refl w).drew⟩ ?_
  rintro _ w1 ⟨f, b1, rfl, hf1, hf2, hq⟩
  simp only [UnC_cons, UnN_nil, AsI_int, AsB_bool]
  have hR1 := hR.qt hq
  refine hR1.get0 hk ?_
  refine hR1.get1 hk ?_
  rw [w64 (n := ((p.first + r.1 : Nat) : Int) + ((r.2 : Nat) : Int)) (by omega) (by omega)]
  refine BIf_cases (fun hlt => ?_) (fun hge => ?_)
  · rw [w64 (n := (f : Int) - (p.first : Int)) (by omega) (by omega), w64 (n := (f : Int) + 1) (by omega) (by omega)]
    have hU1 := hU.qt hq
    rw [i64n_eq] at hU1
    have e : ((f : Int) - (p.first : Int)).toNat = f - p.first := by omega
    refine hU1.int (by rw [List.length_map]) (by omega) (x := ((p.u.getD (f - p.first) 0 : Nat) : Int)) (by rw [e]; exact getD_nat (by omega)) ?_
    rw [r4 (f - p.first) (by omega) (by omega)]
    refine BIf_ne (fun h => absurd rfl h) (fun _ => ?_)
    refine ⟨⟨f + 1, b1, rfl, by omega, by omega, hq.drew⟩, ?_⟩
    show p.first + r.1 + r.2 - ((f : Int) + 1).toNat < p.first + r.1 + r.2 - (f : Int).toNat
    omega
  · refine hR1.get0 hk ?_
    refine hR1.get1 hk ?_
    refine hR1.get1 hk ?_
    rw [w64 (n := (k : Int) + 1) (by omega) (by omega), w64 (n := (sum : Int) + ((r.2 : Nat) : Int)) (by omega) (by omega), w64 (n := ((p.first + r.1 : Nat) : Int) + ((r.2 : Nat) : Int)) (by omega) (by omega), w64 (n := ((p.first + r.1 : Nat) : Int) + ((r.2 : Nat) : Int) - 1) (by omega) (by omega)]
    exact hJ b1 _ hq.drew.drew

theorem sum_take_le (R : List (Nat × Nat)) (k : Nat) : ((R.take k).map (·.2)).sum ≤ (R.map (·.2)).sum := by
  conv => rhs; rw [← List.take_append_drop k R, List.map_append, List.sum_append]
  omega
theorem zeros_le (u : List Nat) : zeros u ≤ u.length := List.countP_le_length
theorem f6 {w : World} (hT : Tz w) (first count : Int) {q : Option Addr} {n c : Nat} {l : List Op5} (hs : ScrAt w q n l) (hi1 : I64 first) (hi2 : I64 count) :
    Ret prog 6 #[.int .i64 first, .int .i64 count, .slice q n c] w fun v w' => v = .bool true ∧ Fr0 w w' := by
  have h0 := hT.size
  refine F6_of _ _ _ _ _ _ _ ?_
  unfold F6
  refine Ret.use (f19 first count) ?_
  rintro v w1 ⟨b, bu, bd, rfl, hP1, hf1, hb⟩
  have hd : ¬ Own b bu bd 0 := by unfold Own; omega
  have hown : ∀ x, Own b bu bd x → w.heap.size ≤ x := by intro x hx; unfold Own at hx; omega
  simp only [AsTup_tuple, UnC_cons, UnN_nil, AsI_int, AsP_pointer]
  rw [show (some (⟨b, 0, none⟩ : Addr)).isNone = false from rfl, BIf_false]
  refine Ret.use (f13 (hT.fr0 hf1)) ?_
  rintro v w2 ⟨rfl, hf2⟩
  rw [AsB_bool, Bool.not_true, BIf_false]
  have g1 : 0 ≤ first % 10000 ∧ first % 10000 < 10000 := by omega
  have g2 : 1 ≤ 1 + count % 200 ∧ 1 + count % 200 ≤ 200 := by omega
  obtain ⟨lo, hlo⟩ : ∃ lo : Nat, first % 10000 = lo := ⟨(first % 10000).toNat, by omega⟩
  obtain ⟨m, hm⟩ : ∃ m : Nat, 1 + count % 200 = m := ⟨(1 + count % 200).toNat, by omega⟩
  rw [hlo, hm] at hP1 ⊢
  rw [hlo] at g1; rw [hm] at g2
  simp only [Int.toNat_natCast] at hP1
  refine Loop.by (fun s w' => ∃ (i : Nat) (bb : Bool) (p : Pool), s = [.int .i64 (i : Int), .bool bb] ∧ i ≤ n ∧ p.first = lo ∧ p.u.length = m ∧ PoolAt w' b bu bd p ∧ Fr0 w w')
    (fun s _ => match s with | [.int _ k, _] => n - k.toNat | _ => 0)
    ⟨0, false, newPool lo m, rfl, by omega, rfl, by simp [newPool], hP1.fr0 hf2, hf1.trans hf2⟩ ?_
  rintro _ w3 ⟨i, bb, p, rfl, hi, hpf, hpl, hP3, hf3⟩
  have hT3 := hT.fr0 hf3
  simp only [UnC_cons, UnN_nil, AsI_int, AsB_bool]
  have hn := hs.lt
  refine BIf_cases (fun hlt => ?_) (fun hge => ?_)
  · have hil : i < l.length := by rw [hs.len]; omega
    obtain ⟨o, ho⟩ : ∃ o, l[i]? = some o := ⟨_, List.getElem?_eq_getElem hil⟩
    have hok := hs.ok o (List.mem_of_getElem? ho)
    refine (hs.fr0 hf3).use ho ?_
    refine Ret.use (f20 hP3 hT3 hd o.k o.f o.n o.al o.y hok.f hok.n) ?_
    rintro v w4 ⟨r, e, p', rfl, hst, hP4, hf4⟩
    simp only [AsTup_tuple, UnC_cons, UnN_nil, AsI_int]
    obtain ⟨s1, s2⟩ := hst.same
    rw [w64 (n := (i : Int) + 1) (by omega) (by omega)]
    have hf4' := Fr.news hf3 hf4 hown
    rw [hpf] at s1; rw [hpl] at s2
    subst s1 s2
    clear hP3 hst hpf hpl p
    refine Ret.use (f21 hP4) ?_
    rintro v w5 ⟨uq, uc, rfl, sl5, hf5⟩
    rw [AsSl_slice]
    have hN := hP4.ok.n
    have hL := hP4.ok.le
    have hrd5 := sl5.rd
    refine Loop.by (fun s w' => ∃ (k : Nat) (bb : Bool), s = [.int .i64 (k : Int), .int .i64 ((zeros (p'.u.take k) : Nat) : Int), .bool bb] ∧ k ≤ p'.u.length ∧ w' = w5)
      (fun s _ => match s with | [.int _ k, _, _] => p'.u.length - k.toNat | _ => 0)
      ⟨0, bb, rfl, by omega, rfl⟩ ?_
    rintro _ w6 ⟨k, bb1, rfl, hk, hw⟩
    obtain rfl := hw.symm
    simp only [UnC_cons, UnN_nil, AsI_int, AsB_bool]
    refine BIf_cases (fun hkl => ?_) (fun hkl => ?_)
    · refine Join.triv ?_
      have hkl : k < p'.u.length := by omega
      have hu := hP4.ok.u _ (List.getElem_mem hkl)
      rw [i64n_eq] at hrd5
      have hx : (p'.u.map fun n : Nat => (n : Int))[(k : Int).toNat]? = some ((p'.u[k] : Nat) : Int) := by rw [Int.toNat_natCast, List.getElem?_map, List.getElem?_eq_getElem hkl]; rfl
      refine hrd5.int (by rw [List.length_map]) (by omega) hx ?_
      refine BIf_neg (by omega) ?_
      refine hrd5.int (by rw [List.length_map]) (by omega) hx ?_
      refine BIf_neg (by omega) ?_
      refine hrd5.int (by rw [List.length_map]) (by omega) hx ?_
      have hz : zeros (p'.u.take (k + 1)) = zeros (p'.u.take k) + if p'.u[k] = 0 then 1 else 0 := by
        unfold zeros
        rw [List.take_add_one, List.getElem?_eq_getElem hkl, List.countP_append]
        by_cases h : p'.u[k] = 0 <;> simp [h]
      have hzl := zeros_le (p'.u.take k)
      rw [List.length_take, Nat.min_eq_left (by omega)] at hzl
      have hmeas : p'.u.length - ((k : Int) + 1).toNat < p'.u.length - (k : Int).toNat := by omega
      simp only [UnC_cons, UnN_nil, AsI_int, AsB_bool]
      rw [w64 (n := (k : Int) + 1) (by omega) (by omega)]
      refine BIf_eq (fun h => ?_) (fun h => ?_)
      · rw [w64 (n := ((zeros (p'.u.take k) : Nat) : Int) + 1) (by omega) (by omega)]
        refine ⟨⟨k + 1, bb1, ?_, by omega, by trivial⟩, hmeas⟩
        rw [hz, if_pos (by omega)]; rfl
      · refine ⟨⟨k + 1, bb1, ?_, by omega, by trivial⟩, hmeas⟩
        rw [hz, if_neg (by omega)]; rfl
    have hk2 : k = p'.u.length := by omega
    rw [hk2, List.take_length]
    have hP5 := hP4.fr0 hf5
    have hf05 := hf4'.trans hf5
    refine Ret.use (f28 hP5 (hT.fr0 hf05)) ?_
    rintro v w6 ⟨rq, rc, rfl, sl6, hf6⟩
    rw [AsSl_slice]
    have hR : RunsAt w6 rq p'.runs.length p'.first p'.runs := ⟨sl6.rd, rfl⟩
    have hRo : RunsOk p'.u 0 p'.runs := (runs_all p'.u).1
    have hRs : (p'.runs.map (·.2)).sum = zeros p'.u := (runs_all p'.u).2
    have hU6 := hrd5.fr0 hf6
    have hP6 := hP5.fr0 hf6
    have hf06 := hf05.trans hf6
    have hRl : p'.runs.length ≤ p'.u.length := Nat.le_trans (runs_len _ _) (by omega)
    have hzl := zeros_le p'.u
    rw [w64 (n := (p'.first : Int) - 1) (by omega) (by omega)]
    refine Loop.by (fun s w' => ∃ (k : Nat) (bb : Bool) (last : Int), s = [.int .i64 (k : Int), .int .i64 ((((p'.runs.take k).map (·.2)).sum : Nat) : Int), .int .i64 last, .bool bb] ∧ k ≤ p'.runs.length ∧
        (∀ r, k ≠ 0 → p'.runs[k - 1]? = some r → last = ((p'.first + r.1 + r.2 : Nat) : Int) - 1) ∧ Qt w6 w')
      (fun s _ => match s with | [.int _ k, _, _, _] => p'.runs.length - k.toNat | _ => 0)
      ⟨0, bb1, (p'.first : Int) - 1, rfl, by omega, fun r h => absurd rfl h, Qt.refl _⟩ ?_
    rintro _ w7 ⟨k, bb2, last, rfl, hk3, hlast, hq7⟩
    simp only [UnC_cons, UnN_nil, AsI_int, AsB_bool]
    have hR7 := hR.qt hq7
    refine BIf_cases (fun hkl => ?_) (fun hkl => ?_)
    · have hkl : k < p'.runs.length := by omega
      obtain ⟨r, hr⟩ : ∃ r, p'.runs[k]? = some r := ⟨_, List.getElem?_eq_getElem hkl⟩
      obtain ⟨r1, _, r3, r4⟩ := hRo.each r (List.mem_of_getElem? hr)
      have hst := sum_take_le p'.runs k
      have tl := f6tail (J := fun s' w' => (∃ (k : Nat) (bb : Bool) (last : Int), s' = [.int .i64 (k : Int), .int .i64 ((((p'.runs.take k).map (·.2)).sum : Nat) : Int), .int .i64 last, .bool bb] ∧ k ≤ p'.runs.length ∧
        (∀ r, k ≠ 0 → p'.runs[k - 1]? = some r → last = ((p'.first + r.1 + r.2 : Nat) : Int) - 1) ∧ Qt w6 w') ∧ (match s' with | [.int _ k, _, _, _] => p'.runs.length - k.toNat | _ => 0) < p'.runs.length - (k : Int).toNat) (Q := fun v w' => v = .bool true ∧ Fr0 w w') hP6.ok hR7 hRo (hU6.qt hq7) hr (((p'.runs.take k).map (·.2)).sum) (by omega) hRl bb2 (fun b' w' hq8 => by
          refine ⟨⟨k + 1, b', ((p'.first + r.1 + r.2 : Nat) : Int) - 1, ?_, by omega, fun r' _ hr' => ?_, hq7.trans hq8⟩, ?_⟩
          · rw [List.take_add_one, hr]; simp
          · rw [Nat.add_sub_cancel, hr] at hr'; injection hr' with hr'; rw [← hr']
          · show p'.runs.length - ((k + 1 : Nat) : Int).toNat < p'.runs.length - (k : Int).toNat
            omega)
      unfold F6tail at tl
      simp only [Ld_drew] at tl ⊢
      refine hR7.get1 hr ?_
      refine BIf_neg (by omega) ?_
      refine hR7.get0 hr ?_
      refine BIf_neg (by omega) ?_
      refine BIf_cases (fun hpos => ?_) (fun hzero => ?_)
      · refine hR7.get0 hr ?_
        have hkm : k - 1 < p'.runs.length := by omega
        obtain ⟨r', hr'⟩ : ∃ r, p'.runs[k - 1]? = some r := ⟨_, List.getElem?_eq_getElem hkm⟩
        have hl := hlast r' (by omega) hr'
        obtain ⟨q1, _, q3, q4⟩ := hRo.each r' (List.mem_of_getElem? hr')
        have hrise : r'.1 + r'.2 < r.1 := by
          have := List.pairwise_iff_getElem.1 hRo.rise (k - 1) k hkm hkl (by omega)
          rw [(List.getElem?_eq_some_iff.1 hr').2, (List.getElem?_eq_some_iff.1 hr).2] at this
          exact this
        rw [w64 (n := last + 1) (by omega) (by omega)]
        refine BIf_neg (by omega) ?_
        exact tl
      · exact tl
    · have hk4 : k = p'.runs.length := by omega
      rw [hk4, List.take_length, hRs]
      refine Ret.use (f26 (hP6.qt hq7)) ?_
      rintro v w8 ⟨rfl, hw⟩
      obtain rfl := hw.symm
      rw [AsI_int]
      refine BIf_ne (fun h => absurd rfl h) (fun _ => ?_)
      refine BIf_ne (fun h => absurd rfl h) (fun _ => ?_)
      refine ⟨⟨i + 1, bb2, p', rfl, by omega, by trivial, by trivial, hP6.qt hq7, hf06.trans hq7.fr⟩, ?_⟩
      show n - ((i : Int) + 1).toNat < n - (i : Int).toNat
      omega
  · refine Ret.use (f29 hP3) ?_
    rintro v w4 ⟨rfl, hf4⟩
    rw [show (Value.agg #[.int .i64 (p.first : Int), .int .i64 (p.u.length : Int)]) = .agg [Value.int .i64 (p.first : Int), .int .i64 (p.u.length : Int)].toArray from rfl]
    simp only [AsAgg_agg, UnC_cons, UnN_nil, AsI_int]
    refine eql58 _ _ _ _ fun r hr => ?_
    rw [AsB_bool]
    rw [hr.2 ⟨by rw [hpf], by rw [hpl]⟩]
    exact ⟨rfl, hf3.trans hf4⟩
end Go.Proofs.YthpodlcbikialaaDoor

set_option linter.unusedVariables false
set_option linter.unusedSimpArgs false
namespace Go.Proofs.YthpodlcbikialaaDoor
open Go Go.Sh Go.Fr

theorem RunsAt.getBoth {w : World} {q : Option Addr} {n first : Nat} {R : List (Nat × Nat)} (h : RunsAt w q n first R) {i : Nat} {r : Nat × Nat} (hi : R[i]? = some r) {K : Int → Int → Prop} (k : K ((first + r.1 : Nat) : Int) ((r.2 : Nat) : Int)) :
    NilP q fun a => (0 : Int) ≤ (i : Int) ∧ (i : Int) < (n : Int) ∧ Ld w (at0 a ((i : Int).toNat * 2)) fun v => AsI .i64 v fun x => Ld w (at0 (at0 a ((i : Int).toNat * 2)) 1) fun v => AsI .i64 v fun y => K x y := by
  have hil := (List.getElem?_eq_some_iff.1 hi).1
  have hn := h.len
  have hg0 := flat_get (g := fun r : Nat × Nat => [Value.int .i64 ((first + r.1 : Nat) : Int), .int .i64 ((r.2 : Nat) : Int)]) (size := 2) (fun _ => rfl) R i 0 (by decide) r hi
  have hg1 := flat_get (g := fun r : Nat × Nat => [Value.int .i64 ((first + r.1 : Nat) : Int), .int .i64 ((r.2 : Nat) : Int)]) (size := 2) (fun _ => rfl) R i 1 (by decide) r hi
  refine h.rd.ld hg0 fun b o hq hc => ?_
  obtain ⟨b', o', hq', hc'⟩ := h.rd _ _ hg1
  rw [hq] at hq'; injection hq' with hq'; injection hq' with e1 e2; subst e1 e2
  refine ⟨by omega, by omega, ?_⟩
  rw [at0_mk, at0_mk, Int.toNat_natCast, Nat.add_assoc]
  exact Ld.of hc (AsI_int.2 (Ld.of hc' (AsI_int.2 k)))
theorem f27 {w : World} {a b : Option Addr} {n1 n2 ac bc first : Nat} {R1 R2 : List (Nat × Nat)} (h1 : RunsAt w a n1 first R1) (h2 : RunsAt w b n2 first R2) (hl : n1 ≤ 9223372036854775806) :
    Ret prog 27 #[.slice a n1 ac, .slice b n2 bc] w fun v w' => v = .bool (decide (R1 = R2)) ∧ Qt w w' := by
  have l1 := h1.len
  have l2 := h2.len
  refine F27_of _ _ _ _ _ _ _ _ ?_
  unfold F27
  refine BIf_ne (fun h => ?_) (fun h => ?_)
  · refine ⟨?_, Qt.refl w⟩
    rw [decide_eq_false]; rintro rfl; exact h (by omega)
  refine Loop.by (fun s w' => ∃ (i : Nat) (c : Bool), s = [.int .i64 (i : Int), .bool c] ∧ i ≤ n1 ∧ (∀ j, j < i → R1[j]? = R2[j]?) ∧ Qt w w')
    (fun s _ => match s with | [.int _ k, _] => n1 - k.toNat | _ => 0)
    ⟨0, false, rfl, by omega, fun j h => by omega, Qt.refl w⟩ ?_
  rintro _ w1 ⟨i, c, rfl, hi, heq, hq⟩
  simp only [UnC_cons, UnN_nil, AsI_int, AsB_bool, Ld_drew]
  refine BIf_cases (fun hlt => ?_) (fun hge => ?_)
  · obtain ⟨r1, hr1⟩ : ∃ r, R1[i]? = some r := ⟨_, List.getElem?_eq_getElem (by omega)⟩
    obtain ⟨r2, hr2⟩ : ∃ r, R2[i]? = some r := ⟨_, List.getElem?_eq_getElem (by omega)⟩
    refine (h1.qt hq).getBoth hr1 ?_
    refine (h2.qt hq).getBoth hr2 ?_
    refine neq58 _ _ _ _ fun r hr => ?_
    rw [AsB_bool, BIf_not]
    refine BIf_b (fun h => ?_) (fun h => ?_)
    · obtain ⟨e1, e2⟩ := hr.1 h
      rw [w64 (n := (i : Int) + 1) (by omega) (by omega)]
      refine ⟨⟨i + 1, c, rfl, by omega, fun j hj => ?_, hq.drew⟩, ?_⟩
      · by_cases e : j = i
        · subst e; rw [hr1, hr2]; congr 1; exact Prod.ext (by omega) (by omega)
        · exact heq j (by omega)
      · show n1 - ((i : Int) + 1).toNat < n1 - (i : Int).toNat
        omega
    · refine ⟨?_, hq.drew⟩
      rw [decide_eq_false]; rintro rfl
      rw [hr1] at hr2; injection hr2 with hr2; subst hr2
      rw [hr.2 ⟨rfl, rfl⟩] at h; cases h
  · refine ⟨?_, hq⟩
    rw [decide_eq_true]
    apply List.ext_getElem?
    intro j
    by_cases hj : j < n1
    · exact heq j (by omega)
    · rw [List.getElem?_eq_none (by omega), List.getElem?_eq_none (by omega)]

theorem PTake.bad_same {p p' : Pool} {n al : Int} {r e : Nat} (h : PTake p n al r e p') (he : e ≠ 0) : p' = p := by
  cases h
  · rfl
  · rfl
  · exact absurd rfl he
theorem PStep.bad_same {p p' : Pool} {k f n al : Int} {r : Int} {e : Nat} (h : PStep p k f n al r e p') (he : e ≠ 0) : p' = p := by
  cases h with
  | take _ r e p' ht => exact ht.bad_same he
  | shareErr => rfl
  | share => exact absurd rfl he
  | dropErr => rfl
  | drop => exact absurd rfl he
  | other => rfl
theorem PStep.other_same {p p' : Pool} {k f n al : Int} {r : Int} {e : Nat} (h : PStep p k f n al r e p') (h1 : k ≠ 1) (h2 : k ≠ 2) (h3 : k ≠ 3) : p' = p := by
  cases h <;> first | rfl | contradiction
theorem PStep.good {p p' : Pool} {k f n al : Int} {r : Int} {e : Nat} (h : PStep p k f n al r e p') (he : e = 0) (hk : 1 ≤ k ∧ k ≤ 3) : ∃ (k0 N : Nat) (fn : Nat → Nat), n = N ∧ 1 ≤ N ∧ k0 + N ≤ p.u.length ∧ p' = p.turned k0 fn N ∧ (k = 1 → r = (p.first : Int) + k0) ∧ (k ≠ 1 → f = (p.first : Int) + k0) ∧
    (∀ x, k0 ≤ x → x < k0 + N → (k = 1 ↔ p.u.getD x 0 = 0) ∧ fn (p.u.getD x 0) = if k = 3 then p.u.getD x 0 - 1 else p.u.getD x 0 + 1) ∧ (k = 3 → r = (p'.free : Int) - p.free) := by
  cases h with
  | take h1 r e p' ht =>
    cases ht with
    | bad => cases he
    | none => cases he
    | ok hb a hf hl =>
      have hn1 : 1 ≤ n := by unfold badTake at hb; omega
      refine ⟨a, n.toNat, fun _ => 1, by omega, by omega, hf.2.1, rfl, fun _ => by omega, fun h => absurd h1 h, fun x hx hx2 => ?_, fun h => by omega⟩
      have hz := hf.2.2 x hx hx2
      rw [hz]
      exact ⟨⟨fun _ => rfl, fun _ => h1⟩, by rw [if_neg (by omega)]⟩
  | shareErr _ e _ h0 => exact absurd he h0
  | share h2 hs =>
    have hr : (p.run f n).2 = 0 := by
      unfold Pool.shareErr at hs
      split at hs
      · omega
      · omega
    obtain ⟨r1, r2, r3, _, r5⟩ := run_ok hr
    refine ⟨(f - p.first).toNat, n.toNat, (· + 1), by omega, by omega, by omega, rfl, fun h => by omega, fun _ => by omega, fun x hx hx2 => ?_, fun h => by omega⟩
    have hp := r5 x hx hx2
    exact ⟨⟨fun h => by omega, fun h => by omega⟩, by rw [if_neg (by omega)]⟩
  | dropErr _ h0 => exact absurd he h0
  | drop h3 hr =>
    obtain ⟨r1, r2, r3, _, r5⟩ := run_ok hr
    refine ⟨(f - p.first).toNat, n.toNat, (· - 1), by omega, by omega, by omega, rfl, fun h => by omega, fun _ => by omega, fun x hx hx2 => ?_, fun h => rfl⟩
    have hp := r5 x hx hx2
    exact ⟨⟨fun h => by omega, fun h => by omega⟩, by rw [if_pos h3]⟩
  | other h1 h2 h3 => omega
theorem i64n_set (l : List Nat) (i x : Nat) : (i64n l).set i (.int .i64 ((x : Nat) : Int)) = i64n (l.set i x) := by simp [i64n, List.map_set]
theorem i64n_get {l : List Nat} {i : Nat} (h : i < l.length) : (i64n l)[i]? = some (.int .i64 ((l.getD i 0 : Nat) : Int)) := by
  rw [i64n, List.getElem?_map, List.getElem?_eq_getElem h, getD_get h]; rfl
theorem i64n_len (l : List Nat) : (i64n l).length = l.length := by simp [i64n]
theorem turn_end {u : List Nat} {k : Nat} {fn : Nat → Nat} {j : Nat} (h : k + j < u.length) : (turn u k fn j).getD (k + j) 0 = u.getD (k + j) 0 := by
  rw [turn_get u k fn (k + j) j (by omega), if_neg (by omega)]
theorem turn_zeros {u : List Nat} {k : Nat} {fn : Nat → Nat} {j : Nat} (h : k + j < u.length) (h0 : u.getD (k + j) 0 ≠ 0) : zeros (turn u k fn (j + 1)) = zeros (turn u k fn j) + if fn (u.getD (k + j) 0) = 0 then 1 else 0 := by
  have hl : k + j < (turn u k fn j).length := by rw [turn_len]; exact h
  have := count_set (turn u k fn j) (k + j) (fn (u.getD (k + j) 0)) hl
  have e : (turn u k fn j)[k + j] = u.getD (k + j) 0 := by rw [← getD_get hl, turn_end h]
  rw [e, if_neg h0] at this
  simp only [zeros, turn]
  omega
theorem turn_one (u : List Nat) (k : Nat) (fn : Nat → Nat) : turn u k fn 1 = u.set k (fn (u.getD k 0)) := rfl
theorem all_zero_runs {u : List Nat} (h : ∀ x, u.getD x 0 = 0) (hl : 0 < u.length) : Fr.runs u (next u false 0) = [(0, u.length)] := by
  have hz : ∀ i (hi : i < u.length), u[i] = 0 := fun i hi => by have := h i; rwa [getD_get hi] at this
  have e0 : next u false 0 = 0 := next_hit hl (by rw [hz 0 hl]; rfl)
  have e1 : next u true 0 = u.length := by
    obtain ⟨n1, n2, n3, n4⟩ := next_spec u true 0
    rcases Nat.lt_or_ge (next u true 0) u.length with h1 | h1
    · have := n3 h1
      rw [hz _ h1] at this; simp at this
    · omega
  rw [e0, runs_cons hl (hz 0 hl), e1, next_end (Nat.le_refl _), runs_end (Nat.le_refl _)]
  rfl
theorem all_zero_count {u : List Nat} (h : ∀ x, u.getD x 0 = 0) : u.countP (· = 0) = u.length := by
  refine countP_all fun x hx => ?_
  obtain ⟨i, hi, rfl⟩ := List.getElem_of_mem hx
  have := h i; rwa [getD_get hi] at this
end Go.Proofs.YthpodlcbikialaaDoor

set_option linter.unusedVariables false
set_option linter.unusedSimpArgs false
namespace Go.Proofs.YthpodlcbikialaaDoor
open Go Go.Sh Go.Fr

theorem und38 : prog.underlying 38 = some (.slice 3) := by kernel_rfl
theorem inf3 : (prog.info? 3).map (fun i => (i.zero, i.size, i.bytes)) = some (some (.int .i64 0), 1, 8) := by kernel_rfl
theorem free_zeros (p : Pool) : p.free = zeros p.u := rfl
theorem f5 {w : World} (hT : Tz w) (first count : Int) {q : Option Addr} {n c : Nat} {l : List Op5} (hs : ScrAt w q n l) (hi1 : I64 first) (hi2 : I64 count) :
    Ret prog 5 #[.int .i64 first, .int .i64 count, .slice q n c] w fun v w' => v = .bool true ∧ Fr0 w w' := by
  have h0 := hT.size
  refine F5_of _ _ _ _ _ _ _ ?_
  unfold F5
  refine Ret.use (f19 first count) ?_
  rintro v w1 ⟨b, bu, bd, rfl, hP1, hf1, hb⟩
  have hd : ¬ Own b bu bd 0 := by unfold Own; omega
  have hown : ∀ x, Own b bu bd x → w.heap.size ≤ x := by intro x hx; unfold Own at hx; omega
  simp only [AsTup_tuple, UnC_cons, UnN_nil, AsI_int, AsP_pointer]
  rw [show (some (⟨b, 0, none⟩ : Addr)).isNone = false from rfl, BIf_false]
  refine Ret.use (f13 (hT.fr0 hf1)) ?_
  rintro v w2 ⟨rfl, hf2⟩
  rw [AsB_bool, Bool.not_true, BIf_false]
  have g1 : 0 ≤ first % 10000 ∧ first % 10000 < 10000 := by omega
  have g2 : 1 ≤ 1 + count % 200 ∧ 1 + count % 200 ≤ 200 := by omega
  obtain ⟨lo, hlo⟩ : ∃ lo : Nat, first % 10000 = lo := ⟨(first % 10000).toNat, by omega⟩
  obtain ⟨m, hm⟩ : ∃ m : Nat, 1 + count % 200 = m := ⟨(1 + count % 200).toNat, by omega⟩
  rw [hlo, hm] at hP1 ⊢
  rw [hlo] at g1; rw [hm] at g2
  simp only [Int.toNat_natCast] at hP1
  have hP2 := hP1.fr0 hf2
  have k1 := hP2.st.lt; have k2 := hP2.us.lt
  have k3 : bd < w2.heap.size := by obtain ⟨ws, _, hws⟩ := hP2.ws; exact hws.lt
  refine RunV.make 38 3 _ 8 m und38 inf3 rfl (by omega) (by omega) fun w3 hbk hf3 hs3 => ?_
  have hf02 := hf1.trans hf2
  have hsz2 := hf02.size
  have hf03 := hf02.trans hf3
  rw [AsSl_slice]
  obtain ⟨bk, hbke⟩ : ∃ bk, w2.heap.size = bk := ⟨_, rfl⟩
  rw [hbke] at hbk ⊢ k1 k2 k3 hsz2
  rw [hbke] at hs3
  have hbk0 : Has w3 bk (i64n (newPool lo m).u) := by simpa [i64n, newPool] using hbk
  have hnb : ¬ Own b bu bd bk := by unfold Own; omega
  clear hbk
  refine Loop.by (fun s w' => ∃ (i : Nat) (bb : Bool) (p : Pool), s = [.int .i64 (i : Int), .bool bb] ∧ i ≤ n ∧ p.first = lo ∧ p.u.length = m ∧ PoolAt w' b bu bd p ∧ Has w' bk (i64n p.u) ∧ Fr0 w w')
    (fun s _ => match s with | [.int _ k, _] => n - k.toNat | _ => 0)
    ⟨0, false, newPool lo m, rfl, by omega, rfl, by simp [newPool], hP2.fr0 hf3, hbk0, hf03⟩ ?_
  rintro _ w4 ⟨i, bb, p, rfl, hi, hpf, hpl, hP4, hB4, hf4⟩
  have hT4 := hT.fr0 hf4
  simp only [UnC_cons, UnN_nil, AsI_int, AsB_bool]
  have hn := hs.lt
  have hN := hP4.ok.n
  have hL := hP4.ok.le
  refine BIf_cases (fun hlt => ?_) (fun hge => ?_)
  · have hil : i < l.length := by rw [hs.len]; omega
    obtain ⟨o, ho⟩ : ∃ o, l[i]? = some o := ⟨_, List.getElem?_eq_getElem hil⟩
    have hok := hs.ok o (List.mem_of_getElem? ho)
    refine (hs.fr0 hf4).use ho ?_
    refine New.mk fun w5 n5 f5 s5 => ?_
    simp only [at0_mk, Nat.zero_add]
    refine n5.st (by simp) rfl fun w6 n6 f6 s6 => ?_
    refine n6.st (by simp) rfl fun w7 n7 f7 s7 => ?_
    refine n7.st (by simp) rfl fun w8 n8 f8 s8 => ?_
    refine n8.st (by simp) rfl fun w9 n9 f9 s9 => ?_
    refine n9.st (by simp) rfl fun w10 n10 f10 s10 => ?_
    replace n10 : Has w10 w4.heap.size o.cells := n10
    have hf410 : Fr0 w4 w10 := ((((f5.mono fun _ _ h => h.elim).trans f6).trans f7).trans f8 |>.trans f9 |>.trans f10).mono fun x hx h => by omega
    obtain ⟨oa, hoa⟩ : ∃ oa, w4.heap.size = oa := ⟨_, rfl⟩
    rw [hoa] at n10 ⊢
    have hbo := hB4.lt
    rw [hoa] at hbo
    have hno : ¬ Own b bu bd oa := by unfold Own; omega
    refine n10.ld rfl ?_
    rw [AsI_int]
    refine n10.ld rfl ?_
    rw [AsI_int]
    refine n10.ld rfl ?_
    rw [AsI_int]
    refine n10.ld rfl ?_
    rw [AsI_int]
    refine n10.ld rfl ?_
    rw [AsI_int]
    have hP10 := hP4.fr0 hf410
    have hB10 := hB4.fr0 hf410
    have hf010 := hf4.trans hf410
    refine Ret.use (f20 hP10 (hT.fr0 hf010) hd o.k o.f o.n o.al o.y hok.f hok.n) ?_
    rintro v w11 ⟨r, e, p', rfl, hst, hP11, hf11⟩
    simp only [AsTup_tuple, UnC_cons, UnN_nil, AsI_int]
    have hB11 := hB10.fr hf11 hnb
    have n11 := n10.fr hf11 hno
    have hf011 := Fr.news hf010 hf11 hown
    obtain ⟨s1, s2⟩ := hst.same
    have hwsz : w.heap.size ≤ oa := by have := hf4.size; omega
    refine Join.at (fun s w' => ∃ bb : Bool, s = [.bool bb] ∧ PoolAt w' b bu bd p' ∧ Has w' bk (i64n p'.u) ∧ Fr0 w w') ?_ ?_
    rotate_left
    · rintro _ w12 ⟨bb', rfl, hP12, hB12, hf12⟩
      simp only [UnC_cons, UnN_nil, AsB_bool]
      rw [← hpf, ← hpl, ← s1, ← s2]
      refine Ret.use (f21 hP12) ?_
      rintro v w13 ⟨uq, uc, rfl, sl13, hf13⟩
      rw [AsSl_slice]
      have hN' := hP12.ok.n
      have h1 := sl13.rd
      have h2 : Rd w13 (some ⟨bk, 0, none⟩) (i64n p'.u) := fun j v hv => ⟨bk, 0, rfl, by rw [Nat.zero_add, (hB12.fr0 hf13).cell]; exact hv⟩
      rw [i64n_eq] at h1 h2
      have hr := f24 (ac := uc) (bc := p'.u.length) h1 h2 (by rw [List.length_map]; omega) (by rw [List.length_map]; omega)
      rw [List.length_map] at hr
      refine Ret.use hr ?_
      rintro v w14 ⟨rfl, hq14⟩
      simp only [AsB_bool, decide_true, Bool.not_true, BIf_false]
      rw [w64 (n := (i : Int) + 1) (by omega) (by omega)]
      refine ⟨⟨i + 1, bb', p', rfl, by omega, by omega, by omega, (hP12.fr0 hf13).qt hq14, (hB12.fr0 hf13).qt hq14, (hf12.trans hf13).trans hq14.fr⟩, ?_⟩
      show n - ((i : Int) + 1).toNat < n - (i : Int).toNat
      omega
    refine Ret.use (f14 _) ?_
    rintro v w12 ⟨rfl, hw⟩
    obtain rfl := hw.symm
    rw [AsI_int]
    refine BIf_eq (fun he => ?_) (fun he => ?_)
    rotate_left
    · obtain rfl := hst.bad_same (by omega)
      exact ⟨bb, rfl, hP11, hB11, hf011⟩
    have he : e = 0 := by omega
    refine n11.ld rfl ?_
    rw [AsI_int]
    refine BIf_cases (fun hk1 => ?_) (fun hk1 => ?_)
    rotate_left
    · obtain rfl := hst.other_same (by omega) (by omega) (by omega)
      exact ⟨bb, rfl, hP11, hB11, hf011⟩
    refine n11.ld rfl ?_
    rw [AsI_int]
    refine BIf_cases (fun hk2 => ?_) (fun hk2 => ?_)
    rotate_left
    · obtain rfl := hst.other_same (by omega) (by omega) (by omega)
      exact ⟨bb, rfl, hP11, hB11, hf011⟩
    obtain ⟨k0, K, fn, hoN, hK1, hKl, hp', hr1, hr2, hfn, hr3⟩ := hst.good he ⟨by omega, hk2⟩
    refine n11.ld rfl ?_
    rw [AsI_int]
    refine Join.at (fun s w' => s = [.int .i64 ((lo + k0 : Nat) : Int)] ∧ w' = w11) ?_ ?_
    · refine n11.ld rfl ?_
      rw [AsI_int]
      refine BIf_eq (fun h1 => ?_) (fun h1 => ?_)
      · refine ⟨?_, rfl⟩
        rw [hr1 h1, hpf]; simp
      · refine ⟨?_, rfl⟩
        rw [hr2 h1, hpf]; simp
    rintro _ _ ⟨rfl, hw⟩
    obtain rfl := hw.symm
    simp only [UnC_cons, UnN_nil, AsI_int]
    refine n11.ld rfl ?_
    rw [AsI_int, hoN]
    refine BIf_neg (by omega) ?_
    refine BIf_neg (by omega) ?_
    rw [w64 (n := (lo : Int) + (m : Int)) (by omega) (by omega)]
    refine BIf_neg (by omega) ?_
    refine n11.ld rfl ?_
    rw [AsI_int, hoN, w64 (n := (lo : Int) + (m : Int) - ((lo + k0 : Nat) : Int)) (by omega) (by omega)]
    refine BIf_neg (by omega) ?_
    rw [w64 (n := ((lo + k0 : Nat) : Int) - (lo : Int)) (by omega) (by omega)]
    have hzle := zeros_le p.u
    refine Loop.by (fun s w' => ∃ (j fr : Nat) (bb : Bool), s = [.int .i64 ((k0 + j : Nat) : Int), .int .i64 (fr : Int), .bool bb] ∧ j ≤ K ∧ fr ≤ j ∧ (o.k ≠ 1 → zeros (turn p.u k0 fn j) = zeros p.u + fr) ∧
        PoolAt w' b bu bd p' ∧ Has w' bk (i64n (turn p.u k0 fn j)) ∧ Has w' oa o.cells ∧ Fr0 w w')
      (fun s _ => match s with | [.int _ k, _, _] => k0 + K - k.toNat | _ => 0)
      ⟨0, 0, bb, by rw [show ((lo + k0 : Nat) : Int) - (lo : Int) = ((k0 + 0 : Nat) : Int) by omega]; rfl, by omega, by omega, fun _ => rfl, hP11, hB11, n11, hf011⟩ ?_
    rintro _ w12 ⟨j, fr, bb1, rfl, hj, hfr, hfz, hP12, hB12, n12, hf12⟩
    simp only [UnC_cons, UnN_nil, AsI_int, AsB_bool]
    refine n12.ld rfl ?_
    rw [AsI_int, hoN, w64 (n := ((lo + k0 : Nat) : Int) - (lo : Int) + (K : Int)) (by omega) (by omega)]
    refine BIf_cases (fun hlt2 => ?_) (fun hge2 => ?_)
    · have hjK : j < K := by omega
      have hidx : k0 + j < p.u.length := by omega
      have hlen : (turn p.u k0 fn j).length = p.u.length := turn_len _ _ _ _
      obtain ⟨e1, e2⟩ := hfn (k0 + j) (by omega) (by omega)
      have hcell : (i64n (turn p.u k0 fn j))[k0 + j]? = some (.int .i64 ((p.u.getD (k0 + j) 0 : Nat) : Int)) := by rw [i64n_get (by omega), turn_end hidx]
      have hu255 := hP4.ok.u _ (List.getElem_mem hidx)
      rw [← getD_get hidx] at hu255
      refine Join.triv ?_
      refine n12.drew.ld rfl ?_
      simp only [AsI_int, NilP_some, at0_mk, Nat.zero_add, Nat.mul_one, Int.toNat_natCast]
      refine ⟨by omega, by omega, ?_⟩
      refine hB12.drew.ld hcell ?_
      rw [AsI_int]
      have hcond : (!(o.k == 1) == (((p.u.getD (k0 + j) 0 : Nat) : Int) == 0)) = false := by
        by_cases h : o.k = 1
        · have := e1.1 h; rw [this, h]; rfl
        · have h2 : p.u.getD (k0 + j) 0 ≠ 0 := fun h3 => h (e1.2 h3)
          have h4 : (((p.u.getD (k0 + j) 0 : Nat) : Int) == 0) = false := beq_eq_false_iff_ne.2 (by omega)
          rw [h4, beq_eq_false_iff_ne.2 h]; rfl
      rw [hcond, BIf_false]
      have hnew : turn p.u k0 fn (j + 1) = (turn p.u k0 fn j).set (k0 + j) (fn (p.u.getD (k0 + j) 0)) := rfl
      refine Join.at (fun s w' => s = [] ∧ PoolAt w' b bu bd p' ∧ Has w' bk (i64n (turn p.u k0 fn (j + 1))) ∧ Has w' oa o.cells ∧ Fr0 w w') ?_ ?_
      · refine n12.drew.ld rfl ?_
        rw [AsI_int]
        have fin : ∀ (x : Int) w13, Has w13 bk ((i64n (turn p.u k0 fn j)).set (k0 + j) (.int .i64 x)) → Fr (· = bk) w12.drew w13 → x = ((fn (p.u.getD (k0 + j) 0) : Nat) : Int) → ([] : List Value) = [] ∧ PoolAt w13 b bu bd p' ∧ Has w13 bk (i64n (turn p.u k0 fn (j + 1))) ∧ Has w13 oa o.cells ∧ Fr0 w w13 := by
          intro x w13 h13 f13 hx
          subst hx
          rw [i64n_set, ← hnew] at h13
          have f13' := f13.of_drew
          refine ⟨rfl, hP12.fr f13' (by omega) (by omega) (by omega), h13, n12.fr f13' (by omega), Fr.news hf12 f13' fun x hx => by omega⟩
        refine BIf_eq (fun h3 => ?_) (fun h3 => ?_)
        · refine ⟨by omega, by omega, ?_⟩
          refine hB12.drew.ld hcell ?_
          rw [AsI_int]
          refine ⟨by omega, by omega, ?_⟩
          have hpos : p.u.getD (k0 + j) 0 ≠ 0 := fun h4 => by have := e1.2 h4; omega
          rw [w64 (n := ((p.u.getD (k0 + j) 0 : Nat) : Int) - 1) (by omega) (by omega)]
          refine hB12.drew.st (by rw [i64n_len]; omega) rfl fun w13 h13 f13 _ => ?_
          exact fin _ w13 h13 f13 (by rw [e2, if_pos h3]; omega)
        · refine ⟨by omega, by omega, ?_⟩
          refine hB12.drew.ld hcell ?_
          rw [AsI_int]
          refine ⟨by omega, by omega, ?_⟩
          rw [w64 (n := ((p.u.getD (k0 + j) 0 : Nat) : Int) + 1) (by omega) (by omega)]
          refine hB12.drew.st (by rw [i64n_len]; omega) rfl fun w13 h13 f13 _ => ?_
          exact fin _ w13 h13 f13 (by rw [e2, if_neg h3]; omega)
      rintro _ w13 ⟨rfl, hP13, hB13, n13, hf13⟩
      rw [UnN_nil]
      refine ⟨by omega, by omega, ?_⟩
      have hcell2 : (i64n (turn p.u k0 fn (j + 1)))[k0 + j]? = some (.int .i64 ((fn (p.u.getD (k0 + j) 0) : Nat) : Int)) := by
        rw [i64n_get (by rw [turn_len]; omega), turn_get p.u k0 fn (k0 + j) (j + 1) (by omega), if_pos (by omega)]
      refine hB13.ld hcell2 ?_
      rw [AsI_int]
      have hz : o.k ≠ 1 → zeros (turn p.u k0 fn (j + 1)) = zeros p.u + (fr + if fn (p.u.getD (k0 + j) 0) = 0 then 1 else 0) := by
        intro h
        rw [turn_zeros hidx (fun h4 => h (e1.2 h4)), hfz h]; omega
      have hmeas : k0 + K - (((k0 + j : Nat) : Int) + 1).toNat < k0 + K - ((k0 + j : Nat) : Int).toNat := by omega
      refine BIf_eq (fun h0 => ?_) (fun h0 => ?_)
      · simp only [UnC_cons, UnN_nil, AsI_int, AsB_bool]
        rw [w64 (n := ((k0 + j : Nat) : Int) + 1) (by omega) (by omega), w64 (n := (fr : Int) + 1) (by omega) (by omega)]
        rw [if_pos (by omega)] at hz
        exact ⟨⟨j + 1, fr + 1, bb1, rfl, by omega, by omega, hz, hP13, hB13, n13, hf13⟩, hmeas⟩
      · simp only [UnC_cons, UnN_nil, AsI_int, AsB_bool]
        rw [w64 (n := ((k0 + j : Nat) : Int) + 1) (by omega) (by omega)]
        rw [if_neg (by omega)] at hz
        exact ⟨⟨j + 1, fr, bb1, rfl, by omega, by omega, hz, hP13, hB13, n13, hf13⟩, hmeas⟩
    · obtain rfl : j = K := by omega
      have hBp : Has w12 bk (i64n p'.u) := by rw [hp']; exact hB12
      refine n12.ld rfl ?_
      rw [AsI_int]
      refine BIf_eq (fun h3 => ?_) (fun h3 => ?_)
      · refine BIf_ne (fun hne => absurd ?_ hne) (fun _ => ?_)
        · rw [hr3 h3, free_zeros, free_zeros, hp']
          have := hfz (by omega)
          show ((zeros (turn p.u k0 fn j) : Nat) : Int) - _ = _
          omega
        · exact ⟨bb1, rfl, hP12, hBp, hf12⟩
      · exact ⟨bb1, rfl, hP12, hBp, hf12⟩
  · refine Loop.by (fun s w' => ∃ (k : Nat) (bb : Bool) (p : Pool), s = [.int .i64 (k : Int), .bool bb] ∧ k ≤ m ∧ p.first = lo ∧ p.u.length = m ∧ (∀ x, x < k → p.u.getD x 0 = 0) ∧ PoolAt w' b bu bd p ∧ Has w' bk (i64n p.u) ∧ Fr0 w w')
      (fun s _ => match s with | [.int _ k, _] => m - k.toNat | _ => 0)
      ⟨0, bb, p, rfl, by omega, hpf, hpl, fun x h => by omega, hP4, hB4, hf4⟩ ?_
    clear hP4 hB4 hf4 hT4 hpf hpl hN hL p
    rintro _ w5 ⟨k, bb1, p, rfl, hk, hpf, hpl, hz, hP5, hB5, hf5⟩
    simp only [UnC_cons, UnN_nil, AsI_int, AsB_bool]
    refine BIf_cases (fun hlt => ?_) (fun hge => ?_)
    · refine Loop.by (fun s w' => ∃ (bb : Bool) (p : Pool), s = [.bool bb] ∧ p.first = lo ∧ p.u.length = m ∧ (∀ x, x < k → p.u.getD x 0 = 0) ∧ PoolAt w' b bu bd p ∧ Has w' bk (i64n p.u) ∧ Fr0 w w')
        (fun _ w' => match w'.cell? ⟨bk, k, none⟩ with | some (.int _ x) => x.toNat | _ => 0)
        ⟨bb1, p, rfl, hpf, hpl, hz, hP5, hB5, hf5⟩ ?_
      clear hP5 hB5 hf5 hpf hpl hz p
      rintro _ w6 ⟨bb2, p, rfl, hpf, hpl, hz, hP6, hB6, hf6⟩
      have hN := hP6.ok.n
      have hL := hP6.ok.le
      have hkm : k < p.u.length := by omega
      have hcell := i64n_get hkm
      have hu255 := hP6.ok.u _ (List.getElem_mem hkm)
      rw [← getD_get hkm] at hu255
      simp only [UnC_cons, UnN_nil, AsI_int, AsB_bool, NilP_some, at0_mk, Nat.zero_add, Nat.mul_one, Int.toNat_natCast]
      refine ⟨by omega, by omega, ?_⟩
      refine hB6.ld hcell ?_
      rw [AsI_int]
      refine BIf_cases (fun hpos => ?_) (fun hzero => ?_)
      · rw [w64 (n := (lo : Int) + (k : Int)) (by omega) (by omega), show (lo : Int) + (k : Int) = ((p.first + k : Nat) : Int) by omega]
        refine Ret.use (f25 hP6 (hT.fr0 hf6) hd _ 1 (by omega) (by omega)) ?_
        have hrun := run_held (p := p) (f := p.first + k) (by omega) (by omega) (by rw [Nat.add_sub_cancel_left]; omega)
        rintro v w7 (⟨hbad, _⟩ | ⟨_, rfl, hP7, hf7⟩)
        · exact absurd (by rw [hrun]) hbad
        simp only [AsTup_tuple, UnC_cons, UnN_nil, AsI_int]
        have ek : (((p.first + k : Nat) : Int) - (p.first : Int)).toNat = k := by omega
        rw [ek] at hP7 ⊢
        have hB7 := hB6.fr hf7 hnb
        have hf07 := Fr.news hf6 hf7 hown
        refine ⟨by omega, by omega, ?_⟩
        refine hB7.ld hcell ?_
        rw [AsI_int]
        refine ⟨by omega, by omega, ?_⟩
        rw [w64 (n := ((p.u.getD k 0 : Nat) : Int) - 1) (by omega) (by omega), show ((p.u.getD k 0 : Nat) : Int) - 1 = ((p.u.getD k 0 - 1 : Nat) : Int) by omega]
        refine hB7.st (by rw [i64n_len]; omega) rfl fun w8 hB8 hf8 _ => ?_
        rw [i64n_set] at hB8
        have hp' : p.turned k (· - 1) (1 : Int).toNat = ⟨p.first, p.u.set k (p.u.getD k 0 - 1)⟩ := rfl
        rw [hp'] at hP7 ⊢
        have hP8 := hP7.fr hf8 (by omega) (by omega) (by omega)
        have hf08 : Fr0 w w8 := Fr.news hf07 hf8 fun x hx => by omega
        refine Ret.use (f14 _) ?_
        rintro v w9 ⟨rfl, hw⟩
        obtain rfl := hw.symm
        rw [AsI_int]
        refine BIf_ne (fun h => absurd rfl h) (fun _ => ?_)
        refine ⟨by omega, by omega, ?_⟩
        have hgd : (p.u.set k (p.u.getD k 0 - 1)).getD k 0 = p.u.getD k 0 - 1 := by rw [getD_set _ _ _ _ hkm, if_pos rfl]
        have hlen2 : (p.u.set k (p.u.getD k 0 - 1)).length = p.u.length := List.length_set
        have hc8 := i64n_get (l := p.u.set k (p.u.getD k 0 - 1)) (i := k) (by omega)
        rw [hgd] at hc8
        refine hB8.ld hc8 ?_
        rw [AsI_int]
        have hcnt := count_set p.u k (p.u.getD k 0 - 1) hkm
        rw [← getD_get hkm, if_neg (by omega)] at hcnt
        have hfree : ((Pool.free ⟨p.first, p.u.set k (p.u.getD k 0 - 1)⟩ : Nat) : Int) - (p.free : Int) = if p.u.getD k 0 - 1 = 0 then 1 else 0 := by
          unfold Pool.free
          simp only [Nat.add_zero] at hcnt
          show ((List.countP (· = 0) (p.u.set k (p.u.getD k 0 - 1)) : Nat) : Int) - ((List.countP (· = 0) p.u : Nat) : Int) = _
          rw [hcnt]
          split <;> omega
        rw [hfree]
        have hcond : (!((if p.u.getD k 0 - 1 = 0 then (1 : Int) else 0) == 1) == (((p.u.getD k 0 - 1 : Nat) : Int) == 0)) = false := by
          by_cases h : p.u.getD k 0 - 1 = 0
          · rw [if_pos h, h]; rfl
          · have h4 : (((p.u.getD k 0 - 1 : Nat) : Int) == 0) = false := beq_eq_false_iff_ne.2 (by omega)
            rw [if_neg h, h4]; rfl
        rw [hcond, BIf_false]
        refine ⟨⟨bb2, ⟨p.first, p.u.set k (p.u.getD k 0 - 1)⟩, rfl, hpf, by rw [← hpl]; exact hlen2, fun x hx => ?_, hP8, hB8, hf08⟩, ?_⟩
        · rw [getD_set _ _ _ _ hkm, if_neg (by omega)]; exact hz x hx
        · rw [hB8.cell, hc8, hB6.cell, hcell]
          show (((p.u.getD k 0 - 1 : Nat) : Int)).toNat < (((p.u.getD k 0 : Nat) : Int)).toNat
          omega
      · rw [w64 (n := (k : Int) + 1) (by omega) (by omega)]
        refine ⟨⟨k + 1, bb2, p, rfl, by omega, hpf, hpl, fun x hx => ?_, hP6, hB6, hf6⟩, ?_⟩
        · by_cases e : x = k
          · subst e; omega
          · exact hz x (by omega)
        · show m - ((k : Int) + 1).toNat < m - (k : Int).toNat
          omega
    · have hk2 : k = m := by omega
      have hall : ∀ x, p.u.getD x 0 = 0 := by
        intro x
        by_cases hx : x < m
        · exact hz x (by omega)
        · simp [List.getD, List.getElem?_eq_none (show p.u.length ≤ x by omega)]
      refine Ret.use (f26 hP5) ?_
      rintro v w6 ⟨rfl, hw⟩
      obtain rfl := hw.symm
      rw [AsI_int]
      have hfree : p.free = m := by rw [← hpl]; exact all_zero_count hall
      rw [hfree]
      refine BIf_eq (fun _ => ?_) (fun h => absurd rfl h)
      refine Ret.use (f28 hP5 (hT.fr0 hf5)) ?_
      rintro v w6 ⟨rq, rc, rfl, sl6, hf6⟩
      rw [AsSl_slice]
      have hruns : p.runs = [(0, m)] := by rw [← hpl]; exact all_zero_runs hall (by omega)
      refine RunV.build1 E55 (by decide) rfl fun w7 h7 hf7 _ => ?_
      rw [AsSl_slice]
      have hR1 : RunsAt w7 rq p.runs.length p.first p.runs := ⟨sl6.rd.fr0 hf7, rfl⟩
      have hR2 : RunsAt w7 (some ⟨w6.heap.size, 0, none⟩) 1 p.first [(0, m)] := by
        refine ⟨fun j v hv => ⟨_, 0, rfl, ?_⟩, rfl⟩
        rw [Nat.zero_add, h7.cell]
        have e : (Value.agg #[Value.int .i64 (lo : Int), .int .i64 (m : Int)]).cells.toList = runCells p.first [(0, m)] := by
          simp [runCells, Value.cells, hpf]
        rw [e]; exact hv
      refine Ret.use (f27 (ac := rc) (bc := 1) hR1 hR2 (by rw [hruns]; simp)) ?_
      rintro v w8 ⟨rfl, hq8⟩
      rw [AsB_bool, hruns]
      refine ⟨by simp, ((hf5.trans hf6).trans hf7).trans hq8.fr⟩
end Go.Proofs.YthpodlcbikialaaDoor
