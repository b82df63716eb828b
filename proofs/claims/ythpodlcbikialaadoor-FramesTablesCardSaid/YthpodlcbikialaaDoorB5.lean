import Derived.Test.YthpodlcbikialaaDoorB4
import Derived.Test.YthpodlcbikialaaDoorShEq
set_option linter.unusedVariables false
set_option linter.unusedSimpArgs false
namespace Go.Proofs.YthpodlcbikialaaDoor
open Go Go.Sh Go.Fr

theorem A84 : ArrT prog 84 4 4 := ⟨by kernel_rfl, by kernel_rfl, by kernel_rfl, by kernel_rfl, by kernel_rfl⟩
theorem und4 : prog.underlying 4 = some .bool := by kernel_rfl
theorem run_held {p : Pool} {f : Nat} (h1 : p.first ≤ f) (h2 : f < p.first + p.u.length) (h3 : 0 < p.u.getD (f - p.first) 0) : p.run (f : Int) 1 = (f - p.first, 0) := by
  have e : ((f : Int) - (p.first : Int)).toNat = f - p.first := by omega
  have hk : f - p.first < p.u.length := by omega
  obtain ⟨n1, n2, n3, n4⟩ := next_spec p.u false (f - p.first)
  have hn : f - p.first + 1 ≤ next p.u false (f - p.first) := by
    rcases Nat.lt_or_ge (f - p.first) (next p.u false (f - p.first)) with h | h
    · exact h
    · have h5 := n2 (by omega)
      have e2 : next p.u false (f - p.first) = f - p.first := by omega
      have := n3 (by omega)
      simp only [e2] at this
      rw [getD_get hk] at h3
      simp at this; omega
  unfold Pool.run
  rw [if_neg (by omega), if_neg (by omega), e, if_neg (by omega)]
/-- what a slab's Drop may answer -/
inductive SDrop (p : Pool) (l : List Qr) (t : Int) : Nat → Pool → List Qr → Prop
  | none (h : ∀ q ∈ l, ∀ k : Nat, k < 4 → q.u k = true → t ≠ 4 * (q.f : Int) + k) : SDrop p l t 45 p l
  | more (i k : Nat) (q : Qr) (h : l[i]? = some q) (hk : k < 4) (hu : q.u k = true) (ht : t = 4 * (q.f : Int) + k) (hm : ∃ k', k' < 4 ∧ k' ≠ k ∧ q.u k' = true) : SDrop p l t 0 p (l.set i (q.set k false))
  | last (i k : Nat) (q : Qr) (h : l[i]? = some q) (hk : k < 4) (hu : q.u k = true) (ht : t = 4 * (q.f : Int) + k) (hm : ∀ k', k' < 4 → k' ≠ k → q.u k' = false) :
      SDrop p l t 0 (p.turned (q.f - p.first) (· - 1) 1) (l.take i ++ l.drop (i + 1))
theorem SlabOk.cut {l : List Qr} (h : SlabOk l) (i : Nat) : SlabOk (l.take i ++ l.drop (i + 1)) := by
  have hs : (l.take i ++ l.drop (i + 1)).Sublist l := by
    rw [← List.eraseIdx_eq_take_drop_succ]; exact List.eraseIdx_sublist _ _
  exact ⟨fun q hq => h.lt q (hs.subset hq), h.rise.sublist hs, fun q hq => h.any q (hs.subset hq)⟩

theorem f33 {w : World} {b bu bd s c : Nat} {g : Option Addr} {p : Pool} {l : List Qr} (hP : PoolAt w b bu bd p) (hT : Tz w) (hd : ¬ OwnS b bu bd s g 0) (hS : SlabAt w s b g c l) (hH : Held p l)
    (hs : ¬ Own b bu bd s) (hg : ∀ x, On g x → ¬ Own b bu bd x) (t : Int) (ht : -9223372036854775808 ≤ t ∧ t ≤ 9223372036854775807) :
    Ret prog 33 #[.pointer (some ⟨s, 0, none⟩), .int .i64 t] w fun v w' => ∃ (e : Nat) (p' : Pool) (l' : List Qr) (g' : Option Addr) (c' : Nat), v = .int .i64 (e : Int) ∧ SDrop p l t e p' l' ∧
      PoolAt w' b bu bd p' ∧ SlabAt w' s b g' c' l' ∧ Fr (OwnS b bu bd s g) w w' ∧ ∀ x, On g' x → On g x ∨ w.heap.size ≤ x := by
  have hN := hS.ok.len
  have hL := hP.ok.le
  refine F33_of _ _ _ _ ?_
  unfold F33
  simp only [at0_mk, Nat.zero_add]
  refine hS.st.ld rfl ?_
  rw [AsSl_slice]
  refine Loop.by (fun s w' => ∃ (i : Nat) (a : Int), s = [.int .i64 (i : Int), .int .i64 a] ∧ i ≤ l.length ∧ w' = w ∧ ∀ i' q', i' < i → l[i']? = some q' → ∀ k : Nat, k < 4 → q'.u k = true → t ≠ 4 * (q'.f : Int) + k)
    (fun s _ => match s with | [.int _ k, _] => l.length - k.toNat | _ => 0)
    ⟨0, 0, rfl, by omega, rfl, fun i' q' h => by omega⟩ ?_
  rintro _ _ ⟨i, a, rfl, hi, hw, hno⟩
  obtain rfl := hw.symm
  simp only [UnC_cons, UnN_nil, AsI_int]
  refine BIf_cases (fun hlt => ?_) (fun hge => ?_)
  · have hil : i < l.length := by omega
    obtain ⟨x, hx⟩ : ∃ x, l[i]? = some x := ⟨_, List.getElem?_eq_getElem hil⟩
    have hxm := List.mem_of_getElem? hx
    have hxf := hS.ok.lt x hxm
    refine hS.st.ld rfl ?_
    obtain ⟨gb, sp, rfl, _, hh⟩ := hS.sl.some_ (by omega)
    simp only [AsSl_slice, NilP_some, at0_mk, Nat.zero_add, Int.toNat_natCast]
    refine ⟨by omega, by omega, ?_⟩
    refine hh.ld (q_get0 hx sp) ?_
    rw [AsI_int, w64 (n := (4 : Int) * ((x.f : Nat) : Int)) (by omega) (by omega), w64 (n := (i : Int) + 1) (by omega) (by omega)]
    have hW1 : ∀ k : Nat, k < 4 → t = 4 * (x.f : Int) + k → IntKind.i64.wrap (t - 4 * (x.f : Int)) = k := by
      intro k hk e; rw [IntKind.wrap_i64]; omega
    have hW2 : 0 ≤ IntKind.i64.wrap (t - 4 * (x.f : Int)) → IntKind.i64.wrap (t - 4 * (x.f : Int)) ≤ 3 → t = 4 * (x.f : Int) + IntKind.i64.wrap (t - 4 * (x.f : Int)) := by
      rw [IntKind.wrap_i64]; omega
    generalize IntKind.i64.wrap (t - 4 * (x.f : Int)) = W at hW1 hW2 ⊢
    have hmeas : l.length - ((i : Int) + 1).toNat < l.length - (i : Int).toNat := by omega
    have goOn : (∀ k : Nat, k < 4 → x.u k = true → t ≠ 4 * (x.f : Int) + k) → ∃ (i_1 : Nat) (a_1 : Int), [Value.int .i64 ((i : Int) + 1), .int .i64 a] = [.int .i64 (i_1 : Int), .int .i64 a_1] ∧ i_1 ≤ l.length ∧ w = w ∧ ∀ i' q', i' < i_1 → l[i']? = some q' → ∀ k : Nat, k < 4 → q'.u k = true → t ≠ 4 * (q'.f : Int) + k := by
      intro hx2
      refine ⟨i + 1, a, rfl, by omega, rfl, fun i' q' h h2 => ?_⟩
      by_cases e : i' = i
      · subst e; rw [hx] at h2; injection h2 with h2; subst h2; exact hx2
      · exact hno i' q' (by omega) h2
    refine BIf_cases (fun h1 => ?_) (fun h1 => ?_)
    · refine ⟨?_, hmeas⟩
      simpa using goOn (fun k hk hu e => by have := hW1 k hk e; omega)
    refine BIf_cases (fun h2 => ?_) (fun h2 => ?_)
    · refine ⟨?_, hmeas⟩
      simpa using goOn (fun k hk hu e => by have := hW1 k hk e; omega)
    obtain ⟨k, rfl⟩ : ∃ k : Nat, W = k := ⟨W.toNat, by omega⟩
    have hk : k < 4 := by omega
    have htk := hW2 (by omega) (by omega)
    simp only [Int.toNat_natCast, Nat.mul_one]
    refine ⟨by omega, by omega, ?_⟩
    refine hh.ld (q_getk hx sp k hk) ?_
    rw [AsB_bool, BIf_not]
    refine BIf_b (fun hu => ?_) (fun hu => ?_)
    rotate_left
    · refine ⟨?_, hmeas⟩
      simpa using goOn (fun k' hk' hu' e => by
        have : k' = k := by omega
        subst this; rw [hu] at hu'; cases hu')
    refine ⟨by omega, by omega, ?_⟩
    refine hS.sl.st rfl (by rw [hS.sl.len]; omega) rfl fun w1 sl1 f1 s1 => ?_
    have e : (qsCells l).set (i * 5 + 1 + k) (.bool false) = qsCells (l.set i (x.set k false)) := by
      rw [Nat.add_assoc]; exact flat_set q_len l i (1 + k) (by omega) x _ hx (q_set x k hk false)
    rw [e] at sl1
    obtain ⟨gb', sp', e2, _, hh1⟩ := sl1.some_ (by omega)
    injection e2 with e2; injection e2 with e2; subst e2
    have hy : (l.set i (x.set k false))[i]? = some (x.set k false) := by simp [hil]
    refine hh1.ld (q_get hy sp' 1 (by decide)) ?_
    rw [AsB_bool]
    refine hh1.ld (q_get hy sp' 2 (by decide)) ?_
    rw [AsB_bool]
    refine hh1.ld (q_get hy sp' 3 (by decide)) ?_
    rw [AsB_bool]
    refine hh1.ld (q_get hy sp' 4 (by decide)) ?_
    rw [AsB_bool]
    have hP1 : PoolAt w1 b bu bd p := hP.fr f1 (fun h => hg _ h (.inl rfl)) (fun h => hg _ h (.inr (.inl rfl))) (fun h => hg _ h (.inr (.inr rfl)))
    have st1 := hS.st.fr f1 hS.ne
    have hset : ∀ j, (x.set k false).u j = if j = k then false else x.u j := fun j => rfl
    refine RunP.eqlArr A84 (fun j hj => ?_) (fun r hr => ?_)
    · rcases j with _ | _ | _ | _ | j
      · exact ⟨_, _, rfl, rfl, .inr ⟨_, _, und4, rfl, rfl⟩⟩
      · exact ⟨_, _, rfl, rfl, .inr ⟨_, _, und4, rfl, rfl⟩⟩
      · exact ⟨_, _, rfl, rfl, .inr ⟨_, _, und4, rfl, rfl⟩⟩
      · exact ⟨_, _, rfl, rfl, .inr ⟨_, _, und4, rfl, rfl⟩⟩
      · omega
    have hr' : r = true ↔ ∀ j, j < 4 → (x.set k false).u j = false := by
      rw [hr]
      constructor
      · intro h j hj
        have := h j hj
        rcases j with _ | _ | _ | _ | j
        · injection this with this; injection this
        · injection this with this; injection this
        · injection this with this; injection this
        · injection this with this; injection this
        · omega
      · intro h j hj
        have := h j hj
        rcases j with _ | _ | _ | _ | j
        · show some (Value.bool _) = some (Value.bool _); rw [this]
        · show some (Value.bool _) = some (Value.bool _); rw [this]
        · show some (Value.bool _) = some (Value.bool _); rw [this]
        · show some (Value.bool _) = some (Value.bool _); rw [this]
        · omega
    rw [AsB_bool]
    refine BIf_b (fun hb => ?_) (fun hb => ?_)
    · have hall := hr'.1 hb
      refine hh1.ld (q_get0 hy sp') ?_
      rw [AsI_int]
      refine st1.drew.ld rfl ?_
      rw [AsSl_slice]
      have hle := sl1.le
      refine ⟨by omega, by omega, ?_⟩
      refine st1.drew.ld rfl ?_
      rw [AsSl_slice]
      refine ⟨by omega, by omega, ?_⟩
      rw [slAddr_zero, Nat.sub_zero, Nat.sub_zero]
      have slD := sl1.qt (Qt.refl w1).drew
      have src := slD.src_sub (lo := i + 1) (hi := l.length) (by omega) (Nat.le_refl _)
      have ex : ((qsCells (l.set i (x.set k false))).drop ((i + 1) * 5)).take ((l.length - (i + 1)) * 5) = qsCells (l.drop (i + 1)) := by
        rw [qsCells, flat_drop q_len, List.take_of_length_le (by rw [flat_len q_len, List.length_drop, List.length_set]; omega)]
        rw [List.drop_set_of_lt (by omega)]
        rfl
      have ex2 : (qsCells (l.set i (x.set k false))).take (i * 5) = qsCells (l.take i) := by
        rw [qsCells, flat_take q_len, List.take_set_of_le (Nat.le_refl _)]
        rfl
      have pre := slD.pre (i := i) (by omega)
      rw [ex] at src
      rw [ex2] at pre
      have e3 : ((i : Int) + 1).toNat = i + 1 := by omega
      rw [e3]
      refine append_src E78 pre (Nat.zero_le _) src qs_one (by simp only [maxLen]; omega) (by omega) fun p2 c2 w2 sl2 f2 on2 => ?_
      rw [AsSl_slice]
      have st2 := (st1.drew).fr f2 hS.ne
      refine st2.st (by simp) rfl fun w3 st3 f3 s3 => ?_
      refine st3.ld rfl ?_
      rw [AsP_pointer]
      have f2' : Fr (On (some ⟨gb, 0, none⟩)) w1 w2 := f2.of_drew
      have hP2 : PoolAt w2 b bu bd p := hP1.fr f2' (fun h => hg _ h (.inl rfl)) (fun h => hg _ h (.inr (.inl rfl))) (fun h => hg _ h (.inr (.inr rfl)))
      have hP3 : PoolAt w3 b bu bd p := hP2.fr f3 (fun h => hs (.inl h.symm)) (fun h => hs (.inr (.inl h.symm))) (fun h => hs (.inr (.inr h.symm)))
      have fall : Fr (OwnS b bu bd s (some ⟨gb, 0, none⟩)) w w3 := ((f1.mono fun _ _ h => .inr (.inr h)).trans (f2'.mono fun _ _ h => .inr (.inr h))).trans (f3.mono fun _ _ h => .inr (.inl h))
      have hT3 := hT.fr fall hd
      obtain ⟨m1, m2, m3⟩ := hH x hxm
      refine Ret.use (f25 hP3 hT3 (fun h => hd (.inl h)) ((x.set k false).f : Int) 1 (by show -9223372036854775808 ≤ ((x.f : Nat) : Int) ∧ ((x.f : Nat) : Int) ≤ 9223372036854775807; omega) (by omega)) ?_
      have hrun := run_held m1 m2 m3
      rintro v w4 (⟨hbad, _⟩ | ⟨_, rfl, hP4, f4⟩)
      · exact absurd (show (p.run ((x.set k false).f : Int) 1).2 = 0 by show (p.run ((x.f : Nat) : Int) 1).2 = 0; rw [hrun]) hbad
      simp only [AsTup_tuple, UnC_cons, UnN_nil, AsI_int]
      have hsz : w.heap.size ≤ w2.heap.size := Nat.le_trans f1.size f2'.size
      have hon : ∀ y, On p2 y → On (some ⟨gb, 0, none⟩) y ∨ w.heap.size ≤ y := by
        intro y hy
        rcases on2 y hy with h | h
        · exact .inl h
        · have h6 : w1.drew.heap.size = w1.heap.size := rfl
          have := f1.size
          exact .inr (by omega)
      have hneo : ∀ y, On p2 y → ¬ Own b bu bd y ∧ y ≠ s := by
        intro y hy
        have hsl := hS.st.lt
        have l1 := hP.st.lt; have l2 := hP.us.lt
        obtain ⟨ws, _, hws⟩ := hP.ws
        have l3 := hws.lt
        rcases hon y hy with h | h
        · exact ⟨hg y h, fun e => hS.ne (e ▸ h)⟩
        · refine ⟨fun h' => ?_, by omega⟩
          unfold Own at h'; omega
      refine ⟨0, p.turned (x.f - p.first) (· - 1) 1, l.take i ++ l.drop (i + 1), p2, c2, rfl, .last i k x hx hk hu htk fun k' hk' hne => ?_, ?_, ⟨?_, ?_, fun h => ?_, hS.ok.cut i⟩, fall.trans (f4.mono fun _ _ h => .inl h), hon⟩
      · have := hall k' hk'; rw [hset, if_neg hne] at this; exact this
      · have e4 : (((x.set k false).f : Int) - (p.first : Int)).toNat = x.f - p.first := by show (((x.f : Nat) : Int) - (p.first : Int)).toNat = _; omega
        rw [e4] at hP4; exact hP4
      · have := st3.fr f4 hs
        have e5 : (l.take i ++ l.drop (i + 1)).length = i + (l.length - (i + 1)) := by simp; omega
        rw [e5]; exact this
      · have e5 : (l.take i ++ l.drop (i + 1)).length = i + (l.length - (i + 1)) := by simp; omega
        rw [e5, qsCells, List.flatMap_append]
        exact (sl2.fr f3 fun y hy h => (hneo y hy).2 h).fr f4 fun y hy h => (hneo y hy).1 h
      · exact (hneo _ h).2 rfl
    · have hany : ∃ k', k' < 4 ∧ k' ≠ k ∧ x.u k' = true := by
        refine Classical.byContradiction fun hn => ?_
        have : r = true := hr'.2 fun j hj => by
          rw [hset]; split
          · rfl
          · rename_i hne
            cases hxu : x.u j
            · rfl
            · exact absurd ⟨j, hj, hne, hxu⟩ hn
        rw [hb] at this; cases this
      refine ⟨0, p, l.set i (x.set k false), some ⟨gb, 0, none⟩, c, rfl, .more i k x hx hk hu htk hany, hP1, ⟨by rw [List.length_set]; exact st1, by rw [List.length_set]; exact sl1, hS.ne, hS.ok.of_f (set_f hx rfl) fun y hy => ?_⟩, f1.mono (fun _ _ h => .inr (.inr h)), fun y hy => .inl hy⟩
      rcases List.mem_or_eq_of_mem_set hy with hy | rfl
      · exact hS.ok.any y hy
      · obtain ⟨k', h1, h2, h3⟩ := hany
        exact ⟨k', h1, by rw [hset, if_neg h2]; exact h3⟩
  · obtain rfl : i = l.length := by omega
    refine ⟨45, p, l, g, c, rfl, .none fun q hq => ?_, hP, hS, Fr.refl _ _, fun x hx => .inl hx⟩
    obtain ⟨j, hj, rfl⟩ := List.getElem_of_mem hq
    exact hno j _ hj (List.getElem?_eq_getElem hj)

theorem f12 {w : World} (b : Nat) : Ret prog 12 #[.pointer (some ⟨b, 0, none⟩)] w fun v w' => v = .tuple #[.pointer (some ⟨w.heap.size, 0, none⟩), .int .i64 0] ∧ SlabAt w' w.heap.size b none 0 [] ∧ Fr0 w w' ∧ w'.heap.size = w.heap.size + 1 := by
  refine F12_of _ _ _ ?_
  unfold F12
  refine New.mk fun w1 n1 f1 s1 => ?_
  exact ⟨rfl, ⟨n1, Sl.nil _ _ _ _, (fun ⟨a, h, _⟩ => by cases h), ⟨fun q h => by simp at h, by simp, fun q h => by simp at h⟩⟩, f1, s1⟩
theorem f12o {w : World} : Ret prog 12 #[.pointer none] w fun v w' => v = .tuple #[.pointer none, .int .i64 3] ∧ w' = w := by
  refine F12o_of _ _ _ ?_
  unfold F12o
  exact ⟨rfl, rfl⟩
end Go.Proofs.YthpodlcbikialaaDoor
