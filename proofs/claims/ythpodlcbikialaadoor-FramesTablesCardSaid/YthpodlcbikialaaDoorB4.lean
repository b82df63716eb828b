import Derived.Test.YthpodlcbikialaaDoorB3
set_option linter.unusedVariables false
set_option linter.unusedSimpArgs false
namespace Go.Proofs.YthpodlcbikialaaDoor
open Go Go.Sh Go.Fr

/-- every frame of the slab is the pool's, and in use -/
def Held (p : Pool) (l : List Qr) : Prop := ∀ q ∈ l, p.first ≤ q.f ∧ q.f < p.first + p.u.length ∧ 0 < p.u.getD (q.f - p.first) 0
/-- what a slab's Take may answer -/
inductive STake (p : Pool) (l : List Qr) : Nat → Nat → Pool → List Qr → Prop
  | old (i k : Nat) (q : Qr) (h : l[i]? = some q) (hk : k < 4) (h0 : q.u k = false) (h1 : ∀ k', k' < k → q.u k' = true) (h2 : ∀ i' q', i' < i → l[i']? = some q' → ∀ k', k' < 4 → q'.u k' = true) :
      STake p l (4 * q.f + k) 0 p (l.set i (q.set k true))
  | none (h : ∀ q ∈ l, ∀ k, k < 4 → q.u k = true) (hn : ∀ a, ¬ Fit p.first p.u 1 1 a) : STake p l 0 42 p l
  | fresh (h : ∀ q ∈ l, ∀ k, k < 4 → q.u k = true) (a : Nat) (hf : Fit p.first p.u 1 1 a) (hl : ∀ a', a' < a → ¬ Fit p.first p.u 1 1 a') :
      STake p l (4 * (p.first + a)) 0 (p.turned a (fun _ => 1) 1) (insq (p.first + a) l)
theorem badTake11 : ¬ badTake 1 1 := by
  unfold badTake
  have : pow2B (1 : Int).toNat = true := by decide
  rw [this]; simp
theorem q_set (q : Qr) (k : Nat) (hk : k < 4) (v : Bool) : qCells (q.set k v) = (qCells q).set (1 + k) (.bool v) := by
  rcases k with _ | _ | _ | _ | k
  · rfl
  · rfl
  · rfl
  · rfl
  · omega
theorem set_f {l : List Qr} {i : Nat} {q y : Qr} (h : l[i]? = some q) (hy : y.f = q.f) : (l.set i y).map Qr.f = l.map Qr.f := by
  rw [List.map_set, hy]
  apply List.ext_getElem? ; intro j
  rw [List.getElem?_set]
  split
  · rename_i e; subst e
    have hl := (List.getElem?_eq_some_iff.1 h).1
    simp [hl, (List.getElem?_eq_some_iff.1 h).2]
  · rfl
theorem SlabOk.of_f {l l' : List Qr} (h : SlabOk l) (e : l'.map Qr.f = l.map Qr.f) (hs : ∀ q ∈ l', ∃ k, k < 4 ∧ q.u k = true) : SlabOk l' := by
  refine ⟨fun q hq => ?_, ?_, hs⟩
  · have h1 : q.f ∈ l'.map Qr.f := List.mem_map_of_mem hq
    rw [e] at h1
    obtain ⟨x, hx, hx2⟩ := List.mem_map.1 h1
    rw [← hx2]; exact h.lt x hx
  · have h1 : (l.map Qr.f).Pairwise (· < ·) := List.pairwise_map.2 h.rise
    rw [← e] at h1
    exact List.pairwise_map.1 h1
theorem SlabOk.set {l : List Qr} (h : SlabOk l) {i k : Nat} {q : Qr} (hq : l[i]? = some q) (hk : k < 4) : SlabOk (l.set i (q.set k true)) := by
  refine h.of_f (set_f hq rfl) fun x hx => ?_
  rcases List.mem_or_eq_of_mem_set hx with hx | rfl
  · exact h.any x hx
  · exact ⟨k, hk, by simp [Qr.set]⟩
/-- a slab's blocks and the pool's -/
def OwnS (b bu bd s : Nat) (g : Option Addr) (x : Nat) : Prop := Own b bu bd x ∨ x = s ∨ On g x

theorem f30 {w : World} {b bu bd s c : Nat} {g : Option Addr} {p : Pool} {l : List Qr} (hP : PoolAt w b bu bd p) (hT : Tz w) (hd : ¬ Own b bu bd 0) (hS : SlabAt w s b g c l) (hH : Held p l)
    (hs : ¬ Own b bu bd s) (hg : ∀ x, On g x → ¬ Own b bu bd x) :
    Ret prog 30 #[.pointer (some ⟨s, 0, none⟩)] w fun v w' => ∃ (r e : Nat) (p' : Pool) (l' : List Qr) (g' : Option Addr) (c' : Nat), v = .tuple #[.int .i64 (r : Int), .int .i64 (e : Int)] ∧ STake p l r e p' l' ∧
      PoolAt w' b bu bd p' ∧ SlabAt w' s b g' c' l' ∧ Fr (OwnS b bu bd s g) w w' ∧ ∀ x, On g' x → On g x ∨ w.heap.size ≤ x := by
  have hN := hS.ok.len
  have hL := hP.ok.le
  refine F30_of _ _ _ ?_
  unfold F30
  simp only [at0_mk, Nat.zero_add]
  refine hS.st.ld rfl ?_
  rw [AsSl_slice]
  refine Loop.by (fun s w' => ∃ (i : Nat) (a b : Int), s = [.int .i64 (i : Int), .int .i64 a, .int .i64 b] ∧ i ≤ l.length ∧ w' = w ∧ ∀ i' q', i' < i → l[i']? = some q' → ∀ k', k' < 4 → q'.u k' = true)
    (fun s _ => match s with | [.int _ k, _, _] => l.length - k.toNat | _ => 0)
    ⟨0, 0, 0, rfl, by omega, rfl, fun i' q' h => by omega⟩ ?_
  rintro _ _ ⟨i, a, b', rfl, hi, hw, hfull⟩
  obtain rfl := hw.symm
  simp only [UnC_cons, UnN_nil, AsI_int]
  refine BIf_cases (fun hlt => ?_) (fun hge => ?_)
  · have hil : i < l.length := by omega
    obtain ⟨x, hx⟩ : ∃ x, l[i]? = some x := ⟨_, List.getElem?_eq_getElem hil⟩
    have hxf := hS.ok.lt x (List.mem_of_getElem? hx)
    obtain ⟨gb, sp, rfl, _, hh⟩ := hS.sl.some_ (by omega)
    refine Loop.by (fun s w' => ∃ (k : Nat) (a b : Int), s = [.int .i64 (k : Int), .int .i64 a, .int .i64 b] ∧ k ≤ 4 ∧ w' = w ∧ ∀ k', k' < k → x.u k' = true)
      (fun s _ => match s with | [.int _ k, _, _] => 4 - k.toNat | _ => 0)
      ⟨0, a, b', rfl, by omega, rfl, fun k' h => by omega⟩ ?_
    rintro _ _ ⟨k, a, b', rfl, hk, hw, hused⟩
    obtain rfl := hw.symm
    simp only [UnC_cons, UnN_nil, AsI_int]
    refine BIf_cases (fun hlt => ?_) (fun hge => ?_)
    · have hk4 : k < 4 := by omega
      refine hS.st.ld rfl ?_
      simp only [AsSl_slice, NilP_some, at0_mk, Nat.zero_add, Int.toNat_natCast, Nat.mul_one]
      refine ⟨by omega, by omega, by omega, by omega, ?_⟩
      refine hh.ld (q_getk hx sp k hk4) ?_
      rw [AsB_bool, BIf_not]
      refine BIf_b (fun hu => ?_) (fun hu => ?_)
      · rw [w64 (n := (k : Int) + 1) (by omega) (by omega)]
        refine ⟨⟨k + 1, a, b', by trivial, by omega, by trivial, fun k' hk' => ?_⟩, ?_⟩
        · by_cases e : k' = k
          · subst e; exact hu
          · exact hused k' (by omega)
        · show 4 - ((k : Int) + 1).toNat < 4 - (k : Int).toNat
          omega
      · refine hS.st.ld rfl ?_
        simp only [AsSl_slice, NilP_some, at0_mk, Nat.zero_add, Int.toNat_natCast, Nat.mul_one]
        refine ⟨by omega, by omega, by omega, by omega, ?_⟩
        refine hS.sl.st rfl (by rw [hS.sl.len]; omega) rfl fun w1 sl1 f1 s1 => ?_
        have st1 := hS.st.fr f1 hS.ne
        refine st1.ld rfl ?_
        simp only [AsSl_slice, NilP_some, at0_mk, Nat.zero_add, Int.toNat_natCast, Nat.mul_one]
        refine ⟨by omega, by omega, ?_⟩
        have e : (qsCells l).set (i * 5 + 1 + k) (.bool true) = qsCells (l.set i (x.set k true)) := by
          rw [Nat.add_assoc]; exact flat_set q_len l i (1 + k) (by omega) x _ hx (q_set x k hk4 true)
        rw [e] at sl1
        obtain ⟨gb', sp', e2, _, hh1⟩ := sl1.some_ (by omega)
        injection e2 with e2; injection e2 with e2; subst e2
        refine hh1.ld (q_get0 (q := x.set k true) (by simp [hil]) sp') ?_
        rw [AsI_int]
        show ∃ _, _
        rw [w64 (n := (4 : Int) * (((x.set k true).f : Nat) : Int)) (by show -9223372036854775808 ≤ (4 : Int) * ((x.f : Nat) : Int); omega) (by show (4 : Int) * ((x.f : Nat) : Int) ≤ 9223372036854775807; omega)]
        show ∃ _, _
        rw [w64 (n := (4 : Int) * (((x.set k true).f : Nat) : Int) + (k : Int)) (by show -9223372036854775808 ≤ (4 : Int) * ((x.f : Nat) : Int) + (k : Int); omega) (by show (4 : Int) * ((x.f : Nat) : Int) + (k : Int) ≤ 9223372036854775807; omega)]
        refine ⟨4 * x.f + k, 0, p, l.set i (x.set k true), some ⟨gb, 0, none⟩, c, ?_, .old i k x hx hk4 hu hused hfull, ?_, ⟨?_, ?_, hS.ne, hS.ok.set hx hk4⟩, f1.mono (fun _ _ h => .inr (.inr h)), fun x hx => .inl hx⟩
        · simp [Qr.set]
        · exact hP.fr f1 (fun h => hg _ h (.inl rfl)) (fun h => hg _ h (.inr (.inl rfl))) (fun h => hg _ h (.inr (.inr rfl)))
        · simpa using st1
        · simpa using sl1
    · have hk4 : k = 4 := by omega
      rw [w64 (n := (i : Int) + 1) (by omega) (by omega)]
      refine ⟨⟨i + 1, a, b', by trivial, by omega, by trivial, fun i' q' h h2 => ?_⟩, ?_⟩
      · by_cases e : i' = i
        · subst e; rw [hx] at h2; injection h2 with h2; subst h2; exact fun k' hk' => hused k' (by omega)
        · exact hfull i' q' (by omega) h2
      · show l.length - ((i : Int) + 1).toNat < l.length - (i : Int).toNat
        omega
  · obtain rfl : i = l.length := by omega
    have hall : ∀ q ∈ l, ∀ k, k < 4 → q.u k = true := by
      intro q hq
      obtain ⟨j, hj, rfl⟩ := List.getElem_of_mem hq
      exact hfull j _ hj (List.getElem?_eq_getElem hj)
    refine hS.st.ld rfl ?_
    rw [AsP_pointer]
    refine Ret.use (f23 hP hT hd 1 1 (by omega)) ?_
    rintro v w1 h
    rcases h with ⟨hb, _⟩ | ⟨_, hno, rfl, hq⟩ | ⟨_, a1, hfit, hleast, rfl, hP1, hf1⟩
    · exact absurd hb badTake11
    · simp only [AsTup_tuple, UnC_cons, UnN_nil, AsI_int]
      refine BIf_ne (fun _ => ?_) (fun h => by cases h)
      exact ⟨0, 42, p, l, g, c, rfl, .none hall hno, hP.qt hq, hS.qt hq, hq.fr, fun x hx => .inl hx⟩
    · simp only [AsTup_tuple, UnC_cons, UnN_nil, AsI_int]
      refine BIf_ne (fun h => absurd rfl h) (fun _ => ?_)
      have hS1 := hS.fr hf1 hs hg
      have ha : a1 + 1 ≤ p.u.length := hfit.2.1
      have hf28 : p.first + a1 < 268435456 := by omega
      have h0 : p.u.getD a1 0 = 0 := hfit.2.2 a1 (Nat.le_refl _) (by omega)
      have hnew : ∀ q ∈ l, q.f ≠ p.first + a1 := by
        intro q hq e
        obtain ⟨h1, h2, h3⟩ := hH q hq
        rw [e, Nat.add_sub_cancel_left, h0] at h3
        omega
      have tl : ∀ at_ : Nat, at_ ≤ l.length → (∀ q ∈ l.take at_, q.f < p.first + a1) → (∀ q, l[at_]? = some q → ¬ q.f < p.first + a1) →
          F30tail ⟨s, 0, none⟩ (at_ : Int) ((p.first + a1 : Nat) : Int) w1 fun v w' => ∃ (r e : Nat) (p' : Pool) (l' : List Qr) (g' : Option Addr) (c' : Nat), v = .tuple #[.int .i64 (r : Int), .int .i64 (e : Int)] ∧ STake p l r e p' l' ∧
            PoolAt w' b bu bd p' ∧ SlabAt w' s b g' c' l' ∧ Fr (OwnS b bu bd s g) w w' ∧ ∀ x, On g' x → On g x ∨ w.heap.size ≤ x := by
        intro at_ hat hlt hge
        refine f30tail hS1 at_ (p.first + a1) hat hlt (rise_drop hS.ok.rise fun q hq => ?_) hf28 fun g' c' w' hS' hf' hon' => ?_
        · have := hge q hq; have := hnew q (List.mem_of_getElem? hq); omega
        · refine ⟨4 * (p.first + a1), 0, _, _, g', c', by simp, .fresh hall a1 hfit hleast, hP1.fr hf' (fun h => hs (.inl h.symm)) (fun h => hs (.inr (.inl h.symm))) (fun h => hs (.inr (.inr h.symm))), ?_, ?_, ?_⟩
          · rw [insq_at _ _ at_ hlt hge hat]; exact hS'
          · exact (hf1.mono fun x _ h => .inl h).trans (hf'.mono fun x _ h => .inr (.inl h))
          · intro x hx
            have := hon' x hx; have := hf1.size
            exact .inr (by omega)
      refine Loop.by (fun s w' => ∃ (i : Nat), s = [.int .i64 (i : Int)] ∧ i ≤ l.length ∧ w' = w1 ∧ ∀ q ∈ l.take i, q.f < p.first + a1)
        (fun s _ => match s with | [.int _ k] => l.length - k.toNat | _ => 0)
        ⟨0, rfl, by omega, rfl, fun q h => by simp at h⟩ ?_
      rintro _ _ ⟨i, rfl, hi, hw, hlt⟩
      obtain rfl := hw.symm
      simp only [UnC_cons, UnN_nil, AsI_int]
      refine hS1.st.ld rfl ?_
      rw [AsSl_slice]
      refine BIf_cases (fun hil => ?_) (fun hge => ?_)
      · have hil : i < l.length := by omega
        obtain ⟨x, hx⟩ : ∃ x, l[i]? = some x := ⟨_, List.getElem?_eq_getElem hil⟩
        refine hS1.st.ld rfl ?_
        rw [AsSl_slice]
        obtain ⟨gb, sp, rfl, _, hh⟩ := hS1.sl.some_ (by omega)
        simp only [NilP_some, at0_mk, Nat.zero_add, Int.toNat_natCast]
        refine ⟨by omega, by omega, ?_⟩
        refine hh.ld (q_get0 hx sp) ?_
        rw [AsI_int]
        refine BIf_cases (fun h => ?_) (fun h => ?_)
        · rw [w64 (n := (i : Int) + 1) (by omega) (by omega)]
          refine ⟨⟨i + 1, by trivial, by omega, by trivial, fun q hq => ?_⟩, ?_⟩
          · rw [List.take_add_one, hx] at hq
            simp only [Option.toList_some, List.mem_append, List.mem_singleton] at hq
            rcases hq with hq | rfl
            · exact hlt q hq
            · omega
          · show l.length - ((i : Int) + 1).toNat < l.length - (i : Int).toNat
            omega
        · have := tl i hi hlt (fun q hq => by rw [hx] at hq; injection hq with hq; subst hq; omega)
          unfold F30tail at this
          simp only [at0_mk, Nat.zero_add, Int.toNat_natCast] at this
          exact this
      · have := tl i hi hlt (fun q hq => by have := (List.getElem?_eq_some_iff.1 hq).1; omega)
        unfold F30tail at this
        simp only [at0_mk, Nat.zero_add] at this
        exact this
end Go.Proofs.YthpodlcbikialaaDoor
