import Derived.Test.YthpodlcbikialaaDoorE3
set_option linter.unusedVariables false
set_option linter.unusedSimpArgs false
namespace Go.Proofs.YthpodlcbikialaaDoor
open Go Go.Sh Go.Fr

/-- which table a slab's Take must give -/
theorem STake.least {p p' : Pool} {l l' : List Qr} {r e : Nat} (h : STake p l r e p' l') (hok : SlabOk l) :
    (∃ x, Miss (tabs l) x ∧ r = x ∧ e = 0 ∧ p'.free = p.free ∧ r ∈ tabs l') ∨ (Full (tabs l) ∧ p.free = 0 ∧ e = 42 ∧ r = 0 ∧ l' = l) ∨
    (Full (tabs l) ∧ p.free ≠ 0 ∧ e = 0 ∧ r % 4 = 0 ∧ p'.free + 1 = p.free ∧ (Held p l → r ∉ tabs l) ∧ r ∈ tabs l') := by
  cases h with
  | old i k q hq hk h0 h1 h2 =>
    refine .inl ⟨_, miss_of hok hq hk h0 h1 h2, rfl, rfl, rfl, mem_tabs.2 ⟨q.set k true, ?_, k, hk, by simp [Qr.set], rfl⟩⟩
    exact List.mem_of_getElem? (by rw [List.getElem?_set]; simp [(List.getElem?_eq_some_iff.1 hq).1] : (l.set i (q.set k true))[i]? = some (q.set k true))
  | none hf hn => exact .inr (.inl ⟨full_of hok hf, free_none hn, rfl, rfl, rfl⟩)
  | fresh hf a hfit hl =>
    have ha : a < p.u.length := by have := hfit.2.1; omega
    have hz := hfit.2.2 a (Nat.le_refl _) (by omega)
    have hp : 0 < p.free := free_pos hfit
    refine .inr (.inr ⟨full_of hok hf, by omega, rfl, by omega, free_take ha hz, fun hH hm => ?_, mem_tabs.2 ⟨Qr.new (p.first + a), ?_, 0, by decide, rfl, rfl⟩⟩)
    · obtain ⟨q, hq, k, hk, _, e⟩ := mem_tabs.1 hm
      obtain ⟨h1, h2, h3⟩ := hH q hq
      rw [show q.f - p.first = a by omega] at h3
      omega
    · have : ∀ l : List Qr, Qr.new (p.first + a) ∈ insq (p.first + a) l := by
        intro l
        induction l with
        | nil => simp [insq]
        | cons x r ih => unfold insq; split <;> simp [ih]
      exact this l
theorem f32 {w : World} {s b c lc : Nat} {g : Option Addr} {p p' : Pool} {l l' : List Qr} {r e : Nat} {lq : Option Addr} (hst : STake p l r e p' l') (hok : SlabOk l) (hH : Held p l) (hS : SlabAt w s b g c l') (hL : Rd w lq (i64n (tabs l))) (hp : p.u.length ≤ 1048576) :
    Ret prog 32 #[.pointer (some ⟨s, 0, none⟩), .slice lq (tabs l).length lc, .int .i64 (r : Int), .int .i64 (e : Int), .int .i64 ((p'.free : Nat) : Int), .int .i64 ((p.free : Nat) : Int)] w fun v w' => v = .bool true ∧ Fr0 w w' := by
  have hN := hok.len
  have hT4 := tabs_len l
  have hT4' := tabs_len l'
  have hN' := hS.ok.len
  have hfl : p.free ≤ p.u.length := List.countP_le_length
  refine F32_of _ _ _ _ _ _ _ _ _ _ ?_
  unfold F32
  refine Loop.by (fun s w' => ∃ (i : Nat) (x : Int), s = [.int .i64 (i : Int), .int .i64 x] ∧ i ≤ (tabs l).length ∧ w' = w ∧
      ((x = -1 ∧ ∀ (j y k : Nat), j < i → (tabs l)[j]? = some y → k < 4 → 4 * (y / 4) + k ∈ tabs l) ∨ ∃ m : Nat, x = m ∧ Miss (tabs l) m))
    (fun s _ => match s with | [.int _ k, _] => (tabs l).length - k.toNat | _ => 0)
    ⟨0, -1, rfl, by omega, rfl, .inl ⟨rfl, fun j y k h => by omega⟩⟩ ?_
  rintro _ _ ⟨i, x, rfl, hi, hw, hx⟩
  obtain rfl := hw.symm
  simp only [UnC_cons, UnN_nil, AsI_int]
  rw [w64 (n := (i : Int) + 1) (by omega) (by omega)]
  have hmeas : (tabs l).length - ((i : Int) + 1).toNat < (tabs l).length - (i : Int).toNat ∨ (tabs l).length ≤ i := by omega
  refine BIf_cases (fun hlt => ?_) (fun hge => ?_)
  · have hil : i < (tabs l).length := by omega
    obtain ⟨y, hy⟩ : ∃ y, (tabs l)[i]? = some y := ⟨_, List.getElem?_eq_getElem hil⟩
    have hyl := tabs_lt hok (List.mem_of_getElem? hy)
    refine Loop.by (fun s w' => ∃ (k : Nat) (x : Int), s = [.int .i64 (k : Int), .int .i64 x] ∧ k ≤ 4 ∧ w' = w ∧
        ((x = -1 ∧ (∀ (j y k : Nat), j < i → (tabs l)[j]? = some y → k < 4 → 4 * (y / 4) + k ∈ tabs l) ∧ ∀ k' : Nat, k' < k → 4 * (y / 4) + k' ∈ tabs l) ∨ ∃ m : Nat, x = m ∧ Miss (tabs l) m))
      (fun s _ => match s with | [.int _ k, _] => 4 - k.toNat | _ => 0)
      ⟨0, x, rfl, by omega, rfl, hx.imp (fun ⟨h1, h2⟩ => ⟨h1, h2, fun k' h => by omega⟩) id⟩ ?_
    rintro _ _ ⟨k, x1, rfl, hk, hw, hx1⟩
    obtain rfl := hw.symm
    simp only [UnC_cons, UnN_nil, AsI_int]
    have out : (x1 < 0 → k = 4) → (∃ (i_1 : Nat) (x : Int), [Value.int .i64 ((i : Int) + 1), .int .i64 x1] = [.int .i64 (i_1 : Int), .int .i64 x] ∧ i_1 ≤ (tabs l).length ∧ w = w ∧
        ((x = -1 ∧ ∀ (j y k : Nat), j < i_1 → (tabs l)[j]? = some y → k < 4 → 4 * (y / 4) + k ∈ tabs l) ∨ ∃ m : Nat, x = m ∧ Miss (tabs l) m)) := by
      intro hk4
      refine ⟨i + 1, x1, rfl, by omega, rfl, ?_⟩
      rcases hx1 with ⟨rfl, h1, h2⟩ | h
      · have hk4 := hk4 (by omega)
        subst hk4
        refine .inl ⟨rfl, fun j y' k' hj hy' hk' => ?_⟩
        by_cases e : j = i
        · subst e; rw [hy] at hy'; injection hy' with hy'; subst hy'; exact h2 k' hk'
        · exact h1 j y' k' (by omega) hy' hk'
      · exact .inr h
    refine BIf_cases (fun hlt => ?_) (fun hge => ?_)
    · refine BIf_cases (fun hneg => ?_) (fun hpos => ?_)
      · obtain ⟨rfl, h1, h2⟩ : x1 = -1 ∧ (∀ (j y k : Nat), j < i → (tabs l)[j]? = some y → k < 4 → 4 * (y / 4) + k ∈ tabs l) ∧ ∀ k' : Nat, k' < k → 4 * (y / 4) + k' ∈ tabs l := by
          rcases hx1 with h | ⟨m, rfl, _⟩
          · exact h
          · omega
        refine Join.triv ?_
        refine Rd.nat hL hy ?_
        have ey : IntKind.i64.wrap (IntKind.i64.wrap ((4 : Int) * IntKind.i64.wrap ((y : Int).tdiv 4)) + (k : Int)) = ((4 * (y / 4) + k : Nat) : Int) := by
          rw [IntWalk.i64_quo _ _ ⟨by omega, by omega, by omega⟩, w64 (n := (4 : Int) * ((y : Int) / 4)) (by omega) (by omega), w64 (by omega) (by omega)]
          omega
        rw [ey]
        refine Ret.use (f52n (ac := lc) hL (by omega) _) ?_
        rintro v w2 ⟨rfl, hw⟩
        obtain rfl := hw.symm
        have hm4 : 4 - ((k : Int) + 1).toNat < 4 - (k : Int).toNat := by omega
        rw [AsB_bool, BIf_not]
        by_cases hmem : 4 * (y / 4) + k ∈ tabs l
        · rw [decide_eq_true hmem, BIf_true]
          simp only [UnC_cons, UnN_nil, AsI_int]
          rw [w64 (n := (k : Int) + 1) (by omega) (by omega)]
          refine ⟨⟨k + 1, -1, rfl, by omega, by trivial, .inl ⟨rfl, h1, fun k' hk' => ?_⟩⟩, hm4⟩
          by_cases e : k' = k
          · subst e; exact hmem
          · exact h2 k' (by omega)
        · rw [decide_eq_false hmem, BIf_false]
          simp only [UnC_cons, UnN_nil, AsI_int]
          rw [w64 (n := (k : Int) + 1) (by omega) (by omega)]
          exact ⟨⟨k + 1, _, rfl, by omega, by trivial, .inr ⟨4 * (y / 4) + k, rfl, i, k, y, hy, by omega, rfl, hmem, h1, h2⟩⟩, hm4⟩
      · refine ⟨?_, by show (tabs l).length - ((i : Int) + 1).toNat < (tabs l).length - (i : Int).toNat; omega⟩
        simpa using out (fun h => by omega)
    · refine ⟨?_, by show (tabs l).length - ((i : Int) + 1).toNat < (tabs l).length - (i : Int).toNat; omega⟩
      simpa using out (fun h => by omega)
  · have hx' : (x = -1 ∧ Full (tabs l)) ∨ ∃ m : Nat, x = m ∧ Miss (tabs l) m := by
      refine hx.imp (fun ⟨h1, h2⟩ => ⟨h1, fun y hy k hk => ?_⟩) id
      obtain ⟨j, hj, rfl⟩ := List.getElem_of_mem hy
      exact h2 j _ k (by omega) (List.getElem?_eq_getElem hj) hk
    have tabsIn : ∀ (x : Nat), x ∈ tabs l' → ∀ w1, Fr0 w w1 → CallS prog 17 #[.pointer (some ⟨s, 0, none⟩)] w1 fun v31 w32 => AsSl v31 fun p33 n34 n35 => CallS prog 52 #[.slice p33 n34 n35, .int .i64 (x : Int)] w32 fun v36 w37 => AsB v36 fun b38 => (fun v w' => v = Value.bool true ∧ Fr0 w w') (.bool b38) w37 := by
      intro x hx w1 hf1
      refine Ret.use (f17 (hS.fr0 hf1)) ?_
      rintro v w2 ⟨q2, c2, rfl, sl2, hf2⟩
      rw [AsSl_slice]
      refine Ret.use (f52n (ac := c2) sl2.rd (by omega) x) ?_
      rintro v w3 ⟨rfl, hw⟩
      obtain rfl := hw.symm
      rw [AsB_bool, decide_eq_true hx]
      exact ⟨rfl, hf1.trans hf2⟩
    rcases hst.least hok with ⟨m, hm, rfl, rfl, hfr, hin⟩ | ⟨hF, hz, rfl, rfl, rfl⟩ | ⟨hF, hz, rfl, h4, hfr, hni, hin⟩
    · obtain ⟨rfl⟩ : x = (r : Int) := by
        rcases hx' with ⟨_, h⟩ | ⟨m', rfl, h⟩
        · exact (hm.not_full h).elim
        · rw [hm.uniq h]
      refine BIf_pos (by omega) ?_
      refine BIf_eq (fun _ => ?_) (fun h => absurd rfl h)
      refine BIf_eq (fun _ => ?_) (fun h => absurd rfl h)
      refine BIf_eq (fun _ => ?_) (fun h => absurd (by omega) h)
      exact tabsIn r hin w (Fr.refl _ _)
    · obtain ⟨rfl⟩ : x = (-1 : Int) := by
        rcases hx' with ⟨h, _⟩ | ⟨m', rfl, h⟩
        · exact h
        · exact (h.not_full hF).elim
      refine BIf_neg (by omega) ?_
      refine BIf_eq (fun _ => ?_) (fun h => absurd (by omega) h)
      refine BIf_eq (fun _ => ?_) (fun h => absurd rfl h)
      refine BIf_eq (fun _ => ?_) (fun h => absurd rfl h)
      refine Ret.use (f17 hS) ?_
      rintro v w2 ⟨q2, c2, rfl, sl2, hf2⟩
      rw [AsSl_slice]
      refine Ret.use (f24n (ac := c2) (bc := lc) sl2.rd (hL.fr0 hf2) (by omega) (by omega)) ?_
      rintro v w3 ⟨rfl, hq⟩
      rw [AsB_bool, decide_eq_true rfl]
      exact ⟨rfl, hf2.trans hq.fr⟩
    · obtain ⟨rfl⟩ : x = (-1 : Int) := by
        rcases hx' with ⟨h, _⟩ | ⟨m', rfl, h⟩
        · exact h
        · exact (h.not_full hF).elim
      refine BIf_neg (by omega) ?_
      refine BIf_eq (fun h => absurd h (by omega)) (fun _ => ?_)
      refine BIf_eq (fun _ => ?_) (fun h => absurd rfl h)
      rw [show (r : Int).tmod 4 = 0 by rw [IntWalk.rem_in _ _ (by omega)]; omega]
      refine BIf_eq (fun _ => ?_) (fun h => absurd rfl h)
      rw [w64 (n := ((p.free : Nat) : Int) - 1) (by omega) (by omega)]
      refine BIf_eq (fun _ => ?_) (fun h => absurd (by omega) h)
      refine Ret.use (f52n (ac := lc) hL (by omega) r) ?_
      rintro v w2 ⟨rfl, hw⟩
      obtain rfl := hw.symm
      rw [AsB_bool, decide_eq_false (hni hH), Bool.not_false, BIf_true]
      exact tabsIn r hin w (Fr.refl _ _)
end Go.Proofs.YthpodlcbikialaaDoor
