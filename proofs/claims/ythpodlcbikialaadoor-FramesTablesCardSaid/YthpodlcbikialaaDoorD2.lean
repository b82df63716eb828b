import Derived.Test.YthpodlcbikialaaDoorD1
set_option linter.unusedVariables false
set_option linter.unusedSimpArgs false
namespace Go.Proofs.YthpodlcbikialaaDoor
open Go Go.Sh Go.Fr

theorem RunsAt.getBoth {w : World} {q : Option Addr} {n first : Nat} {R : List (Nat × Nat)} (h : RunsAt w q n first R) {i : Nat} {r : Nat × Nat} (hi : R[i]? = some r) {K : Int → Int → Prop} (k : K ((first + r.1 : Nat) : Int) ((r.2 : Nat) : Int)) :
    NilP q fun a => (0 : Int) ≤ (i : Int) ∧ (i : Int) < (n : Int) ∧ Ld w (at0 a ((i : Int).toNat * 2)) fun v => AsI .i64 v fun x => Ld w (at0 (at0 a ((i : Int).toNat * 2)) 1) fun v => AsI .i64 v fun y => K x y := by
  have hil := (List.getElem?_eq_some_iff.1 hi).1
  have hn := h.len
  have hg0 := flat_get (g := fun r : Nat × Nat => [Value.int .i64 ((first + r.1 : Nat) : Int), .int .i64 ((r.2 : Nat) : Int)]) (size := 2) (fun _ => rfl) R i 0 (by decide) r hi
  have hg1 := flat_get (g := fun r : Nat × Nat => [Value.int .i64 ((first + r.1 : Nat) : Int), .int .i64 ((r.2 : Nat) : Int)]) (size := 2) (fun _ => rfl) R i 1 (by decide) r hi
  refine h.rd.ld hg0 fun b o hq hc => ?_
  obtain ⟨b', o', hq', hc'⟩ := h.rd _ _ hg1
  rw [hq] at hq'; injection hq' with hq'; injection hq' with e1 e2; subst e1 e2
  refine ⟨by omega, by omega, ?_⟩
  rw [at0_mk, at0_mk, Int.toNat_natCast, Nat.add_assoc]
  exact Ld.of hc (AsI_int.2 (Ld.of hc' (AsI_int.2 k)))
theorem f27 {w : World} {a b : Option Addr} {n1 n2 ac bc first : Nat} {R1 R2 : List (Nat × Nat)} (h1 : RunsAt w a n1 first R1) (h2 : RunsAt w b n2 first R2) (hl : n1 ≤ 9223372036854775806) :
    Ret prog 27 #[.slice a n1 ac, .slice b n2 bc] w fun v w' => v = .bool (decide (R1 = R2)) ∧ Qt w w' := by
  have l1 := h1.len
  have l2 := h2.len
  refine F27_of _ _ _ _ _ _ _ _ ?_
  unfold F27
  refine BIf_ne (fun h => ?_) (fun h => ?_)
  · refine ⟨?_, Qt.refl w⟩
    rw [decide_eq_false]; rintro rfl; exact h (by omega)
  refine Loop.by (fun s w' => ∃ (i : Nat) (c : Bool), s = [.int .i64 (i : Int), .bool c] ∧ i ≤ n1 ∧ (∀ j, j < i → R1[j]? = R2[j]?) ∧ Qt w w')
    (fun s _ => match s with | [.int _ k, _] => n1 - k.toNat | _ => 0)
    ⟨0, false, rfl, by omega, fun j h => by omega, Qt.refl w⟩ ?_
  rintro _ w1 ⟨i, c, rfl, hi, heq, hq⟩
  simp only [UnC_cons, UnN_nil, AsI_int, AsB_bool, Ld_drew]
  refine BIf_cases (fun hlt => ?_) (fun hge => ?_)
  · obtain ⟨r1, hr1⟩ : ∃ r, R1[i]? = some r := ⟨_, List.getElem?_eq_getElem (by omega)⟩
    obtain ⟨r2, hr2⟩ : ∃ r, R2[i]? = some r := ⟨_, List.getElem?_eq_getElem (by omega)⟩
    refine (h1.qt hq).getBoth hr1 ?_
    refine (h2.qt hq).getBoth hr2 ?_
    refine neq58 _ _ _ _ fun r hr => ?_
    rw [AsB_bool, BIf_not]
    refine BIf_b (fun h => ?_) (fun h => ?_)
    · obtain ⟨e1, e2⟩ := hr.1 h
      rw [w64 (n := (i : Int) + 1) (by omega) (by omega)]
      refine ⟨⟨i + 1, c, rfl, by omega, fun j hj => ?_, hq.drew⟩, ?_⟩
      · by_cases e : j = i
        · subst e; rw [hr1, hr2]; congr 1; exact Prod.ext (by omega) (by omega)
        · exact heq j (by omega)
      · show n1 - ((i : Int) + 1).toNat < n1 - (i : Int).toNat
        omega
    · refine ⟨?_, hq.drew⟩
      rw [decide_eq_false]; rintro rfl
      rw [hr1] at hr2; injection hr2 with hr2; subst hr2
      rw [hr.2 ⟨rfl, rfl⟩] at h; cases h
  · refine ⟨?_, hq⟩
    rw [decide_eq_true]
    apply List.ext_getElem?
    intro j
    by_cases hj : j < n1
    · exact heq j (by omega)
    · rw [List.getElem?_eq_none (by omega), List.getElem?_eq_none (by omega)]

theorem PTake.bad_same {p p' : Pool} {n al : Int} {r e : Nat} (h : PTake p n al r e p') (he : e ≠ 0) : p' = p := by
  cases h
  · rfl
  · rfl
  · exact absurd rfl he
theorem PStep.bad_same {p p' : Pool} {k f n al : Int} {r : Int} {e : Nat} (h : PStep p k f n al r e p') (he : e ≠ 0) : p' = p := by
  cases h with
  | take _ r e p' ht => exact ht.bad_same he
  | shareErr => rfl
  | share => exact absurd rfl he
  | dropErr => rfl
  | drop => exact absurd rfl he
  | other => rfl
theorem PStep.other_same {p p' : Pool} {k f n al : Int} {r : Int} {e : Nat} (h : PStep p k f n al r e p') (h1 : k ≠ 1) (h2 : k ≠ 2) (h3 : k ≠ 3) : p' = p := by
  cases h <;> first | rfl | contradiction
theorem PStep.good {p p' : Pool} {k f n al : Int} {r : Int} {e : Nat} (h : PStep p k f n al r e p') (he : e = 0) (hk : 1 ≤ k ∧ k ≤ 3) : ∃ (k0 N : Nat) (fn : Nat → Nat), n = N ∧ 1 ≤ N ∧ k0 + N ≤ p.u.length ∧ p' = p.turned k0 fn N ∧ (k = 1 → r = (p.first : Int) + k0) ∧ (k ≠ 1 → f = (p.first : Int) + k0) ∧
    (∀ x, k0 ≤ x → x < k0 + N → (k = 1 ↔ p.u.getD x 0 = 0) ∧ fn (p.u.getD x 0) = if k = 3 then p.u.getD x 0 - 1 else p.u.getD x 0 + 1) ∧ (k = 3 → r = (p'.free : Int) - p.free) := by
  cases h with
  | take h1 r e p' ht =>
    cases ht with
    | bad => cases he
    | none => cases he
    | ok hb a hf hl =>
      have hn1 : 1 ≤ n := by unfold badTake at hb; omega
      refine ⟨a, n.toNat, fun _ => 1, by omega, by omega, hf.2.1, rfl, fun _ => by omega, fun h => absurd h1 h, fun x hx hx2 => ?_, fun h => by omega⟩
      have hz := hf.2.2 x hx hx2
      rw [hz]
      exact ⟨⟨fun _ => rfl, fun _ => h1⟩, by rw [if_neg (by omega)]⟩
  | shareErr _ e _ h0 => exact absurd he h0
  | share h2 hs =>
    have hr : (p.run f n).2 = 0 := by
      unfold Pool.shareErr at hs
      split at hs
      · omega
      · omega
    obtain ⟨r1, r2, r3, _, r5⟩ := run_ok hr
    refine ⟨(f - p.first).toNat, n.toNat, (· + 1), by omega, by omega, by omega, rfl, fun h => by omega, fun _ => by omega, fun x hx hx2 => ?_, fun h => by omega⟩
    have hp := r5 x hx hx2
    exact ⟨⟨fun h => by omega, fun h => by omega⟩, by rw [if_neg (by omega)]⟩
  | dropErr _ h0 => exact absurd he h0
  | drop h3 hr =>
    obtain ⟨r1, r2, r3, _, r5⟩ := run_ok hr
    refine ⟨(f - p.first).toNat, n.toNat, (· - 1), by omega, by omega, by omega, rfl, fun h => by omega, fun _ => by omega, fun x hx hx2 => ?_, fun h => rfl⟩
    have hp := r5 x hx hx2
    exact ⟨⟨fun h => by omega, fun h => by omega⟩, by rw [if_pos h3]⟩
  | other h1 h2 h3 => omega
theorem i64n_set (l : List Nat) (i x : Nat) : (i64n l).set i (.int .i64 ((x : Nat) : Int)) = i64n (l.set i x) := by simp [i64n, List.map_set]
theorem i64n_get {l : List Nat} {i : Nat} (h : i < l.length) : (i64n l)[i]? = some (.int .i64 ((l.getD i 0 : Nat) : Int)) := by
  rw [i64n, List.getElem?_map, List.getElem?_eq_getElem h, getD_get h]; rfl
theorem i64n_len (l : List Nat) : (i64n l).length = l.length := by simp [i64n]
theorem turn_end {u : List Nat} {k : Nat} {fn : Nat → Nat} {j : Nat} (h : k + j < u.length) : (turn u k fn j).getD (k + j) 0 = u.getD (k + j) 0 := by
  rw [turn_get u k fn (k + j) j (by omega), if_neg (by omega)]
theorem turn_zeros {u : List Nat} {k : Nat} {fn : Nat → Nat} {j : Nat} (h : k + j < u.length) (h0 : u.getD (k + j) 0 ≠ 0) : zeros (turn u k fn (j + 1)) = zeros (turn u k fn j) + if fn (u.getD (k + j) 0) = 0 then 1 else 0 := by
  have hl : k + j < (turn u k fn j).length := by rw [turn_len]; exact h
  have := count_set (turn u k fn j) (k + j) (fn (u.getD (k + j) 0)) hl
  have e : (turn u k fn j)[k + j] = u.getD (k + j) 0 := by rw [← getD_get hl, turn_end h]
  rw [e, if_neg h0] at this
  simp only [zeros, turn]
  omega
theorem turn_one (u : List Nat) (k : Nat) (fn : Nat → Nat) : turn u k fn 1 = u.set k (fn (u.getD k 0)) := rfl
theorem all_zero_runs {u : List Nat} (h : ∀ x, u.getD x 0 = 0) (hl : 0 < u.length) : Fr.runs u (next u false 0) = [(0, u.length)] := by
  have hz : ∀ i (hi : i < u.length), u[i] = 0 := fun i hi => by have := h i; rwa [getD_get hi] at this
  have e0 : next u false 0 = 0 := next_hit hl (by rw [hz 0 hl]; rfl)
  have e1 : next u true 0 = u.length := by
    obtain ⟨n1, n2, n3, n4⟩ := next_spec u true 0
    rcases Nat.lt_or_ge (next u true 0) u.length with h1 | h1
    · have := n3 h1
      rw [hz _ h1] at this; simp at this
    · omega
  rw [e0, runs_cons hl (hz 0 hl), e1, next_end (Nat.le_refl _), runs_end (Nat.le_refl _)]
  rfl
theorem all_zero_count {u : List Nat} (h : ∀ x, u.getD x 0 = 0) : u.countP (· = 0) = u.length := by
  refine countP_all fun x hx => ?_
  obtain ⟨i, hi, rfl⟩ := List.getElem_of_mem hx
  have := h i; rwa [getD_get hi] at this
end Go.Proofs.YthpodlcbikialaaDoor
