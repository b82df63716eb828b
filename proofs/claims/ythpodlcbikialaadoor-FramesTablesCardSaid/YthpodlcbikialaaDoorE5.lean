import Derived.Test.YthpodlcbikialaaDoorE4
import Derived.Test.YthpodlcbikialaaDoorShMem4
set_option linter.unusedVariables false
set_option linter.unusedSimpArgs false
namespace Go.Proofs.YthpodlcbikialaaDoor
open Go Go.Sh Go.Fr

/-! ## what a Drop does to the tables -/
theorem qset_tabs {q : Qr} {k : Nat} (hk : k < 4) : (q.set k false).tabs 4 = (q.tabs 4).filter fun x => decide (x ≠ 4 * q.f + k) := by
  unfold Qr.tabs
  rw [List.filter_map, List.filter_filter]
  show ((List.range 4).filter (q.set k false).u).map (fun j => 4 * q.f + j) = _
  congr 1
  apply List.filter_congr
  intro j hj
  simp only [Qr.set, Function.comp_apply]
  by_cases e : j = k
  · subst e; simp
  · rw [if_neg e]
    have : decide (4 * q.f + j ≠ 4 * q.f + k) = true := by simp; omega
    rw [this]; simp
theorem tabs_filter_ne {l : List Qr} {q : Qr} {k : Nat} (h : ∀ x ∈ l, x.f ≠ q.f) (hk : k < 4) : (tabs l).filter (fun x => decide (x ≠ 4 * q.f + k)) = tabs l := by
  rw [List.filter_eq_self]
  intro x hx
  obtain ⟨q', hq', k', hk', _, rfl⟩ := mem_tabs.1 hx
  have := h q' hq'
  simp; omega
theorem tabs_append (l l' : List Qr) : tabs (l ++ l') = tabs l ++ tabs l' := by simp [tabs]
theorem take_ne {l : List Qr} {i : Nat} {q : Qr} (hr : l.Pairwise fun a b => a.f < b.f) (hq : l[i]? = some q) : (∀ x ∈ l.take i, x.f ≠ q.f) ∧ ∀ x ∈ l.drop (i + 1), x.f ≠ q.f :=
  ⟨fun x hx => cut_ne hr hq (by simp [hx]), fun x hx => cut_ne hr hq (by simp [hx])⟩
theorem SDrop.tabs_eq {p p' : Pool} {l l' : List Qr} {t : Int} {e : Nat} (h : SDrop p l t e p' l') (hok : SlabOk l) {x : Nat} (hx : t = x) : (e = 45 ∧ x ∉ tabs l ∧ l' = l ∧ p' = p) ∨ (e = 0 ∧ x ∈ tabs l ∧ tabs l' = (tabs l).filter fun y => decide (y ≠ x)) := by
  cases h with
  | none h =>
    refine .inl ⟨rfl, fun hm => ?_, rfl, rfl⟩
    obtain ⟨q, hq, k, hk, hu, e⟩ := mem_tabs.1 hm
    exact h q hq k hk hu (by omega)
  | more i k q hq hk hu ht hm =>
    have ex : x = 4 * q.f + k := by omega
    subst ex
    have hqm := List.mem_of_getElem? hq
    refine .inr ⟨rfl, (has_tab hok hqm hk).2 hu, ?_⟩
    have hil := (List.getElem?_eq_some_iff.1 hq).1
    have hy : (l.set i (q.set k false))[i]? = some (q.set k false) := by simp [hil]
    obtain ⟨n1, n2⟩ := take_ne hok.rise hq
    rw [tabs_cut hy, tabs_cut hq, List.filter_append, List.filter_append, tabs_filter_ne n1 hk, tabs_filter_ne n2 hk, qset_tabs hk, List.take_set_of_le (Nat.le_refl _), List.drop_set_of_lt (by omega)]
  | last i k q hq hk hu ht hm =>
    have ex : x = 4 * q.f + k := by omega
    subst ex
    have hqm := List.mem_of_getElem? hq
    refine .inr ⟨rfl, (has_tab hok hqm hk).2 hu, ?_⟩
    obtain ⟨n1, n2⟩ := take_ne hok.rise hq
    have hqt : (q.tabs 4).filter (fun x => decide (x ≠ 4 * q.f + k)) = [] := by
      rw [List.filter_eq_nil_iff]
      intro y hy
      obtain ⟨k', hk', hu', rfl⟩ := mem_qtabs.1 hy
      have : k' = k := by
        refine Classical.byContradiction fun hne => ?_
        rw [hm k' hk' hne] at hu'; cases hu'
      subst this; simp
    rw [tabs_append, tabs_cut hq, List.filter_append, List.filter_append, tabs_filter_ne n1 hk, tabs_filter_ne n2 hk, hqt, List.nil_append]
theorem rise_nodup {L : List Nat} (h : L.Pairwise (· < ·)) : L.Nodup := h.imp fun hab => by omega
theorem filter_len {L : List Nat} (h : L.Pairwise (· < ·)) {x : Nat} (hx : x ∈ L) : (L.filter fun y => decide (y ≠ x)).length = L.length - 1 := by
  rw [← List.length_erase_of_mem hx, (rise_nodup h).erase_eq_filter]
  congr 1
  apply List.filter_congr
  intro y _
  by_cases e : y = x
  · subst e; simp
  · simp [e]
theorem filter_head {t : Nat} {r : List Nat} (h : (t :: r).Pairwise (· < ·)) : ((t :: r).filter fun y => decide (y ≠ t)) = r := by
  rw [List.filter_cons, if_neg (by simp), List.filter_eq_self]
  intro y hy
  have := (List.pairwise_cons.1 h).1 y hy
  simp; omega
theorem tabs_nil {l : List Qr} (h : SlabOk l) (e : tabs l = []) : l = [] := by
  cases l with
  | nil => rfl
  | cons q r =>
    have := qtabs_pos h (q := q) (by simp)
    have h2 : (tabs (q :: r)).length = 0 := by rw [e]; rfl
    simp only [tabs, List.flatMap_cons, List.length_append] at h2
    omega
/-- the slab's frames have one use each -/
def Ones (p : Pool) (l : List Qr) : Prop := ∀ q ∈ l, p.u.getD (q.f - p.first) 0 = 1
theorem STake.ones {p p' : Pool} {l l' : List Qr} {r e : Nat} (h : STake p l r e p' l') (hH : Held p l) (h1 : Ones p l) : Ones p' l' ∧ (∀ lb, Held p lb → Ones p lb → Ones p' lb) ∧ p'.free + l'.length = p.free + l.length ∧ p'.first = p.first ∧ p'.u.length = p.u.length := by
  cases h with
  | old i k q hq hk h0 _ _ =>
    refine ⟨fun x hx => ?_, fun lb _ h => h, by rw [List.length_set], rfl, rfl⟩
    obtain ⟨z, hz, e⟩ := set_mem_f (y := q.set k true) hq rfl hx
    rw [← e]; exact h1 z hz
  | none => exact ⟨h1, fun lb _ h => h, rfl, rfl, rfl⟩
  | fresh h a hf hl =>
    have ha : a < p.u.length := by have := hf.2.1; omega
    have hz : p.u.getD a 0 = 0 := hf.2.2 a (Nat.le_refl _) (by omega)
    have keep : ∀ lb, Held p lb → Ones p lb → Ones (p.turned a (fun _ => 1) 1) lb := by
      intro lb hb h1 q hq
      show (p.turned a (fun _ => 1) 1).u.getD (q.f - p.first) 0 = 1
      rw [turned_get _ _ _ _ ha]
      split
      · rfl
      · exact h1 q hq
    refine ⟨fun q hq => ?_, keep, ?_, rfl, turn_len _ _ _ _⟩
    · rcases ins_mem hq with rfl | hq
      · show (p.turned a (fun _ => 1) 1).u.getD (p.first + a - p.first) 0 = 1
        rw [turned_get _ _ _ _ ha, if_pos (by omega)]
      · exact keep l hH h1 q hq
    · have h2 : zeros (turn p.u a (fun _ => 1) 1) + 1 = zeros p.u := free_take ha hz
      have h3 : ∀ l : List Qr, (insq (p.first + a) l).length = l.length + 1 := by
        intro l
        induction l with
        | nil => rfl
        | cons x r ih => unfold insq; split <;> simp [ih]
      rw [h3]
      show zeros (turn p.u a (fun _ => 1) 1) + _ = zeros p.u + _
      omega
theorem SDrop.ones {p p' : Pool} {l l' : List Qr} {t : Int} {e : Nat} (h : SDrop p l t e p' l') (hok : SlabOk l) (hH : Held p l) (h1 : Ones p l) : Ones p' l' ∧ (∀ lb, Held p lb → (∀ q ∈ l, ∀ q' ∈ lb, q.f ≠ q'.f) → Ones p lb → Ones p' lb) ∧ p'.free + l'.length = p.free + l.length ∧ p'.first = p.first ∧ p'.u.length = p.u.length := by
  cases h with
  | none => exact ⟨h1, fun lb _ _ h => h, rfl, rfl, rfl⟩
  | more i k q hq hk hu ht hm =>
    refine ⟨fun x hx => ?_, fun lb _ _ h => h, by rw [List.length_set], rfl, rfl⟩
    obtain ⟨z, hz, e⟩ := set_mem_f (y := q.set k false) hq rfl hx
    rw [← e]; exact h1 z hz
  | last i k q hq hk hu ht hm =>
    have hqm := List.mem_of_getElem? hq
    have hil := (List.getElem?_eq_some_iff.1 hq).1
    obtain ⟨a1, a2, a3⟩ := hH q hqm
    have hq1 := h1 q hqm
    have hlt : q.f - p.first < p.u.length := by omega
    have keep : ∀ lb, Held p lb → (∀ x ∈ lb, x.f ≠ q.f) → Ones p lb → Ones (p.turned (q.f - p.first) (· - 1) 1) lb := by
      intro lb hb hn h1 x hx
      obtain ⟨h4, h2, h3⟩ := hb x hx
      show (p.turned (q.f - p.first) (· - 1) 1).u.getD (x.f - p.first) 0 = 1
      rw [turned_get _ _ _ _ hlt, if_neg (by have := hn x hx; omega)]; exact h1 x hx
    refine ⟨keep _ (fun x hx => hH x (cut_mem hx)) (fun x hx => cut_ne hok.rise hq hx) fun x hx => h1 x (cut_mem hx), fun lb hb hd h => keep lb hb (fun x hx e => hd q hqm x hx e.symm) h, ?_, rfl, turn_len _ _ _ _⟩
    have h2 : zeros (turn p.u (q.f - p.first) (· - 1) 1) = zeros p.u + 1 := by
      have := turn_zeros (u := p.u) (k := q.f - p.first) (fn := (· - 1)) (j := 0) (by omega) (by rw [Nat.add_zero, hq1]; decide)
      have e2 : p.u.getD (q.f - p.first + 0) 0 = 1 := hq1
      rw [e2] at this
      exact this
    have h3 : (l.take i ++ l.drop (i + 1)).length + 1 = l.length := by simp; omega
    show zeros (turn p.u (q.f - p.first) (· - 1) 1) + _ = zeros p.u + _
    omega
end Go.Proofs.YthpodlcbikialaaDoor
