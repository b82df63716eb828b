import Derived.Test.YthpodlcbikialaaDoorEs
import Derived.Test.YthpodlcbikialaaDoorShMems
set_option linter.unusedVariables false
set_option linter.unusedSimpArgs false
set_option linter.unusedVariables false
set_option linter.unusedSimpArgs false
namespace Go.Proofs.YthpodlcbikialaaDoor
open Go Go.Sh Go.Fr

/-- the state of FramesFresh: a pool and one slab -/
structure One (w0 w : World) (b bu bd s : Nat) (g : Option Addr) (c : Nat) (l : List Qr) (p : Pool) : Prop where
  pool : PoolAt w b bu bd p
  A : SlabAt w s b g c l
  hA : Held p l
  sab : ∀ x, Sb s g x → ¬ Own b bu bd x
  lo : ∀ x, Own b bu bd x ∨ Sb s g x → w0.heap.size ≤ x
  fr : Fr0 w0 w
  tz : Tz w0
section
variable {w0 w w' : World} {b bu bd s c : Nat} {g : Option Addr} {l : List Qr} {p : Pool}
theorem One.frT {T : Nat → Prop} (h : One w0 w b bu bd s g c l p) (f : Fr T w w') (hT : ∀ x, T x → ¬ Own b bu bd x ∧ ¬ Sb s g x) (hlo : ∀ x, T x → w0.heap.size ≤ x) : One w0 w' b bu bd s g c l p :=
  ⟨h.pool.fr f (fun ht => (hT _ ht).1 (.inl rfl)) (fun ht => (hT _ ht).1 (.inr (.inl rfl))) (fun ht => (hT _ ht).1 (.inr (.inr rfl))), h.A.fr f (fun ht => (hT _ ht).2 (.inl rfl)) fun y hy ht => (hT _ ht).2 (.inr hy), h.hA, h.sab, h.lo, Fr.news h.fr f hlo, h.tz⟩
theorem One.fr0 (h : One w0 w b bu bd s g c l p) (f : Fr0 w w') : One w0 w' b bu bd s g c l p := h.frT f (fun _ h => h.elim) fun _ h => h.elim
theorem One.tz' (h : One w0 w b bu bd s g c l p) : Tz w := h.tz.fr0 h.fr
theorem One.z (h : One w0 w b bu bd s g c l p) : ¬ Own b bu bd 0 := fun hx => by have := h.lo 0 (.inl hx); have := h.tz.size; omega
theorem One.lt (h : One w0 w b bu bd s g c l p) : ∀ x, Own b bu bd x ∨ Sb s g x → x < w.heap.size := by
  rintro x (h1 | h1)
  · exact h.pool.lt x h1
  · exact h.A.lt x h1
end
theorem PStep.held {p p' : Pool} {k f n al : Int} {r : Int} {e : Nat} (h : PStep p k f n al r e p') (hk : k ≠ 3) {l : List Qr} (hH : Held p l) : Held p' l := by
  cases h with
  | take _ r e p' ht =>
    cases ht with
    | bad => exact hH
    | none => exact hH
    | ok _ a hf =>
      intro q hq
      obtain ⟨h1, h2, h3⟩ := hH q hq
      refine ⟨h1, by simp only [Pool.turned, turn_len]; exact h2, ?_⟩
      show 0 < (turn p.u a (fun _ => 1) n.toNat).getD (q.f - p.first) 0
      rw [turn_get _ _ _ _ _ hf.2.1]
      split
      · exact Nat.one_pos
      · exact h3
  | shareErr => exact hH
  | share _ hs =>
    have hr : (p.run f n).2 = 0 := by
      unfold Pool.shareErr at hs
      split at hs
      · omega
      · omega
    obtain ⟨r1, r2, r3, _, r5⟩ := run_ok hr
    intro q hq
    obtain ⟨h1, h2, h3⟩ := hH q hq
    refine ⟨h1, by simp only [Pool.turned, turn_len]; exact h2, ?_⟩
    show 0 < (turn p.u _ (· + 1) n.toNat).getD (q.f - p.first) 0
    rw [turn_get _ _ _ _ _ (by omega)]
    split
    · exact Nat.succ_pos _
    · exact h3
  | dropErr h => exact absurd h hk
  | drop h => exact absurd h hk
  | other => exact hH
/-- a slice whose places all hold v, one each sz cells -/
def Holds (w : World) (p : Option Addr) (n sz : Nat) (v : Value) : Prop := ∀ j, j < n → ∃ g, p = some ⟨g, 0, none⟩ ∧ w.cell? ⟨g, j * sz, none⟩ = some v
theorem Holds.fr {S : Nat → Prop} {w w' : World} {p : Option Addr} {n sz : Nat} {v : Value} (h : Holds w p n sz v) (f : Fr S w w') (hS : ∀ y, On p y → ¬ S y) : Holds w' p n sz v := fun j hj => by
  obtain ⟨g, hg, hc⟩ := h j hj
  exact ⟨g, hg, cell_fr hc f (hS _ ⟨_, hg, rfl⟩)⟩
/-- the last place of a slice that was grown -/
def Last (w : World) (p : Option Addr) (o : Nat) (v : Value) : Prop := ∃ g, p = some ⟨g, 0, none⟩ ∧ w.cell? ⟨g, o, none⟩ = some v
theorem Last.fr {S : Nat → Prop} {w w' : World} {p : Option Addr} {o : Nat} {v : Value} (h : Last w p o v) (f : Fr S w w') (hS : ∀ y, On p y → ¬ S y) : Last w' p o v := by
  obtain ⟨g, hg, hc⟩ := h
  exact ⟨g, hg, cell_fr hc f (hS _ ⟨_, hg, rfl⟩)⟩
theorem Last.far {w w' : World} {p : Option Addr} {o : Nat} {v : Value} (h : Last w p o v) (f : ∀ g, w'.cell? ⟨g, o, none⟩ = w.cell? ⟨g, o, none⟩) : Last w' p o v := by
  obtain ⟨g, hg, hc⟩ := h
  exact ⟨g, hg, by rw [f]; exact hc⟩
theorem Sl.last {w : World} {B : Nat} {e : TypeId} {size n c : Nat} {p : Option Addr} {xs : List Value} {v : Value} {vs : List Value} (h : Sl w B e size p (n + 1) c (xs ++ v :: vs)) (hx : xs.length = n * size) : Last w p (n * size) v := by
  obtain ⟨g, sp, hp, _, hh⟩ := Go.Sh.Sl.some_ h (by omega)
  refine ⟨g, hp, ?_⟩
  rw [hh.cell, List.append_assoc, List.getElem?_append_right (by omega), hx, Nat.sub_self]; rfl
end Go.Proofs.YthpodlcbikialaaDoor
