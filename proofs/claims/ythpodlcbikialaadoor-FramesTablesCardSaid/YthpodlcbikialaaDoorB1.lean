import Derived.Test.YthpodlcbikialaaDoorA9
import Derived.Test.YthpodlcbikialaaDoorShMem3
set_option linter.unusedVariables false
set_option linter.unusedSimpArgs false
namespace Go.Proofs.YthpodlcbikialaaDoor
open Go Go.Sh Go.Fr

/-! ## slabs -/
structure Qr where
  f : Nat
  u : Nat → Bool
def Qr.set (q : Qr) (k : Nat) (v : Bool) : Qr := ⟨q.f, fun j => if j = k then v else q.u j⟩
def Qr.new (f : Nat) : Qr := ⟨f, fun k => decide (k = 0)⟩
def Qr.tabs (q : Qr) (k : Nat) : List Nat := ((List.range k).filter q.u).map fun k => 4 * q.f + k
def tabs (l : List Qr) : List Nat := l.flatMap fun q => q.tabs 4
def qCells (q : Qr) : List Value := [.int .i64 ((q.f : Nat) : Int), .bool (q.u 0), .bool (q.u 1), .bool (q.u 2), .bool (q.u 3)]
def qsCells (l : List Qr) : List Value := l.flatMap qCells
def i64n (l : List Nat) : List Value := l.map fun n => Value.int .i64 ((n : Nat) : Int)
structure SlabOk (l : List Qr) : Prop where
  lt : ∀ q ∈ l, q.f < 268435456
  rise : l.Pairwise fun a b => a.f < b.f
  any : ∀ q ∈ l, ∃ k, k < 4 ∧ q.u k = true
structure SlabAt (w : World) (s b : Nat) (g : Option Addr) (c : Nat) (l : List Qr) : Prop where
  st : Has w s [.pointer (some ⟨b, 0, none⟩), .slice g l.length c]
  sl : Sl w 0 86 5 g l.length c (qsCells l)
  ne : ¬ On g s
  ok : SlabOk l
theorem E78 : ElemT prog 78 86 (.agg #[.int .i64 0, .bool false, .bool false, .bool false, .bool false]) 5 16 := ⟨by kernel_rfl, by kernel_rfl, rfl, by decide⟩
theorem SlabAt.fr {S : Nat → Prop} {w w' : World} {s b c : Nat} {g : Option Addr} {l : List Qr} (h : SlabAt w s b g c l) (f : Fr S w w') (h1 : ¬ S s) (h2 : ∀ x, On g x → ¬ S x) : SlabAt w' s b g c l :=
  ⟨h.st.fr f h1, h.sl.fr f h2, h.ne, h.ok⟩
theorem SlabAt.fr0 {w w' : World} {s b c : Nat} {g : Option Addr} {l : List Qr} (h : SlabAt w s b g c l) (f : Fr0 w w') : SlabAt w' s b g c l := h.fr f (fun h => h) fun _ _ h => h
theorem SlabAt.qt {w w' : World} {s b c : Nat} {g : Option Addr} {l : List Qr} (h : SlabAt w s b g c l) (f : Qt w w') : SlabAt w' s b g c l := h.fr0 f.fr
theorem q_len (q : Qr) : (qCells q).length = 5 := rfl
theorem q_get {l : List Qr} {i : Nat} {q : Qr} (h : l[i]? = some q) (sp : List Value) (j : Nat) (hj : j < 5) : (qsCells l ++ sp)[i * 5 + j]? = (qCells q)[j]? := by
  rw [List.getElem?_append_left (by rw [qsCells, flat_len q_len]; have := (List.getElem?_eq_some_iff.1 h).1; omega)]
  exact flat_get q_len l i j hj q h
theorem q_get0 {l : List Qr} {i : Nat} {q : Qr} (h : l[i]? = some q) (sp : List Value) : (qsCells l ++ sp)[i * 5]? = some (.int .i64 ((q.f : Nat) : Int)) := q_get h sp 0 (by decide)
theorem q_getk {l : List Qr} {i : Nat} {q : Qr} (h : l[i]? = some q) (sp : List Value) (k : Nat) (hk : k < 4) : (qsCells l ++ sp)[i * 5 + 1 + k]? = some (.bool (q.u k)) := by
  rw [Nat.add_assoc, q_get h sp (1 + k) (by omega)]
  rcases k with _ | _ | _ | _ | k
  · rfl
  · rfl
  · rfl
  · rfl
  · omega
theorem rise_len : ∀ {l : List Qr} {m N : Nat}, (∀ q ∈ l, m ≤ q.f ∧ q.f < N) → l.Pairwise (fun a b => a.f < b.f) → l.length ≤ N - m
  | [], m, N, _, _ => by simp
  | q :: r, m, N, h, hp => by
    have h1 := h q (by simp)
    obtain ⟨h2, h3⟩ := List.pairwise_cons.1 hp
    have := rise_len (l := r) (m := q.f + 1) (N := N) (fun x hx => ⟨h2 x hx, (h x (by simp [hx])).2⟩) h3
    simp only [List.length_cons]; omega
theorem SlabOk.len {l : List Qr} (h : SlabOk l) : l.length ≤ 268435456 := rise_len (fun q hq => ⟨Nat.zero_le _, h.lt q hq⟩) h.rise

theorem f18 {w : World} {s b c : Nat} {g : Option Addr} {l : List Qr} (hS : SlabAt w s b g c l) :
    Ret prog 18 #[.pointer (some ⟨s, 0, none⟩)] w fun v w' => ∃ q d, v = .slice q l.length d ∧ Sl w' w.heap.size 3 1 q l.length d (i64n (l.map Qr.f)) ∧ Fr0 w w' := by
  have hN := hS.ok.len
  refine F18_of _ _ _ ?_
  unfold F18
  simp only [at0_mk, Nat.zero_add]
  refine hS.st.ld rfl ?_
  rw [AsSl_slice]
  refine Loop.by (fun s w' => ∃ (i : Nat) (q : Option Addr) (d : Nat), s = [.int .i64 (i : Int), .slice q i d] ∧ i ≤ l.length ∧ Sl w' w.heap.size 3 1 q i d (i64n ((l.take i).map Qr.f)) ∧ Fr0 w w')
    (fun s _ => match s with | [.int _ k, _] => l.length - k.toNat | _ => 0)
    ⟨0, none, 0, rfl, by omega, Sl.nil _ _ _ _, Fr.refl _ _⟩ ?_
  rintro _ w1 ⟨i, q, d, rfl, hi, hsl, hf⟩
  simp only [UnC_cons, UnN_nil, AsI_int, AsSl_slice]
  refine BIf_cases (fun hlt => ?_) (fun hge => ?_)
  · have hil : i < l.length := by omega
    obtain ⟨x, hx⟩ : ∃ x, l[i]? = some x := ⟨_, List.getElem?_eq_getElem hil⟩
    have hxm : x ∈ l := List.mem_of_getElem? hx
    obtain ⟨gb, sp, rfl, _, hh⟩ := (hS.sl.fr0 hf).some_ (by omega)
    simp only [NilP_some, at0_mk, Nat.zero_add, Int.toNat_natCast]
    refine ⟨by omega, by omega, ?_⟩
    refine hh.ld (q_get0 hx sp) ?_
    rw [AsI_int]
    refine hh.ld (q_get hx sp 1 (by decide)) ?_
    rw [AsB_bool]
    refine hh.ld (q_get hx sp 2 (by decide)) ?_
    rw [AsB_bool]
    refine hh.ld (q_get hx sp 3 (by decide)) ?_
    rw [AsB_bool]
    refine hh.ld (q_get hx sp 4 (by decide)) ?_
    rw [AsB_bool]
    refine New.mk fun w2 n2 f2 s2 => ?_
    simp only [at0_mk, Nat.zero_add]
    refine n2.st (by simp) rfl fun w3 n3 f3 s3 => ?_
    refine n3.st (by simp) rfl fun w4 n4 f4 s4 => ?_
    refine n4.st (by simp) rfl fun w5 n5 f5 s5 => ?_
    refine n5.st (by simp) rfl fun w6 n6 f6 s6 => ?_
    refine n6.st (by simp) rfl fun w7 n7 f7 s7 => ?_
    refine n7.ld rfl ?_
    rw [AsI_int]
    have hf7 : Fr0 w1 w7 := (((((f2.mono fun _ _ h => h.elim).trans f3).trans f4).trans f5).trans f6 |>.trans f7).mono fun x hx h => by omega
    refine push_sl E38 (by decide) (hsl.fr0 hf7) (by have := hf.size; have := hf7.size; omega) rfl (by intro u hu; simp [Value.cells] at hu; subst hu; rfl) (by simp only [maxLen]; omega) (by omega) ?_
    intro p' c' w8 hsl8 hf8 hon8
    rw [AsSl_slice, w64 (n := (i : Int) + 1) (by omega) (by omega)]
    refine ⟨⟨i + 1, p', c', rfl, by omega, ?_, (hf.trans hf7).own hf8 (fun b hb hlt => by have := (hsl.lt b hb).1; omega)⟩, ?_⟩
    · have e : i64n ((l.take (i + 1)).map Qr.f) = i64n ((l.take i).map Qr.f) ++ [.int .i64 ((x.f : Nat) : Int)] := by
        rw [List.take_add_one, hx]; simp [i64n]
      rw [e]; exact hsl8
    · show l.length - ((i : Int) + 1).toNat < l.length - (i : Int).toNat
      omega
  · obtain rfl : i = l.length := by omega
    rw [List.take_length] at hsl
    exact ⟨q, d, rfl, hsl, hf⟩
end Go.Proofs.YthpodlcbikialaaDoor
