import Derived.Test.YthpodlcbikialaaDoorShD
namespace Go.Sh
set_option linter.unusedVariables false
variable {P : Program} {G : Tab}

/-! ## code -/
/-- slots that a piece of code writes, and the type of the first operation that does -/
def dstsO : List Oper → List (Nat × TypeId) → List (Nat × TypeId)
  | [], acc => acc
  | o :: r, acc => match o.dst with
    | none => dstsO r acc
    | some d => dstsO r ((d, o.type) :: acc)
def dsts : Code → List (Nat × TypeId) → List (Nat × TypeId)
  | .region _ ops _, acc => dstsO ops.toList acc
  | .seq a b, acc => dsts a (dsts b acc)
  | .cond _ a b, acc => dsts a (dsts b acc)
  | .block _ c, acc => dsts c acc
  | .loop c, acc => dsts c acc
  | .scope c, acc => dsts c acc
  | _, acc => acc
def typeOf : List (Nat × TypeId) → Nat → Option TypeId
  | [], _ => none
  | (d, t) :: r, n => match Nat.beq d n with | true => some t | false => typeOf r n
/-- the environment without the slots of these -/
def without (D : List (Nat × TypeId)) : Env → Env
  | [] => []
  | (k, v) :: r => match typeOf D k with | some _ => without D r | none => (k, v) :: without D r
/-- the slots of the environment among these, once each, with their types -/
def carried (D : List (Nat × TypeId)) : Env → List Nat → List (Nat × TypeId)
  | [], _ => []
  | (k, _) :: r, seen => match memN seen k with
    | true => carried D r seen
    | false => match typeOf D k with
      | some t => (k, t) :: carried D r (k :: seen)
      | none => carried D r (k :: seen)
def withVals : List (Nat × TypeId) → List Value → Env → Env
  | (k, _) :: r, v :: vs, e => (k, v) :: withVals r vs e
  | _, _, e => e
def readL (e : Env) : List (Nat × TypeId) → Option (List Value)
  | [] => some []
  | (k, _) :: r => match get e k, readL e r with
    | some v, some l => some (v :: l)
    | _, _ => none

/-- how many ways a piece of code ends by itself, and by an exit -/
def exits (id : Nat) : Code → Nat
  | .seq a b => exits id a + exits id b
  | .cond _ a b => exits id a + exits id b
  | .block _ c => exits id c
  | .loop c => exits id c
  | .scope c => exits id c
  | .exit i => match Nat.beq i id with | true => 1 | false => 0
  | _ => 0
def ends : Code → Nat
  | .skip => 1
  | .region .. => 1
  | .seq a b => match ends a with | 0 => 0 | _ + 1 => ends b
  | .cond _ a b => ends a + ends b
  | .block id c => ends c + exits id c
  | .loop _ => 0
  | .scope c => ends c
  | .label _ => 1
  | _ => 0
def hasCond : Code → Bool
  | .cond .. => true
  | .seq a b => match hasCond a with | true => true | false => hasCond b
  | .block _ c => hasCond c
  | .scope c => hasCond c
  | .loop _ => true
  | _ => false

/-- where ways meet again: what is known there -/
def Join (R : List Value → World → Prop) (B : (List Value → World → Prop) → Prop) : Prop := ∃ J : List Value → World → Prop, (∀ s w, J s w → R s w) ∧ B J
theorem Join.triv {R : List Value → World → Prop} {B : (List Value → World → Prop) → Prop} (h : B R) : Join R B := ⟨R, fun _ _ h => h, h⟩
theorem Join.at {R : List Value → World → Prop} {B : (List Value → World → Prop) → Prop} (J : List Value → World → Prop) (h : B J) (hR : ∀ s w, J s w → R s w) : Join R B := ⟨J, hR, h⟩
/-- a loop: an invariant and a measure -/
def Loop (s0 : List Value) (w0 : World) (B : (List Value → World → Prop) → List Value → World → Prop) : Prop :=
  ∃ (I : List Value → World → Prop) (μ : List Value → World → Nat), I s0 w0 ∧ ∀ s w, I s w → B (fun s' w' => I s' w' ∧ μ s' w' < μ s w) s w
theorem Loop.by {s0 : List Value} {w0 : World} {B : (List Value → World → Prop) → List Value → World → Prop} (I : List Value → World → Prop) (μ : List Value → World → Nat)
    (h0 : I s0 w0) (h : ∀ s w, I s w → B (fun s' w' => I s' w' ∧ μ s' w' < μ s w) s w) : Loop s0 w0 B := ⟨I, μ, h0, h⟩

/-- unpack the carried values by their types -/
def unpack (G : Tab) (L : List (Nat × TypeId)) (s : List Value) (K : List Value → Prop) : Prop := AsAll (L.map fun (_, t) => shT G 12 t) s K

def T (P : Program) (G : Tab) (nt : Nat) : Code → Env → World → (Env → World → Prop) → (Nat → Env → World → Prop) → (Env → World → Prop) → Prop
  | .skip, e, w, N, _, _ => N e w
  | .label _, e, w, N, _, _ => N e w
  | .region _ ops false, e, w, N, _, _ => opsT P G nt ops.toList ops.toList e w N
  | .region _ ops true, e, w, N, _, _ => match Region.noSelect ops, allApart ops (num 0 ops.toList) (num 0 ops.toList) with
    | true, true => opsD P G nt ops.toList ops.size (num 0 ops.toList) [] [] e w.drew N
    | _, _ => False
  | .seq a b, e, w, N, X, R => match Nat.ble (ends a) 1, Nat.ble (ends b) 0 with
    | false, false =>
      let D := dsts a []
      let L := carried D e []
      let e' := without D e
      Join (fun s w' => unpack G L s fun s => T P G nt b (withVals L s e') w' N X R)
        fun J => T P G nt a e w (fun f w' => match readL f L with | some s => J s w' | none => False) X R
    | _, _ => T P G nt a e w (fun e w => T P G nt b e w N X R) X R
  | .cond c a b, e, w, N, X, R => match ev e c with
    | some (.bool t) => BIf t (T P G nt a e w N X R) (T P G nt b e w N X R)
    | _ => False
  | .block id c, e, w, N, X, R => T P G nt c e w N (fun i e w => match Nat.beq i id with | true => N e w | false => X i e w) R
  | .loop c, e, w, _, X, R =>
    let D := dsts c []
    let L := carried D e []
    let e' := without D e
    match readL e L with
    | some s0 => Loop s0 w fun J s w => unpack G L s fun s => T P G nt c (withVals L s e') w (fun f w' => match readL f L with | some s => J s w' | none => False) X R
    | none => False
  | .scope c, e, w, N, X, R => T P G nt c e w N X R
  | .exit id, e, w, _, X, _ => X id e w
  | .ret, e, w, _, _, R => R e w
  | _, _, _, _, _, _ => False

/-! ### it is sound -/
theorem get_without {D : List (Nat × TypeId)} : ∀ {e : Env} {n : Nat} {v : Value}, get (without D e) n = some v → get e n = some v ∧ typeOf D n = none
  | [], n, v, h => by cases h
  | (k, u) :: r, n, v, h => by
    simp only [without] at h
    split at h
    · rename_i t ht
      have := get_without h
      refine ⟨?_, this.2⟩
      simp only [get]
      cases hk : Nat.beq k n with
      | true => have e : k = n := Nat.eq_of_beq_eq_true hk; rw [e, this.2] at ht; cases ht
      | false => exact this.1
    · rename_i ht
      simp only [get] at h ⊢
      cases hk : Nat.beq k n with
      | true => rw [hk] at h; have e : k = n := Nat.eq_of_beq_eq_true hk; rw [e] at ht; exact ⟨h, ht⟩
      | false => rw [hk] at h; exact get_without h


/-- slots outside D read as they did -/
def Ext (D : Nat → Prop) (e f : Env) : Prop := ∀ n v, ¬ D n → get e n = some v → get f n = some v
theorem Ext.refl (D : Nat → Prop) (e : Env) : Ext D e e := fun _ _ _ h => h
theorem Ext.trans {D : Nat → Prop} {e f g : Env} (h : Ext D e f) (k : Ext D f g) : Ext D e g := fun n v hn he => k n v hn (h n v hn he)
theorem Ext.mono {D D' : Nat → Prop} {e f : Env} (h : Ext D e f) (hd : ∀ n, D n → D' n) : Ext D' e f := fun n v hn he => h n v (fun hd' => hn (hd n hd')) he
theorem Ext.put {D : Nat → Prop} {e f : Env} {nt : Nat} {d : Option Nat} {v : Value} (h : Ext D e f) (hd : ∀ n, d = some n → D n) : Ext D e (put nt f d v) := by
  intro n u hn he
  have h0 := h n u hn he
  cases d with
  | none => exact h0
  | some d =>
    simp only [Sh.put]
    split
    · simp only [get]
      split
      · rename_i hk; have : d = n := Nat.eq_of_beq_eq_true hk; subst this; exact absurd (hd d rfl) hn
      · exact h0
    · exact h0
theorem Ext.know {D : Nat → Prop} {e f : Env} {d : Nat} {v : Value} (h : Ext D e f) (hv : get f d = some v) : Ext D e ((d, v) :: f) := by
  intro n u hn he
  have h0 := h n u hn he
  simp only [get]
  split
  · rename_i hk; have : d = n := Nat.eq_of_beq_eq_true hk; subst this; rw [← h0, hv]
  · exact h0

theorem opG_ext {nt : Nat} {ops : Array Oper} {e : Env} {o : Oper} {yes no : Env → Prop} {a : Act} (ha : Ok nt e a) (h : opG ops.toList e o yes no) :
    ∃ e', Ok nt e' a ∧ (∀ D, Ext D e e') ∧ ((Region.wanted o (yielded ops a.tmps) = true ∧ yes e') ∨ (Region.wanted o (yielded ops a.tmps) = false ∧ no e')) := by
  unfold opG at h
  split at h
  · rename_i hg; exact ⟨e, ha, fun D => .refl D e, .inl ⟨by simp [Region.wanted, hg], h⟩⟩
  · rename_i j want hg
    split at h
    · exact h.elim
    rename_i d hd
    have hd' : (ops[j]?).bind (·.dst) = some d := by
      unfold dstOf at hd
      split at hd
      · rename_i o' ho; have : ops[j]? = some o' := by simpa using ho
        simp [this, hd]
      · cases hd
    split at h
    · rename_i b hb
      have hv := ha.get d _ hb
      have hy : yielded ops a.tmps j = some b := by unfold yielded; rw [hd']; simp [hv]
      split at h
      · rcases h.elim with ⟨rfl, h⟩ | ⟨rfl, h⟩
        · exact ⟨_, ha.know hv, fun D => (Ext.refl D e).know hb, .inl ⟨by simp [Region.wanted, hg, hy], h⟩⟩
        · exact ⟨_, ha.know hv, fun D => (Ext.refl D e).know hb, .inr ⟨by simp [Region.wanted, hg, hy], h⟩⟩
      · rcases h.elim with ⟨rfl, h⟩ | ⟨rfl, h⟩
        · exact ⟨_, ha.know hv, fun D => (Ext.refl D e).know hb, .inr ⟨by simp [Region.wanted, hg, hy], h⟩⟩
        · exact ⟨_, ha.know hv, fun D => (Ext.refl D e).know hb, .inl ⟨by simp [Region.wanted, hg, hy], h⟩⟩
    · rename_i l hb
      have hv := ha.get d _ hb
      have hy : yielded ops a.tmps j = none := by unfold yielded; rw [hd']; simp [hv]
      exact ⟨e, ha, fun D => .refl D e, .inr ⟨by simp [Region.wanted, hg, hy], h⟩⟩
    · exact h.elim

theorem opsT_ext (hG : G.Ok P) {nt : Nat} {ops : Array Oper} {N : Env → World → Prop} {X : Nat → Env → World → Prop} {R : Env → World → Prop} {D : Nat → Prop} {e0 : Env} :
    ∀ {l : List Oper} {e : Env} {w : World} {a : Act}, (∀ o ∈ l, ∀ n, o.dst = some n → D n) → Ext D e0 e →
    Ok nt e a → opsT P G nt ops.toList l e w N → wpList P ops (Post nt (fun f w => Ext D e0 f ∧ N f w) X R) l a w
  | [], e, w, a, _, hx, ha, h => ⟨e, ha, hx, h⟩
  | o :: r, e, w, a, hd, hx, ha, h => by
    obtain ⟨e', ha', hx', ⟨hw, h⟩ | ⟨hw, h⟩⟩ := opG_ext ha h
    · refine wpList_step fun K hK => ?_
      rw [if_pos hw]
      exact op1_ok hG ha' h _ _ fun v w' hv => hK _ _ (opsT_ext hG (fun o' ho' => hd o' (by simp [ho'])) ((hx.trans (hx' D)).put (hd o (by simp))) (ha'.put o.dst v) (by rwa [force_eq] at hv))
    · refine wpList_step fun K hK => ?_
      rw [hw]
      exact hK _ _ (opsT_ext hG (fun o' ho' => hd o' (by simp [ho'])) ((hx.trans (hx' D)).put (hd o (by simp))) (ha'.put o.dst undef) (by rwa [force_eq] at h))

theorem opsD_ext (hG : G.Ok P) {nt : Nat} {ops : Array Oper} {N : Env → World → Prop} {X : Nat → Env → World → Prop} {R : Env → World → Prop} {D : Nat → Prop} {e0 : Env} (hsel : Region.noSelect ops = true)
    (hd : ∀ o ∈ ops, ∀ n, o.dst = some n → D n) (hap : allApart ops (num 0 ops.toList) (num 0 ops.toList) = true) :
    ∀ {fuel : Nat} {todo : Todo} {done : List Nat} {listed : Array Bool} {C : Chk} {e : Env} {w : World} {a : Act}, Lists ops todo done listed → (∀ k, listed.getD k false = true → memN done k = true) →
      Closed ops.toList listed → Ext D e0 e → Ok nt e a → opsD P G nt ops.toList fuel todo done C e w N → anyC P G ops (Post nt (fun f w => Ext D e0 f ∧ N f w) X R) fuel listed C a w
  | 0, todo, done, listed, C, e, w, a, hl, hdl, hcl, hx, ha, h => by
    simp only [opsD] at h
    split at h
    · refine ⟨?_, e, ha, hx, h⟩
      cases hr : Region.ready .any ops listed with
      | nil => rfl
      | cons x r => obtain ⟨o, ho, _⟩ := hl.ready_ok hdl (i := x) (by rw [hr]; simp); cases ho
    · exact h.elim
  | fuel + 1, todo, done, listed, C, e, w, a, hl, hdl, hcl, hx, ha, h => by
    have hdl' : ∀ i k, (listed.setIfInBounds i true).getD k false = true → memN (i :: done) k = true := by
      intro i k hk
      simp only [memN]
      cases hb : Nat.beq i k with
      | true => rfl
      | false => rw [getD_set_ne false (Nat.ne_of_beq_eq_false hb)] at hk; exact hdl k hk
    simp only [opsD] at h
    split at h
    · rename_i i o r htk
      obtain ⟨hmem, hR, hok, h4, h5, h6⟩ := takeR_some htk
      obtain ⟨h7, h8⟩ := h6 hl.nodup
      have ho' := hl.isOp _ hmem
      simp only at ho' hR hok h5 h8
      have hW : isW G ops.toList i = false := by simp [isW, ho', hR]
      have hrd := hl.ready hmem hok
      have hdo := hd o (Array.mem_of_getElem? ho')
      have hstep := hl.step hmem (r := r) (fun y hy => ⟨h4 y hy, h8 y hy⟩) h5 h7
      have hfree : ∀ j oj, ops[j]? = some oj → j ≠ i → listed.getD j true = false → (∀ e ∈ oj.after, Region.binds .any e = true → e.on ≠ i) → o.apart ops oj = true := by
        intro j oj hj hne hun hno
        have hall := allApart_spec hap (i, o) (num_mem.2 ⟨Nat.zero_le _, by simpa using ho'⟩)
        refine apart2_spec hall (j, oj) (num_mem.2 ⟨Nat.zero_le _, by simpa using hj⟩) hne ?_ ?_
        · rintro ⟨e, he, hb, hk⟩; exact hno e (by simpa using he) hb hk
        · rintro ⟨e, he, hb, hk⟩
          have := okE_spec hl.done_ hok e he hb
          rw [hk] at this
          have hlt : j < listed.size := by rw [hl.size]; exact (Array.getElem?_eq_some_iff.1 hj).1
          simp only at this
          rw [Array.getD_eq_getD_getElem?] at this hun
          simp [hlt] at this hun
          rw [hun] at this; cases this
      obtain ⟨e', ha', hx', ⟨hw, h⟩ | ⟨hw, h⟩⟩ := opG_ext ha h
      · obtain ⟨v, s, hK, hs, hrun⟩ := rd_ok hG h
        rw [force_eq] at hK
        refine anyC_first ho' (Region.noSelect_spec hsel) (fun _ _ _ h => h.elim) hW fuel listed C a w hl.size hcl hfree hrd
          (.inl ⟨hw, fun w' hw' => hrun a w' ha' hw'⟩) hs ?_
        exact anyC_addChk (opsD_ext hG hsel hd hap hstep (hdl' i) (hcl.set hrd) ((hx.trans (hx' D)).put hdo) (ha'.put o.dst v) hK)
      · rw [force_eq] at h
        refine anyC_first (s := held none) ho' (Region.noSelect_spec hsel) (fun _ _ _ h => h.elim) hW fuel listed C a w hl.size hcl hfree hrd
          (.inr ⟨hw, rfl⟩) trivial ?_
        exact anyC_addChk (s := none) (opsD_ext hG hsel hd hap hstep (hdl' i) (hcl.set hrd) ((hx.trans (hx' D)).put hdo) (ha'.put o.dst undef) h)
    · rename_i hnone
      split at h
      · refine ⟨fun _ => ⟨e, ha, hx, h⟩, fun i hi => ?_⟩
        obtain ⟨o, ho, _⟩ := hl.ready_ok hdl hi; cases ho
      · rename_i t0 ts
        split at h
        · exact h.elim
        · rename_i x xs hrw
          refine ⟨fun h0 => ?_, fun j hj => ?_⟩
          · have hxm : x ∈ readyW done (t0 :: ts) := by rw [hrw]; simp
            obtain ⟨h1, h2⟩ := readyW_mem.1 hxm
            have := hl.ready (i := x.1) (o := x.2) h1 h2
            rw [h0] at this; cases this
          · obtain ⟨o, hom, hok⟩ := hl.ready_ok hdl hj
            have hjm : (j, o) ∈ x :: xs := by rw [← hrw]; exact readyW_mem.2 ⟨hom, hok⟩
            have h1 := allOf2_mem h (j, o) hjm
            have ho' := hl.isOp _ hom
            simp only at ho' h1
            have hRj := takeR_none hnone (j, o) hom hok
            have hWj : isW G ops.toList j = true := by simp [isW, ho', hRj]
            have hdo := hd o (Array.mem_of_getElem? ho')
            obtain ⟨d1, d2⟩ := drop1_mem (i := j) hl.nodup
            have hstep := hl.step hom (r := drop1 j (t0 :: ts)) (fun y hy => (d1 y).1 hy) (fun y hy hne => (d1 y).2 ⟨hy, hne⟩) d2
            obtain ⟨e', ha', hx', ⟨hw, h⟩ | ⟨hw, h⟩⟩ := opG_ext ha h1
            · unfold wpOp
              simp only [ho', hw, if_true]
              refine .inl (wo_ok hG ha' h _ _ fun v w' hv => ?_)
              rw [hWj]
              have hv := chkK_out hv
              rw [force_eq] at hv
              exact ⟨by simpa using hv.1, opsD_ext hG hsel hd hap hstep (hdl' j) (hcl.set hj) ((hx.trans (hx' D)).put hdo) (ha'.put o.dst v) hv.2⟩
            · unfold wpOp
              simp only [ho', hw]
              rw [hWj]
              have h := chkK_out h
              rw [force_eq] at h
              exact ⟨by simpa using h.1, opsD_ext hG hsel hd hap hstep (hdl' j) (hcl.set hj) ((hx.trans (hx' D)).put hdo) (ha'.put o.dst undef) h.2⟩

/-- the slots that a piece of code writes lie in D -/
def Wr : Code → (Nat → Prop) → Prop
  | .region _ ops _, D => ∀ o ∈ ops, ∀ n, o.dst = some n → D n
  | .seq a b, D => Wr a D ∧ Wr b D
  | .cond _ a b, D => Wr a D ∧ Wr b D
  | .block _ c, D => Wr c D
  | .loop c, D => Wr c D
  | .scope c, D => Wr c D
  | _, _ => True
def inL (D : List (Nat × TypeId)) (n : Nat) : Prop := ∃ t, (n, t) ∈ D
theorem typeOf_none {D : List (Nat × TypeId)} {n : Nat} : typeOf D n = none ↔ ¬ inL D n := by
  induction D with
  | nil => simp [typeOf, inL]
  | cons x r ih =>
    obtain ⟨d, t⟩ := x
    simp only [typeOf]
    cases hk : Nat.beq d n with
    | true => have : d = n := Nat.eq_of_beq_eq_true hk; subst this; simp [inL]
    | false =>
      have hne : d ≠ n := Nat.ne_of_beq_eq_false hk
      simp only [ih, inL, List.mem_cons, Prod.mk.injEq]
      constructor
      · rintro h ⟨t', (⟨rfl, _⟩ | hm)⟩
        · exact hne rfl
        · exact h ⟨t', hm⟩
      · rintro h ⟨t', hm⟩; exact h ⟨t', .inr hm⟩
theorem dstsO_mem : ∀ {l : List Oper} {acc : List (Nat × TypeId)}, (∀ x ∈ acc, x ∈ dstsO l acc) ∧ (∀ o ∈ l, ∀ n, o.dst = some n → inL (dstsO l acc) n)
  | [], acc => ⟨fun x hx => hx, fun o ho => by cases ho⟩
  | o :: r, acc => by
    simp only [dstsO]
    split
    · rename_i hd
      obtain ⟨h1, h2⟩ := dstsO_mem (l := r) (acc := acc)
      refine ⟨h1, fun o' ho' n hn => ?_⟩
      rcases List.mem_cons.1 ho' with rfl | ho'
      · rw [hd] at hn; cases hn
      · exact h2 o' ho' n hn
    · rename_i d hd
      obtain ⟨h1, h2⟩ := dstsO_mem (l := r) (acc := (d, o.type) :: acc)
      refine ⟨fun x hx => h1 x (by simp [hx]), fun o' ho' n hn => ?_⟩
      rcases List.mem_cons.1 ho' with rfl | ho'
      · rw [hd] at hn; injection hn with hn; subst hn; exact ⟨o'.type, h1 _ (List.mem_cons_self ..)⟩
      · exact h2 o' ho' n hn
theorem Wr.mono : ∀ {c : Code} {D D' : Nat → Prop}, (∀ n, D n → D' n) → Wr c D → Wr c D'
  | .region .., _, _, hd, h => fun o ho n hn => hd n (h o ho n hn)
  | .seq a b, _, _, hd, h => ⟨Wr.mono (c := a) hd h.1, Wr.mono (c := b) hd h.2⟩
  | .cond _ a b, _, _, hd, h => ⟨Wr.mono (c := a) hd h.1, Wr.mono (c := b) hd h.2⟩
  | .block _ c, _, _, hd, h => Wr.mono (c := c) hd h
  | .loop c, _, _, hd, h => Wr.mono (c := c) hd h
  | .scope c, _, _, hd, h => Wr.mono (c := c) hd h
  | .skip, _, _, _, _ | .rangeFunc .., _, _, _, _ | .exit _, _, _, _, _ | .label _, _, _, _, _ | .goto _, _, _, _, _ | .ret, _, _, _, _ | .refuse _, _, _, _, _ => trivial
theorem dsts_wr : ∀ (c : Code) (acc : List (Nat × TypeId)), (∀ x ∈ acc, x ∈ dsts c acc) ∧ Wr c (inL (dsts c acc))
  | .region _ ops _, acc => ⟨(dstsO_mem (l := ops.toList)).1, fun o ho n hn => (dstsO_mem (l := ops.toList)).2 o (by simpa using ho) n hn⟩
  | .seq a b, acc | .cond _ a b, acc => by
    obtain ⟨b1, b2⟩ := dsts_wr b acc
    obtain ⟨a1, a2⟩ := dsts_wr a (dsts b acc)
    exact ⟨fun x hx => a1 x (b1 x hx), a2, b2.mono fun n ⟨t, ht⟩ => ⟨t, a1 _ ht⟩⟩
  | .block _ c, acc | .loop c, acc | .scope c, acc => by
    obtain ⟨b1, b2⟩ := dsts_wr c acc
    exact ⟨b1, b2⟩
  | .skip, _ | .rangeFunc .., _ | .exit _, _ | .label _, _ | .goto _, _ | .ret, _ | .refuse _, _ => ⟨fun x hx => hx, trivial⟩

theorem dstsO_sub : ∀ (l : List Oper) (acc acc' : List (Nat × TypeId)), (∀ p ∈ acc, p ∈ acc') → ∀ p ∈ dstsO l acc, p ∈ dstsO l acc'
  | [], acc, acc', hs, p, hp => hs p hp
  | o :: r, acc, acc', hs, p, hp => by
    simp only [dstsO] at hp ⊢
    split at hp
    · exact dstsO_sub r _ _ hs p hp
    · refine dstsO_sub r _ _ (fun q hq => ?_) p hp
      rcases List.mem_cons.1 hq with rfl | hq
      · simp
      · simp [hs q hq]
theorem dsts_subL : ∀ (c : Code) (acc acc' : List (Nat × TypeId)), (∀ p ∈ acc, p ∈ acc') → ∀ p ∈ dsts c acc, p ∈ dsts c acc'
  | .region _ ops _, acc, acc', hs, p, hp => dstsO_sub _ _ _ hs p hp
  | .seq a b, acc, acc', hs, p, hp | .cond _ a b, acc, acc', hs, p, hp => dsts_subL a _ _ (dsts_subL b _ _ hs) p hp
  | .block _ c, acc, acc', hs, p, hp | .loop c, acc, acc', hs, p, hp | .scope c, acc, acc', hs, p, hp => dsts_subL c _ _ hs p hp
  | .skip, _, _, hs, p, hp | .rangeFunc .., _, _, hs, p, hp | .exit _, _, _, hs, p, hp | .label _, _, _, hs, p, hp | .goto _, _, _, hs, p, hp | .ret, _, _, hs, p, hp
  | .refuse _, _, _, hs, p, hp => hs p hp
theorem dsts_sub (c : Code) (acc : List (Nat × TypeId)) (n : Nat) (h : inL (dsts c []) n) : inL (dsts c acc) n :=
  let ⟨t, ht⟩ := h; ⟨t, dsts_subL c [] acc (fun _ hq => by cases hq) _ ht⟩

theorem carried_in {D : List (Nat × TypeId)} : ∀ {e : Env} {seen : List Nat} {k : Nat} {t : TypeId}, (k, t) ∈ carried D e seen → inL D k
  | [], _, _, _, h => by cases h
  | (k', v) :: r, seen, k, t, h => by
    simp only [carried] at h
    split at h
    · exact carried_in h
    · split at h
      · rename_i t' ht
        rcases List.mem_cons.1 h with e | h
        · injection e with e1 e2; subst e1
          refine Classical.byContradiction fun hn => ?_
          rw [typeOf_none.2 hn] at ht; cases ht
        · exact carried_in h
      · exact carried_in h
theorem readL_some : ∀ {L : List (Nat × TypeId)} {e : Env} {s : List Value}, readL e L = some s → s.length = L.length ∧ ∀ nt a, Ok nt e a → s = L.map fun p => a.tmps.getD p.1 undef
  | [], e, s, h => by simp [readL] at h; subst h; simp
  | (k, t) :: r, e, s, h => by
    simp only [readL] at h
    split at h
    · rename_i v l hv hl
      injection h with h; subst h
      obtain ⟨h1, h2⟩ := readL_some hl
      refine ⟨by simp [h1], fun nt a ha => ?_⟩
      have := ha.get k v hv
      rw [List.map_cons, ← h2 nt a ha, Array.getD_eq_getD_getElem?, this, Option.getD_some]
    · cases h
theorem withVals_get : ∀ {L : List (Nat × TypeId)} {s : List Value} {e : Env} {n : Nat} {v : Value}, get (withVals L s e) n = some v →
    (∃ i : Nat, (∃ t, L[i]? = some (n, t)) ∧ s[i]? = some v) ∨ get e n = some v
  | [], s, e, n, v, h => .inr (by simpa [withVals] using h)
  | (k, t) :: r, [], e, n, v, h => .inr (by simpa [withVals] using h)
  | (k, t) :: r, u :: us, e, n, v, h => by
    simp only [withVals, get] at h
    split at h
    · rename_i hk
      have : k = n := Nat.eq_of_beq_eq_true hk
      subst this
      injection h with h; subst h
      exact .inl ⟨0, ⟨t, by simp⟩, by simp⟩
    · rcases withVals_get h with ⟨i, ⟨t', h1⟩, h2⟩ | h
      · exact .inl ⟨i + 1, ⟨t', by simpa using h1⟩, by simpa using h2⟩
      · exact .inr h
theorem withVals_out {n : Nat} : ∀ {L : List (Nat × TypeId)} {s : List Value} {e : Env}, ¬ inL L n → get (withVals L s e) n = get e n
  | [], s, e, _ => by simp [withVals]
  | (k, t) :: r, [], e, _ => by simp [withVals]
  | (k, t) :: r, u :: us, e, h => by
    simp only [withVals, get]
    split
    · rename_i hk
      have : k = n := Nat.eq_of_beq_eq_true hk
      exact absurd ⟨t, by simp [this]⟩ h
    · exact withVals_out fun ⟨t', ht⟩ => h ⟨t', by simp [ht]⟩
theorem without_out {D : List (Nat × TypeId)} {n : Nat} (hn : ¬ inL D n) : ∀ {e : Env}, get (without D e) n = get e n
  | [] => rfl
  | (k, u) :: r => by
    simp only [without]
    split
    · rename_i t ht
      simp only [get]
      split
      · rename_i hk
        have : k = n := Nat.eq_of_beq_eq_true hk
        rw [this, typeOf_none.2 hn] at ht; cases ht
      · exact without_out hn
    · simp only [get]
      split
      · rfl
      · exact without_out hn

theorem readL_get {f : Env} {n : Nat} {v : Value} {t : TypeId} : ∀ {L : List (Nat × TypeId)} {s : List Value} {i : Nat}, readL f L = some s → L[i]? = some (n, t) → s[i]? = some v → Sh.get f n = some v
  | [], s, i, _, h1, _ => by simp at h1
  | (k, t') :: r, s, i, hr, h1, h2 => by
    simp only [readL] at hr
    split at hr
    · rename_i u l hu hl
      injection hr with hr; subst hr
      cases i with
      | zero => simp at h1 h2; obtain ⟨rfl, rfl⟩ := h1; subst h2; exact hu
      | succ i => exact readL_get hl (by simpa using h1) (by simpa using h2)
    · cases hr
/-- the environment behind a join, or at a loop's head -/
theorem Ok.rejoin {nt : Nat} {D L : List (Nat × TypeId)} {e f : Env} {a : Act} {s : List Value} (hf : Ok nt f a) (hr : readL f L = some s) (hx : Ext (inL D) e f) :
    Ok nt (withVals L s (without D e)) a := by
  refine ⟨hf.defers, hf.size, fun n v hn => ?_⟩
  rcases withVals_get hn with ⟨i, ⟨t, h1⟩, h2⟩ | h
  · exact hf.get n v (readL_get hr h1 h2)
  · obtain ⟨h1, h2⟩ := get_without h
    exact hf.get n v (hx n v (typeOf_none.1 h2) h1)
theorem Ext.rejoin {D : List (Nat × TypeId)} {e : Env} {s : List Value} {seen : List Nat} : Ext (inL D) e (withVals (carried D e seen) s (without D e)) := by
  intro n v hn he
  rw [withVals_out (fun ⟨t, ht⟩ => hn (carried_in ht)), without_out hn]
  exact he

theorem T_ok (hG : G.Ok P) {nt : Nat} : ∀ (c : Code) {e : Env} {w : World} {N : Env → World → Prop} {X : Nat → Env → World → Prop} {R : Env → World → Prop} {a : Act}, Ok nt e a → T P G nt c e w N X R →
    (P.follows .mixedOrders = true) →
    c.wp P (Post nt (fun f w => Ext (inL (dsts c [])) e f ∧ N f w) (fun i f w => Ext (inL (dsts c [])) e f ∧ X i f w) R) a w
  | .skip, e, w, N, X, R, a, ha, h, _ => wp_skip ⟨e, ha, .refl _ e, h⟩
  | .label l, e, w, N, X, R, a, ha, h, _ => wp_label ⟨e, ha, .refl _ e, h⟩
  | .exit id, e, w, N, X, R, a, ha, h, _ => wp_exit ⟨e, ha, .refl _ e, h⟩
  | .ret, e, w, N, X, R, a, ha, h, _ => wp_ret ⟨e, ha, h⟩
  | .region id ops d, e, w, N, X, R, a, ha, h, hm => by
    have hd := (dsts_wr (.region id ops d) []).2
    cases d with
    | false => exact wp_region_list (opsT_ext hG (fun o ho => hd o (by simpa using ho)) (.refl _ e) ha h)
    | true =>
      simp only [T] at h
      split at h
      · rename_i hsel hap
        refine wp_region_any hm (anyC_any (opsD_ext hG hsel hd hap (Lists.start ops) (fun k hk => ?_) (Closed.start ops) (.refl _ e) ha h))
        rw [show (Array.replicate ops.size false).getD k false = false from by simp only [Array.getD_eq_getD_getElem?, Array.getElem?_replicate]; split <;> rfl] at hk
        cases hk
      · exact h.elim
  | .seq x y, e, w, N, X, R, a, ha, h, hm => by
    have hx1 := dsts_wr x (dsts y [])
    have hy1 := dsts_wr y []
    have inx : ∀ n, inL (dsts x []) n → inL (dsts (.seq x y) []) n := fun n hn => (dsts_sub x (dsts y [])) n hn
    have iny : ∀ n, inL (dsts y []) n → inL (dsts (.seq x y) []) n := fun n ⟨t, ht⟩ => ⟨t, hx1.1 _ ht⟩
    have plain : T P G nt x e w (fun e w => T P G nt y e w N X R) X R → (Code.seq x y).wp P (Post nt (fun f w => Ext (inL (dsts (.seq x y) [])) e f ∧ N f w) (fun i f w => Ext (inL (dsts (.seq x y) [])) e f ∧ X i f w) R) a w := by
      intro h
      refine wp_seq (Code.wp_mono (fun ex a' w' hp => ?_) (T_ok hG x ha h hm))
      cases ex with
      | normal =>
        obtain ⟨f, hf, hx, hN⟩ := hp
        refine Code.wp_mono (fun ex a'' w'' hp => ?_) (T_ok hG y hf hN hm)
        cases ex with
        | normal => obtain ⟨g, hg, hx2, hN⟩ := hp; exact ⟨g, hg, (hx.mono inx).trans (hx2.mono iny), hN⟩
        | exit id => obtain ⟨g, hg, hx2, hN⟩ := hp; exact ⟨g, hg, (hx.mono inx).trans (hx2.mono iny), hN⟩
        | ret => exact hp
        | goto l => exact hp
        | panic c => exact hp
        | outgrown => exact hp
      | exit id => obtain ⟨f, hf, hx, hN⟩ := hp; exact ⟨f, hf, hx.mono inx, hN⟩
      | ret => exact hp
      | goto l => exact hp
      | panic c => exact hp
      | outgrown => exact hp
    simp only [T] at h
    split at h
    · obtain ⟨J, hJ, h⟩ := h
      refine wp_seq (Code.wp_mono (fun ex a' w' hp => ?_) (T_ok hG x ha h hm))
      cases ex with
      | normal =>
        obtain ⟨f, hf, hx, hN⟩ := hp
        split at hN
        · rename_i s hs
          have h2 := AsAll.elim (hJ s w' hN)
          have hok := hf.rejoin hs hx
          refine Code.wp_mono (fun ex a'' w'' hp => ?_) (T_ok hG y hok h2 hm)
          have hxx : Ext (inL (dsts (.seq x y) [])) e _ := (Ext.rejoin (D := dsts x []) (e := e) (s := s) (seen := [])).mono inx
          cases ex with
          | normal => obtain ⟨g, hg, hx2, hN⟩ := hp; exact ⟨g, hg, hxx.trans (hx2.mono iny), hN⟩
          | exit id => obtain ⟨g, hg, hx2, hN⟩ := hp; exact ⟨g, hg, hxx.trans (hx2.mono iny), hN⟩
          | ret => exact hp
          | goto l => exact hp
          | panic c => exact hp
          | outgrown => exact hp
        · exact hN.elim
      | exit id => obtain ⟨f, hf, hx, hN⟩ := hp; exact ⟨f, hf, hx.mono inx, hN⟩
      | ret => exact hp
      | goto l => exact hp
      | panic c => exact hp
      | outgrown => exact hp
    · exact plain h
  | .cond c x y, e, w, N, X, R, a, ha, h, hm => by
    simp only [T] at h
    split at h
    · rename_i t hc
      have hev := ha.ev hc
      have inx : ∀ n, inL (dsts x []) n → inL (dsts (.cond c x y) []) n := fun n hn => (dsts_sub x (dsts y [])) n hn
      have iny : ∀ n, inL (dsts y []) n → inL (dsts (.cond c x y) []) n := fun n ⟨t, ht⟩ => ⟨t, (dsts_wr x (dsts y [])).1 _ ht⟩
      rcases h.elim with ⟨rfl, h⟩ | ⟨rfl, h⟩
      · refine wp_cond_true hev (Code.wp_mono (fun ex a' w' hp => ?_) (T_ok hG x ha h hm))
        cases ex with
        | normal => obtain ⟨f, hf, hx, hN⟩ := hp; exact ⟨f, hf, hx.mono inx, hN⟩
        | exit id => obtain ⟨f, hf, hx, hN⟩ := hp; exact ⟨f, hf, hx.mono inx, hN⟩
        | _ => exact hp
      · refine wp_cond_false hev (Code.wp_mono (fun ex a' w' hp => ?_) (T_ok hG y ha h hm))
        cases ex with
        | normal => obtain ⟨f, hf, hx, hN⟩ := hp; exact ⟨f, hf, hx.mono iny, hN⟩
        | exit id => obtain ⟨f, hf, hx, hN⟩ := hp; exact ⟨f, hf, hx.mono iny, hN⟩
        | _ => exact hp
    · exact h.elim
  | .block id c, e, w, N, X, R, a, ha, h, hm => by
    simp only [T] at h
    refine wp_block (Code.wp_mono (fun ex a' w' hp => ?_) (T_ok hG c ha h hm))
    cases ex with
    | normal => exact hp
    | exit i =>
      obtain ⟨f, hf, hx, hN⟩ := hp
      simp only [Exit.inBlock]
      split at hN
      · rename_i hk
        have : i = id := Nat.eq_of_beq_eq_true hk
        rw [if_pos (by simp [this])]
        exact ⟨f, hf, hx, hN⟩
      · rename_i hk
        have : i ≠ id := Nat.ne_of_beq_eq_false hk
        rw [if_neg (by simpa using this)]
        exact ⟨f, hf, hx, hN⟩
    | _ => exact hp
  | .loop c, e, w, N, X, R, a, ha, h, hm => by
    simp only [T] at h
    split at h
    · rename_i s0 hs0
      obtain ⟨I, μ, h0, hr⟩ := h
      refine wp_loop (fun a' w' => ∃ f s, Ok nt f a' ∧ readL f (carried (dsts c []) e []) = some s ∧ Ext (inL (dsts c [])) e f ∧ I s w')
        (fun a' w' => μ ((carried (dsts c []) e []).map fun p => a'.tmps.getD p.1 undef) w') ⟨e, s0, ha, hs0, .refl _ e, h0⟩ ?_
      rintro a1 w1 ⟨f, s, hf, hs, hx, hI⟩
      have h2 := AsAll.elim (hr s w1 hI)
      have hok := hf.rejoin hs hx
      refine Code.wp_mono (fun ex a'' w'' hp => ?_) (T_ok hG c hok h2 hm)
      have hxx : Ext (inL (dsts c [])) e _ := Ext.rejoin (D := dsts c []) (e := e) (s := s) (seen := [])
      cases ex with
      | normal =>
        obtain ⟨g, hg, hx2, hN⟩ := hp
        split at hN
        · rename_i s' hs'
          refine ⟨⟨g, s', hg, hs', hxx.trans hx2, hN.1⟩, ?_⟩
          rw [← (readL_some hs').2 nt _ hg, ← (readL_some hs).2 nt _ hf]
          exact hN.2
        · exact hN.elim
      | exit id => obtain ⟨g, hg, hx2, hN⟩ := hp; exact ⟨g, hg, hxx.trans hx2, hN⟩
      | _ => exact hp
    · exact h.elim
  | .scope c, e, w, N, X, R, a, ha, h, hm => by
    simp only [T] at h
    refine wp_scope_straight (Code.wp_mono (fun ex a' w' hp => ?_) (T_ok hG c ha h hm))
    cases ex <;> exact hp
  | .goto _, _, _, _, _, _, _, _, h, _ => h.elim
  | .rangeFunc .., _, _, _, _, _, _, _, h, _ => h.elim
  | .refuse _, _, _, _, _, _, _, _, h, _ => h.elim
end Go.Sh
