import Derived.Test.YthpodlcbikialaaDoorShW
import Derived.OrdersHeld
namespace Go.Sh
variable {P : Program} {G : Tab}

/-! ## a region whose order is drawn: reads go first, with what must stay as it was -/
abbrev Chk := List (Nat × (World → Prop))
def bindsB (e : Edge) : Bool := Region.binds .any e
def memN (l : List Nat) (n : Nat) : Bool := match l with | [] => false | x :: r => match Nat.beq x n with | true => true | false => memN r n
/-- does one of these operations wait for number k? -/
def waitsK (k : Nat) : List Edge → Bool
  | [] => false
  | e :: r => match bindsB e with
    | true => match Nat.beq e.on k with | true => true | false => waitsK k r
    | false => waitsK k r
def anyWaits (ops : List Oper) (k : Nat) : List Nat → Bool
  | [] => false
  | s :: r => match ops[s]? with
    | some o => match waitsK k o.after.toList with | true => true | false => anyWaits ops k r
    | none => anyWaits ops k r
def ancGo (ops : List Oper) : Nat → List Nat → List Nat → List Nat
  | 0, _, acc => acc
  | k + 1, S, acc => match anyWaits ops k S with
    | true => ancGo ops k (k :: S) (k :: acc)
    | false => ancGo ops k S acc
/-- the operations that must come ahead of number j -/
def anc (ops : List Oper) (j : Nat) : List Nat := ancGo ops j [j] []
def upholds (A : List Nat) (C : Chk) (w : World) : Prop :=
  match C with
  | [] => True
  | (i, s) :: r => match memN A i with | true => upholds A r w | false => s w ∧ upholds A r w

def isW (G : Tab) (ops : List Oper) (j : Nat) : Bool := match ops[j]? with | some o => !isR G o.op | none => false

/-- 'wpAny' with checks: behind an operation that may write, what was read ahead of it must be as it was, but for what had to come ahead of it -/
def anyC (P : Program) (G : Tab) (ops : Array Oper) (Q : Exit → Act → World → Prop) : Nat → Array Bool → Chk → Act → World → Prop
  | 0, listed, _, a, w => Region.ready .any ops listed = [] ∧ Q .normal a w
  | fuel + 1, listed, C, a, w =>
    (Region.ready .any ops listed = [] → Q .normal a w) ∧
    ∀ i ∈ Region.ready .any ops listed, wpOp P ops Q i (fun a' w' => (if isW G ops.toList i = true then upholds (anc ops.toList i) C w' else w' = w) ∧
      anyC P G ops Q fuel (listed.setIfInBounds i true) C a' w') a w

section
variable {ops : Array Oper} {Q : Exit → Act → World → Prop}
theorem anyC_any : ∀ {fuel : Nat} {listed : Array Bool} {C : Chk} {a : Act} {w : World}, anyC P G ops Q fuel listed C a w → wpAny P .any ops Q fuel listed a w
  | 0, _, _, _, _, h => h
  | _ + 1, _, _, _, _, h => ⟨h.1, fun i hi => wpOp_mono (fun _ _ h' => anyC_any h'.2) (h.2 i hi)⟩
theorem upholds_tail {A : List Nat} {i : Nat} {s : World → Prop} {C : Chk} {w : World} (h : upholds A ((i, s) :: C) w) : upholds A C w := by
  simp only [upholds] at h
  split at h
  · exact h
  · exact h.2
theorem anyC_tail {i : Nat} {s : World → Prop} : ∀ {fuel : Nat} {listed : Array Bool} {C : Chk} {a : Act} {w : World}, anyC P G ops Q fuel listed ((i, s) :: C) a w → anyC P G ops Q fuel listed C a w
  | 0, _, _, _, _, h => h
  | _ + 1, _, _, _, _, h => ⟨h.1, fun i hi => wpOp_mono (fun a' w' h' => by
      refine ⟨?_, anyC_tail h'.2⟩
      have := h'.1
      split at this
      · rename_i hw; rw [if_pos hw]; exact upholds_tail this
      · rename_i hw; rw [if_neg hw]; exact this) (h.2 i hi)⟩

/-- what stands among the listed is closed under 'must come ahead' -/
def Closed (ops : List Oper) (listed : Array Bool) : Prop :=
  ∀ (k : Nat) (o : Oper), ops[k]? = some o → listed.getD k false = true → ∀ e ∈ o.after.toList, bindsB e = true → listed.getD e.on false = true

theorem waitsK_iff {k : Nat} : ∀ {l : List Edge}, waitsK k l = true → ∃ e ∈ l, bindsB e = true ∧ e.on = k
  | [], h => by cases h
  | e :: r, h => by
    simp only [waitsK] at h
    split at h
    · rename_i hb
      split at h
      · rename_i hk; exact ⟨e, by simp, hb, Nat.eq_of_beq_eq_true hk⟩
      · obtain ⟨e', h1, h2⟩ := waitsK_iff h; exact ⟨e', by simp [h1], h2⟩
    · obtain ⟨e', h1, h2⟩ := waitsK_iff h; exact ⟨e', by simp [h1], h2⟩
theorem anyWaits_iff {ops : List Oper} {k : Nat} : ∀ {S : List Nat}, anyWaits ops k S = true → ∃ s ∈ S, ∃ o, ops[s]? = some o ∧ ∃ e ∈ o.after.toList, bindsB e = true ∧ e.on = k
  | [], h => by cases h
  | s :: r, h => by
    simp only [anyWaits] at h
    split at h
    · rename_i o ho
      split at h
      · rename_i hw; obtain ⟨e, h1, h2⟩ := waitsK_iff hw; exact ⟨s, by simp, o, ho, e, h1, h2⟩
      · obtain ⟨s', h1, h2⟩ := anyWaits_iff h; exact ⟨s', by simp [h1], h2⟩
    · obtain ⟨s', h1, h2⟩ := anyWaits_iff h; exact ⟨s', by simp [h1], h2⟩
theorem ancGo_listed {l : List Oper} {listed : Array Bool} (hc : Closed l listed) {j : Nat} (hj : ∀ o, l[j]? = some o → ∀ e ∈ o.after.toList, bindsB e = true → listed.getD e.on false = true) :
    ∀ (n : Nat) (S acc : List Nat), (∀ s ∈ S, s = j ∨ listed.getD s false = true) → (∀ x ∈ acc, listed.getD x false = true) → ∀ x ∈ ancGo l n S acc, listed.getD x false = true
  | 0, _, _, _, ha, x, hx => ha x hx
  | k + 1, S, acc, hS, ha, x, hx => by
    simp only [ancGo] at hx
    split at hx
    · rename_i hw
      obtain ⟨s, hs, o, ho, e, he, hb, hk⟩ := anyWaits_iff hw
      have hkl : listed.getD k false = true := by
        rcases hS s hs with rfl | h1
        · rw [← hk]; exact hj o ho e he hb
        · rw [← hk]; exact hc s o ho h1 e he hb
      refine ancGo_listed hc hj k (k :: S) (k :: acc) (fun s' hs' => ?_) (fun x' hx' => ?_) x hx
      · rcases List.mem_cons.1 hs' with rfl | hs'
        · exact .inr hkl
        · exact hS s' hs'
      · rcases List.mem_cons.1 hx' with rfl | hx'
        · exact hkl
        · exact ha x' hx'
    · exact ancGo_listed hc hj k S acc hS ha x hx
theorem anc_listed {l : List Oper} {listed : Array Bool} (hc : Closed l listed) (j : Nat) (o : Oper) (ho : l[j]? = some o)
    (h : ∀ e ∈ o.after.toList, bindsB e = true → listed.getD e.on false = true) : ∀ x ∈ anc l j, listed.getD x false = true :=
  ancGo_listed hc (fun o' ho' => by rw [ho] at ho'; injection ho' with e; subst e; exact h) j [j] [] (fun s hs => by simp at hs; exact .inl hs) (fun x hx => by cases hx)

theorem memN_iff {l : List Nat} {n : Nat} : memN l n = true ↔ n ∈ l := by
  induction l with
  | nil => simp [memN]
  | cons x r ih =>
    simp only [memN, List.mem_cons]
    cases h : Nat.beq x n with
    | true => have : x = n := Nat.eq_of_beq_eq_true h; simp [this]
    | false => have : x ≠ n := Nat.ne_of_beq_eq_false h; simp [ih, Ne.symm this]

theorem Closed.set {listed : Array Bool} (hc : Closed ops.toList listed) {j : Nat} (hj : j ∈ Region.ready .any ops listed) : Closed ops.toList (listed.setIfInBounds j true) := by
  intro k o ho hk e he hb
  obtain ⟨hun, oj, hoj, hall⟩ := mem_ready.1 hj
  by_cases hkj : k = j
  · subst hkj
    have : oj = o := by have h1 : ops[k]? = some o := by simpa using ho
                        rw [h1] at hoj; injection hoj with h; exact h.symm
    subst this
    exact getD_set_true (hall e (by simpa using he) hb)
  · rw [getD_set_ne false (Ne.symm hkj)] at hk
    exact getD_set_true (hc k o ho hk e he hb)

/-- **a read may be taken first**: it yields its value wherever 's' holds, 's' holds now, and 's' is checked behind whatever might come ahead of it -/
theorem anyC_first {i : Nat} {oi : Oper} {v : Value} {s : World → Prop} (hi : ops[i]? = some oi) (hsel : ∀ (j : Nat) (o : Oper) cs b, ops[j]? = some o → o.op ≠ .select cs b)
    (hQ : ∀ c a w, Q (.panic c) (a.put oi.dst v) w → Q (.panic c) a w) (hR : isW G ops.toList i = false) :
    ∀ (fuel : Nat) (listed : Array Bool) (C : Chk) (a : Act) (w : World), listed.size = ops.size → Closed ops.toList listed →
      (∀ j oj, ops[j]? = some oj → j ≠ i → listed.getD j true = false → (∀ e ∈ oj.after, Region.binds .any e = true → e.on ≠ i) → oi.apart ops oj = true) →
      i ∈ Region.ready .any ops listed → YieldsIf P ops s oi v a → s w →
      anyC P G ops Q fuel (listed.setIfInBounds i true) ((i, s) :: C) (a.put oi.dst v) w → anyC P G ops Q (fuel + 1) listed C a w := by
  intro fuel
  induction fuel with
  | zero =>
    intro listed C a w _ _ _ hr hy hS H
    refine ⟨fun h => (by rw [h] at hr; cases hr), fun j hj => ?_⟩
    by_cases hji : j = i
    · subst hji; exact hy.wpOp hi hS ⟨by rw [hR]; simp, H⟩
    · have := ready_mono hj hji
      rw [H.1] at this
      cases this
  | succ fuel ih =>
    intro listed C a w hsz hcl hfree hr hy hS H
    refine ⟨fun h => (by rw [h] at hr; cases hr), fun j hj => ?_⟩
    by_cases hji : j = i
    · subst hji; exact hy.wpOp hi hS ⟨by rw [hR]; simp, anyC_tail H⟩
    · have h1 := H.2 j (ready_mono hj hji)
      obtain ⟨hjun, oj, hoj, hall⟩ := mem_ready.1 hj
      have hnot : ∀ e ∈ oj.after, Region.binds .any e = true → e.on ≠ i := fun e he hb heq => by
        have h1 := hall e he hb
        have h0 := (mem_ready.1 hr).1
        rw [heq] at h1
        rcases Nat.lt_or_ge i listed.size with h' | h'
        · simp [h'] at h0 h1; rw [h0] at h1; cases h1
        · simp [Array.getElem?_eq_none h'] at h1
      have hnanc : memN (anc ops.toList j) i = false := by
        cases hm : memN (anc ops.toList j) i with
        | false => rfl
        | true =>
          have hx := anc_listed hcl j oj (by simpa using hoj) (fun e he hb => hall e (by simpa using he) hb) i (memN_iff.1 hm)
          have h0 := (mem_ready.1 hr).1
          rcases Nat.lt_or_ge i listed.size with h' | h'
          · simp [h'] at h0 hx; rw [h0] at hx; cases hx
          · simp [Array.getElem?_eq_none h'] at hx
      have h2 := wpOp_putIf hoj (hfree j oj hoj hji hjun hnot) (fun cs b => hsel i oi cs b hi) (fun cs b => hsel j oj cs b hoj) hQ hy h1
      have hfree' : ∀ k ok, ops[k]? = some ok → k ≠ i → (listed.setIfInBounds j true).getD k true = false →
          (∀ e ∈ ok.after, Region.binds .any e = true → e.on ≠ i) → oi.apart ops ok = true := fun k ok hk hki hun hno => by
        refine hfree k ok hk hki ?_ hno
        by_cases hjk : j = k
        · subst hjk; exact hjun
        · rw [getD_set_ne true hjk] at hun; exact hun
      refine wpOp_mono (fun a' w' h3 => ?_) h2
      obtain ⟨hy', hchk, hrest⟩ := h3
      have hS' : s w' := by
        split at hchk
        · simp only [upholds, hnanc] at hchk; exact hchk.1
        · rw [hchk]; exact hS
      refine ⟨?_, ih (listed.setIfInBounds j true) C a' w' (by simpa using hsz) (hcl.set hj) hfree' (ready_mono hr (Ne.symm hji)) hy' hS' ?_⟩
      · split at hchk
        · rename_i hw; rw [if_pos hw]; exact upholds_tail hchk
        · rename_i hw; rw [if_neg hw]; exact hchk
      · rw [Array.setIfInBounds_comm _ _ hji]
        exact hrest
end

/-- the checks, ahead of what follows -/
def chkK (A : List Nat) (C : Chk) (w : World) (K : Prop) : Prop :=
  match C with
  | [] => K
  | (i, s) :: r => match memN A i with | true => chkK A r w K | false => s w ∧ chkK A r w K
theorem chkK_out : ∀ {A : List Nat} {C : Chk} {w : World} {K : Prop}, chkK A C w K → upholds A C w ∧ K
  | A, [], w, K, h => ⟨trivial, h⟩
  | A, (i, s) :: r, w, K, h => by
    simp only [chkK] at h
    simp only [upholds]
    split at h
    · exact chkK_out h
    · have := chkK_out h.2; exact ⟨⟨h.1, this.1⟩, this.2⟩
/-- the first of these that only reads -/
def firstR (G : Tab) (ops : List Oper) : List Nat → Option Nat
  | [] => none
  | i :: r => match isW G ops i with | false => some i | true => firstR G ops r
def allOf : List Nat → (Nat → Prop) → Prop
  | [], _ => True
  | [i], p => p i
  | i :: r, p => p i ∧ allOf r p
theorem allOf_mem : ∀ {l : List Nat} {p : Nat → Prop}, allOf l p → ∀ i ∈ l, p i
  | [], _, _, i, hi => by cases hi
  | [j], _, h, i, hi => by simp at hi; subst hi; exact h
  | j :: k :: r, p, h, i, hi => by
    rcases List.mem_cons.1 hi with rfl | hi
    · exact h.1
    · exact allOf_mem (l := k :: r) h.2 i hi
theorem firstR_some {ops : List Oper} : ∀ {l : List Nat} {i : Nat}, firstR G ops l = some i → i ∈ l ∧ isW G ops i = false
  | [], i, h => by cases h
  | j :: r, i, h => by
    simp only [firstR] at h
    split at h
    · rename_i hj; injection h with h; subst h; exact ⟨by simp, hj⟩
    · have := firstR_some h; exact ⟨by simp [this.1], this.2⟩
theorem firstR_none {ops : List Oper} : ∀ {l : List Nat}, firstR G ops l = none → ∀ i ∈ l, isW G ops i = true
  | [], _, i, hi => by cases hi
  | j :: r, h, i, hi => by
    simp only [firstR] at h
    split at h
    · cases h
    · rename_i hj
      rcases List.mem_cons.1 hi with rfl | hi
      · exact hj
      · exact firstR_none h i hi

def addChk (i : Nat) (s : Option (World → Prop)) (C : Chk) : Chk := match s with | none => C | some s => (i, s) :: C

/-- may it come up: is all that it waits for done? -/
def okE (done : List Nat) : List Edge → Bool
  | [] => true
  | e :: r => match bindsB e with
    | true => match memN done e.on with | true => okE done r | false => false
    | false => okE done r
abbrev Todo := List (Nat × Oper)
/-- the first that only reads and may come up; what is left without it -/
def takeR (G : Tab) (done : List Nat) : Todo → Option ((Nat × Oper) × Todo)
  | [] => none
  | (i, o) :: r => match isR G o.op with
    | true => match okE done o.after.toList with
      | true => some ((i, o), r)
      | false => match takeR G done r with | some (x, r') => some (x, (i, o) :: r') | none => none
    | false => match takeR G done r with | some (x, r') => some (x, (i, o) :: r') | none => none
def readyW (done : List Nat) : Todo → List (Nat × Oper)
  | [] => []
  | (i, o) :: r => match okE done o.after.toList with | true => (i, o) :: readyW done r | false => readyW done r
def drop1 (i : Nat) : Todo → Todo
  | [] => []
  | (j, o) :: r => match Nat.beq i j with | true => r | false => (j, o) :: drop1 i r
def allOf2 : List (Nat × Oper) → (Nat × Oper → Prop) → Prop
  | [], _ => True
  | [i], p => p i
  | i :: r, p => p i ∧ allOf2 r p
theorem allOf2_mem : ∀ {l : List (Nat × Oper)} {p : Nat × Oper → Prop}, allOf2 l p → ∀ i ∈ l, p i
  | [], _, _, i, hi => by cases hi
  | [j], _, h, i, hi => by simp at hi; subst hi; exact h
  | j :: k :: r, p, h, i, hi => by
    rcases List.mem_cons.1 hi with rfl | hi
    · exact h.1
    · exact allOf2_mem (l := k :: r) h.2 i hi
/-- of any two operations one waits for the other, or they are apart -/
def apart2 (ops : Array Oper) (i : Nat) (x : Oper) : Todo → Bool
  | [] => true
  | (j, y) :: r => match Nat.beq i j with
    | true => apart2 ops i x r
    | false => match waitsK i y.after.toList with
      | true => apart2 ops i x r
      | false => match waitsK j x.after.toList with
        | true => apart2 ops i x r
        | false => match x.apart ops y with | true => apart2 ops i x r | false => false
def allApart (ops : Array Oper) (all : Todo) : Todo → Bool
  | [] => true
  | (i, x) :: r => match apart2 ops i x all with | true => allApart ops all r | false => false
def num : Nat → List Oper → Todo
  | _, [] => []
  | n, o :: r => (n, o) :: num (n + 1) r

def opsD (P : Program) (G : Tab) (nt : Nat) (ops : List Oper) : Nat → Todo → List Nat → Chk → Env → World → (Env → World → Prop) → Prop
  | 0, todo, _, _, e, w, N => match todo with | [] => N e w | _ :: _ => False
  | fuel + 1, todo, done, C, e, w, N =>
    match takeR G done todo with
    | some ((i, o), r) => opG ops e o
        (fun e => rd P G e o w fun v s => force (put nt e o.dst v) fun e => opsD P G nt ops fuel r (i :: done) (addChk i s C) e w N)
        (fun e => force (put nt e o.dst undef) fun e => opsD P G nt ops fuel r (i :: done) C e w N)
    | none => match todo with
      | [] => N e w
      | _ :: _ => match readyW done todo with
        | [] => False
        | x :: xs => allOf2 (x :: xs) fun (j, o) => opG ops e o
          (fun e => wo P G e o w fun v w' => chkK (anc ops j) C w' (force (put nt e o.dst v) fun e => opsD P G nt ops fuel (drop1 j todo) (j :: done) C e w' N))
          (fun e => chkK (anc ops j) C w (force (put nt e o.dst undef) fun e => opsD P G nt ops fuel (drop1 j todo) (j :: done) C e w N))

theorem anyC_addChk {ops : Array Oper} {Q : Exit → Act → World → Prop} {i : Nat} {s : Option (World → Prop)} :
    ∀ {fuel : Nat} {listed : Array Bool} {C : Chk} {a : Act} {w : World}, anyC P G ops Q fuel listed (addChk i s C) a w → anyC P G ops Q fuel listed ((i, held s) :: C) a w := by
  cases s with
  | some s => exact fun h => h
  | none =>
    intro fuel
    induction fuel with
    | zero => exact fun h => h
    | succ fuel ih =>
      intro listed C a w h
      refine ⟨h.1, fun j hj => wpOp_mono (fun a' w' h' => ⟨?_, ih h'.2⟩) (h.2 j hj)⟩
      have := h'.1
      split at this
      · rename_i hw; rw [if_pos hw]
        simp only [upholds]
        split
        · exact this
        · exact ⟨trivial, this⟩
      · rename_i hw; rw [if_neg hw]; exact this

/-- what the lists say of the array of what is listed -/
structure Lists (ops : Array Oper) (todo : Todo) (done : List Nat) (listed : Array Bool) : Prop where
  size : listed.size = ops.size
  isOp : ∀ x ∈ todo, ops[x.1]? = some x.2
  open_ : ∀ x ∈ todo, listed.getD x.1 true = false
  all : ∀ i o, ops[i]? = some o → listed.getD i true = false → (i, o) ∈ todo
  done_ : ∀ i, memN done i = true → listed.getD i false = true
  nodup : (todo.map (·.1)).Nodup

theorem okE_spec {done : List Nat} {listed : Array Bool} (hd : ∀ i, memN done i = true → listed.getD i false = true) : ∀ {l : List Edge}, okE done l = true → ∀ e ∈ l, bindsB e = true → listed.getD e.on false = true
  | [], _, e, he, _ => by cases he
  | x :: r, h, e, he, hb => by
    simp only [okE] at h
    split at h
    · split at h
      · rename_i hm
        rcases List.mem_cons.1 he with rfl | he
        · exact hd _ hm
        · exact okE_spec hd h e he hb
      · cases h
    · rename_i hx
      rcases List.mem_cons.1 he with rfl | he
      · rw [hx] at hb; cases hb
      · exact okE_spec hd h e he hb

def Took (G : Tab) (done : List Nat) (todo : Todo) (x : Nat × Oper) (r : Todo) : Prop :=
    x ∈ todo ∧ isR G x.2.op = true ∧ okE done x.2.after.toList = true ∧ (∀ y, y ∈ r → y ∈ todo) ∧ (∀ y ∈ todo, y.1 ≠ x.1 → y ∈ r) ∧ ((todo.map (·.1)).Nodup → (r.map (·.1)).Nodup ∧ ∀ y ∈ r, y.1 ≠ x.1)
theorem takeR_some {done : List Nat} : ∀ {todo : Todo} {x : Nat × Oper} {r : Todo}, takeR G done todo = some (x, r) → Took G done todo x r
  | [], x, r, h => by cases h
  | (i, o) :: t, x, r, h => by
    have rec_ : ∀ r', takeR G done t = some (x, r') → r = (i, o) :: r' → Took G done ((i, o) :: t) x r := fun r' h1 h2 => by
      obtain ⟨a1, a2, a3, a4, a5, a6⟩ := takeR_some h1
      subst h2
      refine ⟨?_, a2, a3, ?_, ?_, ?_⟩
      · exact List.mem_cons_of_mem _ a1
      · intro y hy
        rcases List.mem_cons.1 hy with rfl | hy
        · simp
        · exact List.mem_cons_of_mem _ (a4 y hy)
      · intro y hy hne
        rcases List.mem_cons.1 hy with rfl | hy
        · simp
        · exact List.mem_cons_of_mem _ (a5 y hy hne)
      · intro hn
        simp only [List.map_cons, List.nodup_cons] at hn ⊢
        obtain ⟨b1, b2⟩ := a6 hn.2
        refine ⟨⟨fun hm => hn.1 ?_, b1⟩, fun y hy => ?_⟩
        · obtain ⟨z, hz, he⟩ := List.mem_map.1 hm
          exact List.mem_map.2 ⟨z, a4 z hz, he⟩
        · rcases List.mem_cons.1 hy with rfl | hy
          · intro he; exact hn.1 (List.mem_map.2 ⟨x, a1, he.symm⟩)
          · exact b2 y hy
    simp only [takeR] at h
    split at h
    · rename_i hr
      split at h
      · rename_i hok
        injection h with h; injection h with h1 h2; subst h1 h2
        refine ⟨by simp, hr, hok, fun y hy => by simp [hy], ?_, ?_⟩
        · intro y hy hne
          rcases List.mem_cons.1 hy with rfl | hy
          · exact absurd rfl hne
          · exact hy
        · intro hn
          simp only [List.map_cons, List.nodup_cons] at hn
          exact ⟨hn.2, fun y hy he => hn.1 (List.mem_map.2 ⟨y, hy, he⟩)⟩
      · split at h
        · rename_i x' r' h1; injection h with h; injection h with h2 h3; subst h2; exact rec_ r' h1 h3.symm
        · cases h
    · split at h
      · rename_i x' r' h1; injection h with h; injection h with h2 h3; subst h2; exact rec_ r' h1 h3.symm
      · cases h
theorem takeR_none {done : List Nat} : ∀ {todo : Todo}, takeR G done todo = none → ∀ x ∈ todo, okE done x.2.after.toList = true → isR G x.2.op = false
  | [], _, x, hx, _ => by cases hx
  | (i, o) :: t, h, x, hx, hok => by
    simp only [takeR] at h
    split at h
    · rename_i hr
      split at h
      · cases h
      · rename_i hno
        split at h
        · cases h
        · rename_i h1
          rcases List.mem_cons.1 hx with rfl | hx
          · rw [hok] at hno; cases hno
          · exact takeR_none h1 x hx hok
    · rename_i hr
      split at h
      · cases h
      · rename_i h1
        rcases List.mem_cons.1 hx with rfl | hx
        · exact hr
        · exact takeR_none h1 x hx hok
theorem readyW_mem {done : List Nat} : ∀ {todo : Todo} {x : Nat × Oper}, x ∈ readyW done todo ↔ x ∈ todo ∧ okE done x.2.after.toList = true
  | [], x => by simp [readyW]
  | (i, o) :: t, x => by
    simp only [readyW]
    split
    · rename_i h
      simp only [List.mem_cons, readyW_mem]
      constructor
      · rintro (rfl | ⟨h1, h2⟩)
        · exact ⟨.inl rfl, h⟩
        · exact ⟨.inr h1, h2⟩
      · rintro ⟨rfl | h1, h2⟩
        · exact .inl rfl
        · exact .inr ⟨h1, h2⟩
    · rename_i h
      simp only [List.mem_cons, readyW_mem]
      constructor
      · rintro ⟨h1, h2⟩; exact ⟨.inr h1, h2⟩
      · rintro ⟨rfl | h1, h2⟩
        · simp only at h2; rw [h2] at h; cases h
        · exact ⟨h1, h2⟩
theorem drop1_mem {i : Nat} : ∀ {todo : Todo}, (todo.map (·.1)).Nodup → (∀ y, y ∈ drop1 i todo ↔ y ∈ todo ∧ y.1 ≠ i) ∧ ((drop1 i todo).map (·.1)).Nodup
  | [], _ => by simp [drop1]
  | (j, o) :: t, hn => by
    simp only [List.map_cons, List.nodup_cons] at hn
    obtain ⟨h1, h2⟩ := drop1_mem (i := i) hn.2
    simp only [drop1]
    split
    · rename_i hk
      have : i = j := Nat.eq_of_beq_eq_true hk
      subst this
      refine ⟨fun y => ⟨fun hy => ⟨by simp [hy], fun he => hn.1 (List.mem_map.2 ⟨y, hy, he⟩)⟩, fun ⟨hy, hne⟩ => ?_⟩, hn.2⟩
      rcases List.mem_cons.1 hy with rfl | hy
      · exact absurd rfl hne
      · exact hy
    · rename_i hk
      have hne : i ≠ j := Nat.ne_of_beq_eq_false hk
      refine ⟨fun y => ?_, ?_⟩
      · simp only [List.mem_cons, h1]
        constructor
        · rintro (rfl | ⟨a, b⟩)
          · exact ⟨.inl rfl, Ne.symm hne⟩
          · exact ⟨.inr a, b⟩
        · rintro ⟨rfl | a, b⟩
          · exact .inl rfl
          · exact .inr ⟨a, b⟩
      · simp only [List.map_cons, List.nodup_cons]
        exact ⟨fun hm => by obtain ⟨z, hz, he⟩ := List.mem_map.1 hm; exact hn.1 (List.mem_map.2 ⟨z, ((h1 z).1 hz).1, he⟩), h2⟩

section
variable {ops : Array Oper}
theorem Lists.step {todo r : Todo} {done : List Nat} {listed : Array Bool} {i : Nat} {o : Oper} (h : Lists ops todo done listed) (hi : (i, o) ∈ todo)
    (h1 : ∀ y, y ∈ r → y ∈ todo ∧ y.1 ≠ i) (h2 : ∀ y ∈ todo, y.1 ≠ i → y ∈ r) (h3 : (r.map (·.1)).Nodup) : Lists ops r (i :: done) (listed.setIfInBounds i true) := by
  have hio := h.isOp _ hi
  have hlt : i < listed.size := by rw [h.size]; exact (Array.getElem?_eq_some_iff.1 hio).1
  refine ⟨by simpa using h.size, fun x hx => h.isOp x (h1 x hx).1, fun x hx => ?_, fun j oj hj hun => ?_, fun j hj => ?_, h3⟩
  · rw [getD_set_ne true (Ne.symm (h1 x hx).2)]; exact h.open_ x (h1 x hx).1
  · by_cases hji : j = i
    · subst hji
      rw [Array.getD_eq_getD_getElem?] at hun
      simp [hlt] at hun
    · rw [getD_set_ne true (Ne.symm hji)] at hun
      exact h2 _ (h.all j oj hj hun) hji
  · simp only [memN] at hj
    split at hj
    · rename_i hk
      have : i = j := Nat.eq_of_beq_eq_true hk
      subst this
      rw [Array.getD_eq_getD_getElem?]; simp [hlt]
    · exact getD_set_true (h.done_ j hj)
theorem Lists.ready {todo : Todo} {done : List Nat} {listed : Array Bool} {i : Nat} {o : Oper} (h : Lists ops todo done listed) (hi : (i, o) ∈ todo) (hok : okE done o.after.toList = true) :
    i ∈ Region.ready .any ops listed :=
  mem_ready.2 ⟨h.open_ _ hi, o, h.isOp _ hi, fun e he hb => okE_spec h.done_ hok e (by simpa using he) hb⟩
/-- what is done is what is listed -/
theorem Lists.ready_ok {todo : Todo} {done : List Nat} {listed : Array Bool} {i : Nat} (h : Lists ops todo done listed) (hdl : ∀ k, listed.getD k false = true → memN done k = true) (hi : i ∈ Region.ready .any ops listed) :
    ∃ o, (i, o) ∈ todo ∧ okE done o.after.toList = true := by
  obtain ⟨hun, o, ho, hall⟩ := mem_ready.1 hi
  refine ⟨o, h.all i o ho hun, ?_⟩
  have go : ∀ (l : List Edge), (∀ e ∈ l, bindsB e = true → listed.getD e.on false = true) → okE done l = true := by
    intro l
    induction l with
    | nil => intro _; rfl
    | cons e r ih =>
      intro hl
      simp only [okE]
      split
      · rename_i hb
        have := hdl _ (hl e (by simp) hb)
        rw [this]
        exact ih fun e' he' => hl e' (by simp [he'])
      · exact ih fun e' he' => hl e' (by simp [he'])
  exact go _ fun e he hb => hall e (by simpa using he) hb
end
theorem apart2_spec {ops : Array Oper} {i : Nat} {x : Oper} : ∀ {l : Todo}, apart2 ops i x l = true → ∀ y ∈ l, y.1 ≠ i → (¬ ∃ e ∈ y.2.after.toList, bindsB e = true ∧ e.on = i) → (¬ ∃ e ∈ x.after.toList, bindsB e = true ∧ e.on = y.1) → x.apart ops y.2 = true
  | [], _, y, hy, _, _, _ => by cases hy
  | (j, z) :: r, h, y, hy, hne, h1, h2 => by
    simp only [apart2] at h
    split at h
    · rename_i hk
      have : i = j := Nat.eq_of_beq_eq_true hk
      subst this
      rcases List.mem_cons.1 hy with rfl | hy
      · exact absurd rfl hne
      · exact apart2_spec h y hy hne h1 h2
    · split at h
      · rename_i hw
        rcases List.mem_cons.1 hy with rfl | hy
        · exact absurd (waitsK_iff hw) h1
        · exact apart2_spec h y hy hne h1 h2
      · split at h
        · rename_i hw
          rcases List.mem_cons.1 hy with rfl | hy
          · exact absurd (waitsK_iff hw) h2
          · exact apart2_spec h y hy hne h1 h2
        · split at h
          · rename_i ha
            rcases List.mem_cons.1 hy with rfl | hy
            · exact ha
            · exact apart2_spec h y hy hne h1 h2
          · cases h
theorem allApart_spec {ops : Array Oper} {all : Todo} : ∀ {l : Todo}, allApart ops all l = true → ∀ x ∈ l, apart2 ops x.1 x.2 all = true
  | [], _, x, hx => by cases hx
  | (i, z) :: r, h, x, hx => by
    simp only [allApart] at h
    split at h
    · rename_i ha
      rcases List.mem_cons.1 hx with rfl | hx
      · exact ha
      · exact allApart_spec h x hx
    · cases h
theorem num_mem : ∀ {l : List Oper} {n : Nat} {x : Nat × Oper}, x ∈ num n l ↔ n ≤ x.1 ∧ l[x.1 - n]? = some x.2
  | [], n, x => by simp [num]
  | o :: r, n, x => by
    obtain ⟨i, y⟩ := x
    simp only [num, List.mem_cons, num_mem, Prod.mk.injEq]
    constructor
    · rintro (⟨rfl, rfl⟩ | ⟨h1, h2⟩)
      · simp
      · refine ⟨by omega, ?_⟩
        have : i - n = (i - (n + 1)) + 1 := by omega
        rw [this]; simpa using h2
    · rintro ⟨h1, h2⟩
      by_cases h : i = n
      · subst h; left; simp at h2; exact ⟨rfl, h2.symm⟩
      · right
        refine ⟨by omega, ?_⟩
        have : i - n = (i - (n + 1)) + 1 := by omega
        rw [this] at h2; simpa using h2
theorem num_nodup : ∀ {l : List Oper} {n : Nat}, ((num n l).map (·.1)).Nodup
  | [], n => by simp [num]
  | o :: r, n => by
    simp only [num, List.map_cons, List.nodup_cons]
    refine ⟨fun h => ?_, num_nodup⟩
    obtain ⟨x, hx, he⟩ := List.mem_map.1 h
    have := (num_mem.1 hx).1
    omega
theorem Lists.start (ops : Array Oper) : Lists ops (num 0 ops.toList) [] (Array.replicate ops.size false) := by
  refine ⟨by simp, fun x hx => ?_, fun x hx => ?_, fun i o ho _ => ?_, fun i hi => (by cases hi), num_nodup⟩
  · have := (num_mem.1 hx).2; simpa using this
  · have h := (num_mem.1 hx).2
    have hlt : x.1 < ops.size := by
      have : ops[x.1]? = some x.2 := by simpa using h
      exact (Array.getElem?_eq_some_iff.1 this).1
    rw [Array.getD_eq_getD_getElem?]; simp [hlt]
  · exact num_mem.2 ⟨Nat.zero_le _, by simpa using ho⟩

theorem Closed.start (ops : Array Oper) : Closed ops.toList (Array.replicate ops.size false) := by
  intro k o _ hk
  have : (Array.replicate ops.size false).getD k false = false := by
    simp only [Array.getD_eq_getD_getElem?, Array.getElem?_replicate]; split <;> rfl
  rw [this] at hk
  cases hk
end Go.Sh
