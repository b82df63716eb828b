import Derived.WalkKit
namespace Go.Sh

/-! ## environments -/
abbrev Env := List (Nat × Value)
def get : Env → Nat → Option Value
  | [], _ => none
  | (k, v) :: r, n => match Nat.beq k n with | true => some v | false => get r n
def put (nt : Nat) (e : Env) (d : Option Nat) (v : Value) : Env :=
  match d with
  | none => e
  | some d => match Nat.blt d nt with | true => (d, v) :: e | false => e
def ev (e : Env) : Operand → Option Value
  | .tmp t => get e t
  | .const v => some v
  | .global g => some (.pointer (some ⟨g, 0, none⟩))
  | .func f => some (.func (.func f) #[] #[])

structure Ok (nt : Nat) (e : Env) (a : Act) : Prop where
  defers : a.defers = []
  size : a.tmps.size = nt
  get : ∀ n v, get e n = some v → a.tmps[n]? = some v

theorem Ok.ev {nt : Nat} {e : Env} {a : Act} (h : Ok nt e a) {x : Operand} {v : Value} (hx : ev e x = some v) : a.eval x = v := by
  cases x with
  | tmp t => have := h.get t v hx; simp only [Act.eval, Array.getD_eq_getD_getElem?, this]; rfl
  | const c => simpa [Sh.ev, Act.eval] using hx
  | global g => simpa [Sh.ev, Act.eval] using hx
  | func f => simpa [Sh.ev, Act.eval] using hx

theorem Ok.put {nt : Nat} {e : Env} {a : Act} (h : Ok nt e a) (d : Option Nat) (v : Value) : Ok nt (put nt e d v) (a.put d v) := by
  cases d with
  | none => exact h
  | some d =>
    have hput : a.put (some d) v = { a with tmps := a.tmps.setIfInBounds d v } := rfl
    rw [hput]
    refine ⟨h.defers, by simpa using h.size, ?_⟩
    intro n u hn
    simp only [Sh.put] at hn
    cases hb : Nat.blt d nt with
    | true =>
      rw [hb] at hn
      have hd : d < nt := by simpa [Nat.blt_eq] using hb
      simp only [Sh.get] at hn
      cases hk : Nat.beq d n with
      | true =>
        rw [hk] at hn
        have : d = n := Nat.eq_of_beq_eq_true hk
        subst this
        simp only [Option.some.injEq] at hn
        subst hn
        simp [h.size, hd]
      | false =>
        rw [hk] at hn
        have hne : d ≠ n := Nat.ne_of_beq_eq_false hk
        simp only [Array.getElem?_setIfInBounds_ne hne]
        exact h.get n u hn
    | false =>
      rw [hb] at hn
      have hd : ¬ d < nt := by intro hlt; rw [← Nat.blt_eq] at hlt; rw [hlt] at hb; cases hb
      have : a.tmps.setIfInBounds d v = a.tmps := by
        apply Array.setIfInBounds_eq_of_size_le; rw [h.size]; omega
      simp only [this]
      exact h.get n u hn

/-- a new fact on a slot whose value is known -/
theorem Ok.know {nt : Nat} {e : Env} {a : Act} (h : Ok nt e a) {d : Nat} {v : Value} (hv : a.tmps[d]? = some v) : Ok nt ((d, v) :: e) a := by
  refine ⟨h.defers, h.size, fun n u hn => ?_⟩
  simp only [Sh.get] at hn
  cases hk : Nat.beq d n with
  | true => rw [hk] at hn; have : d = n := Nat.eq_of_beq_eq_true hk; subst this; simp only [Option.some.injEq] at hn; subst hn; exact hv
  | false => rw [hk] at hn; exact h.get n u hn

/-! ## shapes -/
inductive Sh where
  | i (k : IntKind) | b | s | p | sl | m | agg (l : List Sh) | tup (l : List Sh) | raw
  deriving Inhabited

/-- a value of a shape: its parts are named -/
def AsI (k : IntKind) (v : Value) (K : Int → Prop) : Prop := ∃ x, v = .int k x ∧ K x
def AsB (v : Value) (K : Bool → Prop) : Prop := ∃ x, v = .bool x ∧ K x
def AsS (v : Value) (K : ByteArray → Prop) : Prop := ∃ x, v = .string x ∧ K x
def AsP (v : Value) (K : Option Addr → Prop) : Prop := ∃ x, v = .pointer x ∧ K x
def AsSl (v : Value) (K : Option Addr → Nat → Nat → Prop) : Prop := ∃ a n c, v = .slice a n c ∧ K a n c
def AsM (v : Value) (K : Option Nat → Prop) : Prop := ∃ x, v = .map x ∧ K x
def UnC (s : List Value) (K : Value → List Value → Prop) : Prop := ∃ v s', s = v :: s' ∧ K v s'
def UnN (s : List Value) (K : Prop) : Prop := s = [] ∧ K
def AsAgg (v : Value) (K : List Value → Prop) : Prop := ∃ l : List Value, v = .agg l.toArray ∧ K l
def AsTup (v : Value) (K : List Value → Prop) : Prop := ∃ l : List Value, v = .tuple l.toArray ∧ K l
mutual
def As : Sh → Value → (Value → Prop) → Prop
  | .i k, v, K => AsI k v fun x => K (.int k x)
  | .b, v, K => AsB v fun x => K (.bool x)
  | .s, v, K => AsS v fun x => K (.string x)
  | .p, v, K => AsP v fun x => K (.pointer x)
  | .sl, v, K => AsSl v fun a n c => K (.slice a n c)
  | .m, v, K => AsM v fun x => K (.map x)
  | .agg l, v, K => AsAgg v fun s => AsAll l s fun s' => K (.agg s'.toArray)
  | .tup l, v, K => AsTup v fun s => AsAll l s fun s' => K (.tuple s'.toArray)
  | .raw, v, K => K v
def AsAll : List Sh → List Value → (List Value → Prop) → Prop
  | [], s, K => UnN s (K [])
  | h :: t, s, K => UnC s fun v s' => As h v fun v' => AsAll t s' fun r => K (v' :: r)
end
mutual
theorem As.elim : ∀ {h : Sh} {v : Value} {K : Value → Prop}, As h v K → K v
  | .i _, _, _, ⟨_, rfl, h⟩ => h
  | .b, _, _, ⟨_, rfl, h⟩ => h
  | .s, _, _, ⟨_, rfl, h⟩ => h
  | .p, _, _, ⟨_, rfl, h⟩ => h
  | .sl, _, _, ⟨_, _, _, rfl, h⟩ => h
  | .m, _, _, ⟨_, rfl, h⟩ => h
  | .agg _, _, _, ⟨_, rfl, h⟩ => AsAll.elim h
  | .tup _, _, _, ⟨_, rfl, h⟩ => AsAll.elim h
  | .raw, _, _, h => h
theorem AsAll.elim : ∀ {l : List Sh} {s : List Value} {K : List Value → Prop}, AsAll l s K → K s
  | [], _, _, ⟨rfl, h⟩ => h
  | _ :: t, _, K, ⟨v, s', rfl, h⟩ => AsAll.elim (l := t) (s := s') (K := fun r => K (v :: r)) (As.elim (K := fun v' => AsAll t s' fun r => K (v' :: r)) h)
end

/-- what is looked up of the program's types and functions: a table of one's own, that holds no more than the program has -/
structure Tab where
  und : Nat → Option TypeDesc
  siz : Nat → Option Nat
  zer : Nat → Option Value
  fn : Nat → Bool
/- the shape of a type, a cell each for a struct or an array of at most 64 cells -/
mutual
def shT (G : Tab) : Nat → TypeId → Sh
  | 0, _ => .raw
  | n + 1, t => match G.und t with
    | some (.int k) => .i k
    | some .bool => .b
    | some .string => .s
    | some (.pointer _) => .p
    | some (.slice _) => .sl
    | some (.map _ _) => .m
    | some (.struct fs) => .agg (fs.toList.flatMap fun f => shC G n f.type)
    | some (.array k e) => match Nat.ble (k * (shC G n e).length) 64 with
      | true => .agg (List.replicate k (shC G n e)).flatten
      | false => .raw
    | some (.tuple ts) => .tup (ts.toList.map fun t => shT G n t)
    | _ => .raw
def shC (G : Tab) : Nat → TypeId → List Sh
  | 0, _ => [.raw]
  | n + 1, t => match G.und t with
    | some (.struct fs) => fs.toList.flatMap fun f => shC G n f.type
    | some (.array k e) => match Nat.ble (k * (shC G n e).length) 64 with
      | true => (List.replicate k (shC G n e)).flatten
      | false => List.replicate k .raw
    | _ => [shT G n t]
end
end Go.Sh
