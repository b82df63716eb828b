import Derived.WalkKit
import Derived.OrdersHeld
import Derived.Lib.TrailingZeros
import Derived.IntWalk
set_option linter.unusedVariables false
set_option linter.unusedSimpArgs false
namespace Go.Sh

/-! ## environments -/
abbrev Env := List (Nat × Value)
def get : Env → Nat → Option Value
  | [], _ => none
  | (k, v) :: r, n => match Nat.beq k n with | true => some v | false => get r n
def put (nt : Nat) (e : Env) (d : Option Nat) (v : Value) : Env :=
  match d with
  | none => e
  | some d => match Nat.blt d nt with | true => (d, v) :: e | false => e
def ev (e : Env) : Operand → Option Value
  | .tmp t => get e t
  | .const v => some v
  | .global g => some (.pointer (some ⟨g, 0, none⟩))
  | .func f => some (.func (.func f) #[] #[])

structure Ok (nt : Nat) (e : Env) (a : Act) : Prop where
  defers : a.defers = []
  size : a.tmps.size = nt
  get : ∀ n v, get e n = some v → a.tmps[n]? = some v

theorem Ok.ev {nt : Nat} {e : Env} {a : Act} (h : Ok nt e a) {x : Operand} {v : Value} (hx : ev e x = some v) : a.eval x = v := by
  cases x with
  | tmp t => have := h.get t v hx; simp only [Act.eval, Array.getD_eq_getD_getElem?, this]; rfl
  | const c => simpa [Sh.ev, Act.eval] using hx
  | global g => simpa [Sh.ev, Act.eval] using hx
  | func f => simpa [Sh.ev, Act.eval] using hx

theorem Ok.put {nt : Nat} {e : Env} {a : Act} (h : Ok nt e a) (d : Option Nat) (v : Value) : Ok nt (put nt e d v) (a.put d v) := by
  cases d with
  | none => exact h
  | some d =>
    have hput : a.put (some d) v = { a with tmps := a.tmps.setIfInBounds d v } := rfl
    rw [hput]
    refine ⟨h.defers, by simpa using h.size, ?_⟩
    intro n u hn
    simp only [Sh.put] at hn
    cases hb : Nat.blt d nt with
    | true =>
      rw [hb] at hn
      have hd : d < nt := by simpa [Nat.blt_eq] using hb
      simp only [Sh.get] at hn
      cases hk : Nat.beq d n with
      | true =>
        rw [hk] at hn
        have : d = n := Nat.eq_of_beq_eq_true hk
        subst this
        simp only [Option.some.injEq] at hn
        subst hn
        simp [h.size, hd]
      | false =>
        rw [hk] at hn
        have hne : d ≠ n := Nat.ne_of_beq_eq_false hk
        simp only [Array.getElem?_setIfInBounds_ne hne]
        exact h.get n u hn
    | false =>
      rw [hb] at hn
      have hd : ¬ d < nt := by intro hlt; rw [← Nat.blt_eq] at hlt; rw [hlt] at hb; cases hb
      have : a.tmps.setIfInBounds d v = a.tmps := by
        apply Array.setIfInBounds_eq_of_size_le; rw [h.size]; omega
      simp only [this]
      exact h.get n u hn

/-- a new fact on a slot whose value is known -/
theorem Ok.know {nt : Nat} {e : Env} {a : Act} (h : Ok nt e a) {d : Nat} {v : Value} (hv : a.tmps[d]? = some v) : Ok nt ((d, v) :: e) a := by
  refine ⟨h.defers, h.size, fun n u hn => ?_⟩
  simp only [Sh.get] at hn
  cases hk : Nat.beq d n with
  | true => rw [hk] at hn; have : d = n := Nat.eq_of_beq_eq_true hk; subst this; simp only [Option.some.injEq] at hn; subst hn; exact hv
  | false => rw [hk] at hn; exact h.get n u hn

/-! ## shapes -/
inductive Sh where
  | i (k : IntKind) | b | s | p | sl | m | agg (l : List Sh) | tup (l : List Sh) | raw
  deriving Inhabited

/-- a value of a shape: its parts are named -/
def AsI (k : IntKind) (v : Value) (K : Int → Prop) : Prop := ∃ x, v = .int k x ∧ K x
def AsB (v : Value) (K : Bool → Prop) : Prop := ∃ x, v = .bool x ∧ K x
def AsS (v : Value) (K : ByteArray → Prop) : Prop := ∃ x, v = .string x ∧ K x
def AsP (v : Value) (K : Option Addr → Prop) : Prop := ∃ x, v = .pointer x ∧ K x
def AsSl (v : Value) (K : Option Addr → Nat → Nat → Prop) : Prop := ∃ a n c, v = .slice a n c ∧ K a n c
def AsM (v : Value) (K : Option Nat → Prop) : Prop := ∃ x, v = .map x ∧ K x
def UnC (s : List Value) (K : Value → List Value → Prop) : Prop := ∃ v s', s = v :: s' ∧ K v s'
def UnN (s : List Value) (K : Prop) : Prop := s = [] ∧ K
def AsAgg (v : Value) (K : List Value → Prop) : Prop := ∃ l : List Value, v = .agg l.toArray ∧ K l
def AsTup (v : Value) (K : List Value → Prop) : Prop := ∃ l : List Value, v = .tuple l.toArray ∧ K l
mutual
def As : Sh → Value → (Value → Prop) → Prop
  | .i k, v, K => AsI k v fun x => K (.int k x)
  | .b, v, K => AsB v fun x => K (.bool x)
  | .s, v, K => AsS v fun x => K (.string x)
  | .p, v, K => AsP v fun x => K (.pointer x)
  | .sl, v, K => AsSl v fun a n c => K (.slice a n c)
  | .m, v, K => AsM v fun x => K (.map x)
  | .agg l, v, K => AsAgg v fun s => AsAll l s fun s' => K (.agg s'.toArray)
  | .tup l, v, K => AsTup v fun s => AsAll l s fun s' => K (.tuple s'.toArray)
  | .raw, v, K => K v
def AsAll : List Sh → List Value → (List Value → Prop) → Prop
  | [], s, K => UnN s (K [])
  | h :: t, s, K => UnC s fun v s' => As h v fun v' => AsAll t s' fun r => K (v' :: r)
end
mutual
theorem As.elim : ∀ {h : Sh} {v : Value} {K : Value → Prop}, As h v K → K v
  | .i _, _, _, ⟨_, rfl, h⟩ => h
  | .b, _, _, ⟨_, rfl, h⟩ => h
  | .s, _, _, ⟨_, rfl, h⟩ => h
  | .p, _, _, ⟨_, rfl, h⟩ => h
  | .sl, _, _, ⟨_, _, _, rfl, h⟩ => h
  | .m, _, _, ⟨_, rfl, h⟩ => h
  | .agg _, _, _, ⟨_, rfl, h⟩ => AsAll.elim h
  | .tup _, _, _, ⟨_, rfl, h⟩ => AsAll.elim h
  | .raw, _, _, h => h
theorem AsAll.elim : ∀ {l : List Sh} {s : List Value} {K : List Value → Prop}, AsAll l s K → K s
  | [], _, _, ⟨rfl, h⟩ => h
  | _ :: t, _, K, ⟨v, s', rfl, h⟩ => AsAll.elim (l := t) (s := s') (K := fun r => K (v :: r)) (As.elim (K := fun v' => AsAll t s' fun r => K (v' :: r)) h)
end

/-- what is looked up of the program's types and functions: a table of one's own, that holds no more than the program has -/
structure Tab where
  und : Nat → Option TypeDesc
  siz : Nat → Option Nat
  zer : Nat → Option Value
  fn : Nat → Bool
/- the shape of a type, a cell each for a struct or an array of at most 64 cells -/
mutual
def shT (G : Tab) : Nat → TypeId → Sh
  | 0, _ => .raw
  | n + 1, t => match G.und t with
    | some (.int k) => .i k
    | some .bool => .b
    | some .string => .s
    | some (.pointer _) => .p
    | some (.slice _) => .sl
    | some (.map _ _) => .m
    | some (.struct fs) => .agg (fs.toList.flatMap fun f => shC G n f.type)
    | some (.array k e) => match Nat.ble (k * (shC G n e).length) 64 with
      | true => .agg (List.replicate k (shC G n e)).flatten
      | false => .raw
    | some (.tuple ts) => .tup (ts.toList.map fun t => shT G n t)
    | _ => .raw
def shC (G : Tab) : Nat → TypeId → List Sh
  | 0, _ => [.raw]
  | n + 1, t => match G.und t with
    | some (.struct fs) => fs.toList.flatMap fun f => shC G n f.type
    | some (.array k e) => match Nat.ble (k * (shC G n e).length) 64 with
      | true => (List.replicate k (shC G n e)).flatten
      | false => List.replicate k .raw
    | _ => [shT G n t]
end
end Go.Sh

namespace Go.Sh

def tt : World → Prop := fun _ => True
/-- a pure outcome: none known, a value, a value under a condition -/
inductive PR where
  | no | t (v : Value) | c (p : Prop) (v : Value) | nz (b : Int) (v : Value) | nn (b : Int) (v : Value)

def shlI (k : IntKind) (a b : Int) : Int := k.wrap (a * 2 ^ (min b.toNat k.bits))
def shrI (k : IntKind) (a b : Int) : Int := a.fdiv (2 ^ (min b.toNat k.bits))
def andI (k : IntKind) (a b : Int) : Int := k.wrap (BitVec.ofInt k.bits a &&& BitVec.ofInt k.bits b).toNat
def orI (k : IntKind) (a b : Int) : Int := k.wrap (BitVec.ofInt k.bits a ||| BitVec.ofInt k.bits b).toNat
def xorI (k : IntKind) (a b : Int) : Int := k.wrap (BitVec.ofInt k.bits a ^^^ BitVec.ofInt k.bits b).toNat
def andNotI (k : IntKind) (a b : Int) : Int := k.wrap (BitVec.ofInt k.bits a &&& ~~~ BitVec.ofInt k.bits b).toNat
def notI (k : IntKind) (a : Int) : Int := xorI k (if k.signed then -1 else k.max) a

def sameK (k k' : IntKind) : Bool := match decEq k k' with | isTrue _ => true | isFalse _ => false

def binI (op : BinOp) (k : IntKind) (a b : Int) : PR :=
  match op with
  | .add => .t (.int k (k.wrap (a + b)))
  | .sub => .t (.int k (k.wrap (a - b)))
  | .mul => .t (.int k (k.wrap (a * b)))
  | .quo => .nz b (.int k (k.wrap (a.tdiv b)))
  | .rem => .nz b (.int k (a.tmod b))
  | .and => .t (.int k (andI k a b))
  | .or => .t (.int k (orI k a b))
  | .xor => .t (.int k (xorI k a b))
  | .andNot => .t (.int k (andNotI k a b))
  | .eql => .t (.bool (a == b))
  | .neq => .t (.bool (a != b))
  | .lss => .t (.bool (decide (a < b)))
  | .leq => .t (.bool (decide (a ≤ b)))
  | .gtr => .t (.bool (decide (a > b)))
  | .geq => .t (.bool (decide (a ≥ b)))
  | _ => .no
def binS (op : BinOp) (a b : ByteArray) : PR :=
  match op with
  | .add => .c (((a.size + b.size : Nat) : Int) ≤ IntKind.i64.max) (.string (a ++ b))
  | .eql => .t (.bool (a.toList == b.toList))
  | .neq => .t (.bool (!(a.toList == b.toList)))
  | .lss => .t (.bool (Op.bytesLess a.toList b.toList))
  | .leq => .t (.bool (Op.bytesLess a.toList b.toList || a.toList == b.toList))
  | .gtr => .t (.bool (!(Op.bytesLess a.toList b.toList || a.toList == b.toList)))
  | .geq => .t (.bool (!(Op.bytesLess a.toList b.toList)))
  | _ => .no
def isI (v : Value) : Bool := match v with | .iface _ _ => true | .nilIface => true | _ => false
def isNilI (v : Value) : Bool := match v with | .nilIface => true | _ => false
def isF (v : Value) : Bool := match v with | .func _ _ _ => true | .nilFunc => true | _ => false
def isNilF (v : Value) : Bool := match v with | .nilFunc => true | _ => false
inductive NR where
  | no | t (b : Bool) | c (p : Bool) (b : Bool)
/-- a value held against the literal nil on the right; two bools -/
def eqV (d : Option TypeDesc) (yo : Operand) (x y : Value) : NR :=
  match d with
  | some .bool => match x, y with | .bool a, .bool b => .t (a == b) | _, _ => .no
  | some (.pointer _) => match yo with | .const (.pointer none) => (match x with | .pointer p => .t p.isNone | _ => .no) | _ => .no
  | some (.slice _) => match yo with | .const (.slice none _ _) => (match x with | .slice p _ _ => .t p.isNone | _ => .no) | _ => .no
  | some (.map _ _) => match yo with | .const (.map none) => (match x with | .map p => .t p.isNone | _ => .no) | _ => .no
  | some (.interface _) => match yo with | .const .nilIface => .c (isI x) (isNilI x) | _ => .no
  | some (.func _ _ _) => match yo with | .const .nilFunc => .c (isF x) (isNilF x) | _ => .no
  | _ => .no
def NR.pr (r : NR) (f : Bool → Bool) : PR := match r with | .no => .no | .t b => .t (.bool (f b)) | .c p b => .c (p = true) (.bool (f b))
/-- are the operands of this type integers or strings? -/
def numT (d : Option TypeDesc) : Bool := match d with | some (.int _) => true | some .string => true | _ => false
def bin (G : Tab) (op : BinOp) (t : TypeId) (yo : Operand) (x y : Value) : PR :=
  match numT (G.und t) with
  | true => match x with
    | .int k a => match y with
      | .int k' b => match op with
        | .shl => .nn b (.int k (shlI k a b))
        | .shr => .nn b (.int k (shrI k a b))
        | _ => match sameK k k' with
          | true => binI op k a b
          | false => .no
      | _ => .no
    | .string a => match y with
      | .string b => binS op a b
      | _ => .no
    | _ => .no
  | false => match op with
    | .eql => (eqV (G.und t) yo x y).pr (fun b => b)
    | .neq => (eqV (G.und t) yo x y).pr (fun b => !b)
    | _ => .no
def un (op : UnOp) (x : Value) : PR :=
  match op, x with
  | .not, .bool b => .t (.bool (!b))
  | .neg, .int k n => .t (.int k (k.wrap (0 - n)))
  | .xor, .int k n => .t (.int k (notI k n))
  | _, _ => .no
def conv (G : Tab) (s d : TypeId) (x : Value) : PR :=
  match G.und s, G.und d, x with
  | some _, some (.int k), .int _ n => .t (.int k (k.wrap n))
  | some _, some .string, .string s => .t (.string s)
  | _, _, _ => .no

def NZ (b : Int) (K : Prop) : Prop := match decide (b = 0) with | true => False | false => K
def NN (b : Int) (K : Prop) : Prop := match decide (0 ≤ b) with | true => K | false => False
theorem NZ.out {b : Int} {K : Prop} (h : NZ b K) : b ≠ 0 ∧ K := by
  unfold NZ at h; split at h
  · exact h.elim
  · rename_i hd; exact ⟨by simpa using hd, h⟩
theorem NZ.mk {b : Int} {K : Prop} (h : b ≠ 0) (k : K) : NZ b K := by
  unfold NZ; rw [decide_eq_false h]; exact k
theorem NN.out {b : Int} {K : Prop} (h : NN b K) : 0 ≤ b ∧ K := by
  unfold NN at h; split at h
  · rename_i hd; exact ⟨by simpa using hd, h⟩
  · exact h.elim
theorem NN.mk {b : Int} {K : Prop} (h : 0 ≤ b) (k : K) : NN b K := by
  unfold NN; rw [decide_eq_true h]; exact k
def PR.Holds (r : PR) (v : Value) : Prop := match r with | .no => False | .t u => v = u | .c p u => p ∧ v = u | .nz b u => b ≠ 0 ∧ v = u | .nn b u => 0 ≤ b ∧ v = u
def PR.use (r : PR) (D : Prop) (K : Value → Prop) : Prop := match r with | .no => D | .t v => K v | .c p v => p ∧ K v | .nz b v => NZ b (K v) | .nn b v => NN b (K v)

theorem sameK_eq {k k' : IntKind} (h : sameK k k' = true) : k = k' := by
  unfold sameK at h; split at h
  · assumption
  · cases h

variable {P : Program} {G : Tab}
def sizeP (P : Program) (t : TypeId) : Option Nat := match P.info? t with | some i => some i.size | none => none
def zeroP (P : Program) (t : TypeId) : Option Value := match P.info? t with | some i => i.zero | none => none
/-- the function that a call enters, if it is one with a body -/
def goesIn (P : Program) (g : FuncId) : Bool :=
  match P.funcs[g]? with
  | some fn => match fn.body with
    | some _ => match fn.name == "runtime.NumGoroutine" with | true => false | false => true
    | none => false
  | none => false
structure Tab.Ok (G : Tab) (P : Program) : Prop where
  und : ∀ t d, G.und t = some d → P.underlying t = some d
  siz : ∀ t n, G.siz t = some n → sizeP P t = some n
  zer : ∀ t v, G.zer t = some v → zeroP P t = some v
  fn : ∀ g, G.fn g = true → goesIn P g = true

def NR.Holds (r : NR) (b : Bool) : Prop := match r with | .no => False | .t u => b = u | .c p u => p = true ∧ b = u
theorem NR.pr_holds {r : NR} {f : Bool → Bool} {v : Value} (h : (r.pr f).Holds v) : ∃ b, r.Holds b ∧ v = .bool (f b) := by
  cases r with
  | no => exact h.elim
  | t b => exact ⟨b, rfl, h⟩
  | c p b => exact ⟨b, ⟨h.1, rfl⟩, h.2⟩
theorem under_run0 {t : TypeId} {d : TypeDesc} (h : P.underlying t = some d) (w : World) : (underlying t).run P w = .ok d w := by simp [underlying, h]
theorem eqV_ok (hG : G.Ok P) {d : Nat} {t : TypeId} {xo yo : Operand} {x y : Value} {b : Bool} (h : (eqV (G.und t) yo x y).Holds b) (hf : ∀ u, yo = .const u → y = u) (w : World) :
    (Op.equalIn (d + 1) t x y).run P w = .ok b w ∧ eqGuard .eql t xo yo x y = pure () ∧ eqGuard .neq t xo yo x y = pure () ∧
      binOp .eql t x y = (do pure (.bool (← Op.equal t x y))) ∧ binOp .neq t x y = (do pure (.bool (!(← Op.equal t x y)))) := by
  unfold eqV at h
  split at h
  · rename_i hd
    have hd := hG.und _ _ hd
    split at h
    · simp only [NR.Holds] at h; subst h; exact ⟨by simp [Op.equalIn, under_run0 hd], rfl, rfl, rfl, rfl⟩
    · exact h.elim
  · rename_i hd
    have hd := hG.und _ _ hd
    split at h
    · have := hf _ rfl; subst this
      split at h
      · rename_i p; simp only [NR.Holds] at h; subst h; cases p <;> exact ⟨by simp [Op.equalIn, under_run0 hd], rfl, rfl, rfl, rfl⟩
      · exact h.elim
    · exact h.elim
  · rename_i hd
    have hd := hG.und _ _ hd
    split at h
    · have := hf _ rfl; subst this
      split at h
      · rename_i p _ _; simp only [NR.Holds] at h; subst h; cases p <;> exact ⟨by simp [Op.equalIn, under_run0 hd], rfl, rfl, rfl, rfl⟩
      · exact h.elim
    · exact h.elim
  · rename_i hd
    have hd := hG.und _ _ hd
    split at h
    · have := hf _ rfl; subst this
      split at h
      · rename_i p; simp only [NR.Holds] at h; subst h; cases p <;> exact ⟨by simp [Op.equalIn, under_run0 hd], rfl, rfl, rfl, rfl⟩
      · exact h.elim
    · exact h.elim
  · rename_i hd
    have hd := hG.und _ _ hd
    split at h
    · have := hf _ rfl; subst this
      obtain ⟨h1, h2⟩ := h
      subst h2
      unfold isI at h1
      split at h1 <;> first | (cases h1; done) | exact ⟨by simp [Op.equalIn, under_run0 hd, isNilI], rfl, rfl, rfl, rfl⟩ | exact ⟨by simp [Op.equalIn, under_run0 hd, isNilI], by simp [eqGuard], by simp [eqGuard], rfl, rfl⟩
    · exact h.elim
  · rename_i hd
    have hd := hG.und _ _ hd
    split at h
    · have := hf _ rfl; subst this
      obtain ⟨h1, h2⟩ := h
      subst h2
      unfold isF at h1
      split at h1 <;> first | (cases h1; done) | exact ⟨by simp [Op.equalIn, under_run0 hd, isNilF], rfl, rfl, rfl, rfl⟩
    · exact h.elim
  · exact h.elim
theorem bin_run (hG : G.Ok P) {op : BinOp} {t : TypeId} {xo yo : Operand} {x y v : Value} (h : (bin G op t yo x y).Holds v) (hf : ∀ u, yo = .const u → y = u) (w : World) :
    (do eqGuard op t xo yo x y; binOp op t x y : Sem Value).run P w = .ok v w := by
  unfold bin at h
  split at h
  · split at h
    · rename_i k a
      split at h
      · rename_i k' b
        have hg : eqGuard op t xo yo (.int k a) (.int k' b) = pure () := by
          cases op <;> rfl
        rw [hg]
        cases op <;> simp only at h
        case shl | shr =>
          obtain ⟨h0, rfl⟩ := h
          simp [go_sem, binOp, Op.shift, shlI, shrI]
          omega
        all_goals
          cases hk : sameK k k' with
          | false => rw [hk] at h; exact h.elim
          | true =>
            rw [hk] at h
            have := sameK_eq hk; subst this
            simp only [binI, PR.Holds] at h
            first
              | (obtain ⟨h0, rfl⟩ := h; simp [go_sem, binOp, Op.intDiv, h0]; done)
              | (subst h; simp [go_sem, binOp, Op.intArith, Op.intBits, Op.intCmp, andI, orI, xorI, andNotI]; done)
              | exact h.elim
      · exact h.elim
    · rename_i a
      split at h
      · rename_i b
        have hg : eqGuard op t xo yo (.string a) (.string b) = pure () := by
          cases op <;> rfl
        rw [hg]
        cases op <;> simp only [binS, PR.Holds] at h
        case add =>
          obtain ⟨h0, rfl⟩ := h
          have h1 : ¬ ((a.size + b.size : Nat) : Int) > IntKind.i64.max := by omega
          show (Op.stringOp .add a b).run P w = _
          unfold Op.stringOp
          simp only [if_neg h1]; rfl
        all_goals first | exact h.elim | (subst h; simp [go_sem, binOp, Op.stringOp]; done)
      · exact h.elim
    · exact h.elim
  · cases op
    case eql =>
      obtain ⟨b, hb, rfl⟩ := NR.pr_holds h
      obtain ⟨hr, h1, _, h2, _⟩ := eqV_ok hG (d := 9999) (xo := xo) hb hf w
      have hr : (Op.equal t x y).run P w = .ok b w := hr
      rw [h1, h2]; simp [go_sem, hr]
    case neq =>
      obtain ⟨b, hb, rfl⟩ := NR.pr_holds h
      obtain ⟨hr, _, h1, _, h2⟩ := eqV_ok hG (d := 9999) (xo := xo) hb hf w
      have hr : (Op.equal t x y).run P w = .ok b w := hr
      rw [h1, h2]; simp [go_sem, hr]
    all_goals exact h.elim
theorem un_run {op : UnOp} {x v : Value} (h : (un op x).Holds v) (w : World) : (Op.unary op x).run P w = .ok v w := by
  unfold un at h
  split at h
  · subst h; simp [Op.unary, go_sem]
  · subst h; simp [Op.unary, Op.intArith, go_sem]
  · subst h; simp [Op.unary, Op.intBits, notI, xorI, go_sem]
  · exact h.elim
theorem conv_run (hG : G.Ok P) {s d : TypeId} {x v : Value} (h : (conv G s d x).Holds v) (w : World) : (convert s d x).run P w = .ok v w := by
  unfold conv at h
  split at h
  · rename_i a b hs hd
    have hs := hG.und _ _ hs
    have hd := hG.und _ _ hd
    subst h; simp [convert, underlying, hs, hd, Conv.intToInt, go_sem]
  · rename_i a b hs hd
    have hs := hG.und _ _ hs
    have hd := hG.und _ _ hd
    subst h; simp [convert, underlying, hs, hd, go_sem]
  · exact h.elim
end Go.Sh

namespace Go.Sh
variable {P : Program} {G : Tab}

/-! ## operations that read or only compute -/
def evL (e : Env) : List Operand → Option (List Value)
  | [] => some []
  | x :: r => match ev e x, evL e r with
    | some v, some l => some (v :: l)
    | _, _ => none
def evP (e : Env) : List (Nat × Operand) → Option (List (Nat × Value))
  | [] => some []
  | (i, x) :: r => match ev e x, evP e r with
    | some v, some l => some ((i, v) :: l)
    | _, _ => none
def binSem (op : BinOp) (t : TypeId) (x y : Operand) (a b : Value) : Sem Value := do eqGuard op t x y a b; binOp op t a b
/-- the run of an operation over operands that are known -/
def insV (e : Env) (o : Oper) : Option (Sem Value) :=
  match o.op with
  | .binOp op t x y _ => match ev e x, ev e y with
    | some a, some b => some (binSem op t x y a b)
    | _, _ => none
  | .unOp op _ x => match ev e x with
    | some a => some (Op.unary op a)
    | none => none
  | .convert s d x => match ev e x with
    | some a => some (convert s d a)
    | none => none
  | .sliceToArrayPointer t x => match ev e x with
    | some a => some (Instr.arrayAt t a)
    | none => none
  | .lookup t x i ok => match ev e x, ev e i with
    | some a, some b => some (Instr.lookup t a b ok)
    | _, _ => none
  | .index t x i => match ev e x, ev e i with
    | some a, some b => some (Instr.index t a b)
    | _, _ => none
  | .fieldAddr t x f => match ev e x with
    | some a => some (Instr.fieldAt t a f)
    | none => none
  | .typeAssert x t u ok => match ev e x with
    | some a => some (Instr.typeAssert a t u ok)
    | none => none
  | .makeSlice t l c => match ev e l, ev e c with
    | some a, some b => some (Instr.makeSlice t a b)
    | _, _ => none
  | .makeMap t none => some (Instr.makeMap t none)
  | .makeMap t (some x) => match ev e x with
    | some a => some (Instr.makeMap t (some a))
    | none => none
  | .mapEntry t m k => match ev e m, ev e k with
    | some a, some b => some (Instr.mapEntry t a b)
    | _, _ => none
  | .range t x => match ev e x with
    | some a => some (Instr.range t a)
    | none => none
  | .next x b => match ev e x with
    | some a => some (Instr.next a b o.type)
    | none => none
  | .entry x => match ev e x with
    | some a => some (Instr.entry a)
    | none => none
  | .buildSlice t n parts => match evP e parts.toList with
    | some ps => some (Instr.buildSlice t n ps.toArray)
    | none => none
  | .call c => match c.callee, evL e c.args.toList with
    | .builtin .append, some l => some (Builtin.append_ c.argTypes o.type l.toArray)
    | .builtin .copy, some l => some (Builtin.copy_ c.argTypes o.type l.toArray)
    | .builtin .delete, some l => some (Builtin.delete_ c.argTypes o.type l.toArray)
    | .builtin .clear, some l => some (Builtin.clear_ c.argTypes o.type l.toArray)
    | .builtin .len, some l => some (Builtin.len_ c.argTypes o.type l.toArray)
    | .builtin .cap, some l => some (Builtin.cap_ c.argTypes o.type l.toArray)
    | .builtin .min, some l => some (Builtin.min_ c.argTypes o.type l.toArray)
    | .builtin .max, some l => some (Builtin.max_ c.argTypes o.type l.toArray)
    | _, _ => none
  | _ => none

def held (s : Option (World → Prop)) (w : World) : Prop := match s with | none => True | some s => s w
def RunR (P : Program) (s : Sem Value) (w : World) (K : Value → Prop) : Prop := ∃ v, s.run P w = .ok v w ∧ K v
/-- the same, where the run asks nothing of memory -/
def RunP (P : Program) (s : Sem Value) (K : Value → Prop) : Prop := ∃ v, (∀ w, s.run P w = .ok v w) ∧ K v
def RawP (P : Program) (G : Tab) (e : Env) (o : Oper) (K : Value → Option (World → Prop) → Prop) : Prop :=
  match insV e o with
  | some s => RunP P s fun v => As (shT G 12 o.type) v fun v => K v none
  | none => False
/-- an operation whose run we are told: the fallback -/
def RawR (P : Program) (G : Tab) (e : Env) (o : Oper) (w : World) (K : Value → Option (World → Prop) → Prop) : Prop :=
  match insV e o with
  | some s => RunR P s w fun v => As (shT G 12 o.type) v fun v => K v (some fun w' => s.run P w' = .ok v w')
  | none => False

def Ld (w : World) (a : Addr) (K : Value → Prop) : Prop := ∃ v, w.cell? a = some v ∧ K v
def NilP (p : Option Addr) (K : Addr → Prop) : Prop := match p with | some a => K a | none => False
theorem NilP.out {p : Option Addr} {K : Addr → Prop} (h : NilP p K) : ∃ a, p = some a ∧ K a := by
  cases p with
  | none => exact False.elim h
  | some a => exact ⟨a, rfl, h⟩

def at0 (a : Addr) (n : Nat) : Addr := match n with | 0 => a | n + 1 => { a with off := a.off + (n + 1), spot := none }
/-- n cells from place i of a on, of these shapes -/
def ldN (w : World) (a : Addr) : List Sh → Nat → (List Value → (World → Prop) → Prop) → Prop
  | [], _, K => K [] tt
  | h :: t, i, K => Ld w (at0 a i) fun v => As h v fun v => ldN w a t (i + 1) fun vs s => K (v :: vs) fun w' => w'.cell? (at0 a i) = some v ∧ s w'

def isAggD : TypeDesc → Bool
  | .struct _ => true
  | .array _ _ => true
  | _ => false

def ld (G : Tab) (t : TypeId) (a : Addr) (w : World) (K : Value → (World → Prop) → Prop) : Prop :=
  match G.und t with
  | none => False
  | some d => match isAggD d with
    | false => Ld w a fun v => As (shT G 12 t) v fun v => K v fun w' => w'.cell? a = some v
    | true => match G.siz t with
      | none => False
      | some n => let l := shC G 12 t; match Nat.beq l.length n with
        | true => ldN w a l 0 fun vs s => K (.agg vs.toArray) s
        | false => False

/-- a part of a struct or an array that is at hand -/
def prt (G : Tab) (t : TypeId) (cs : Array Value) (off : Nat) (K : Value → Prop) : Prop :=
  match G.und t with
  | none => False
  | some d => match isAggD d with
    | true => match G.siz t with
      | none => False
      | some n => K (.agg ((cs.toList.drop off).take n).toArray)
    | false => match cs.toList[off]? with
      | some v => K v
      | none => False

/-- one bound of a reslicing -/
def bnd (x : Option Value) (dflt ub : Nat) (K : Nat → Prop) : Prop :=
  match x with
  | none => K dflt
  | some (.int _ i) => 0 ≤ i ∧ i ≤ (ub : Int) ∧ K i.toNat
  | some _ => False
def evO (e : Env) : Option Operand → Option (Option Value)
  | none => some none
  | some x => match ev e x with | some v => some (some v) | none => none

def slAddr (a : Option Addr) (l m size : Nat) : Option Addr := if m = l then a else a.map fun a => at0 a (l * size)

def slc (G : Tab) (t : TypeId) (x : Value) (lo hi : Option Value) (D : Prop) (K : Value → Prop) : Prop :=
  match G.und t, x with
  | some (.string), .string s => bnd hi s.size s.size fun h => bnd lo 0 h fun l => K (.string (s.extract l h))
  | some (.slice e), .slice a n c => match G.siz e with
    | none => False
    | some z => bnd hi n c fun h => bnd lo 0 h fun l => K (.slice (slAddr a l c z) (h - l) (c - l))
  | some (.array n e), .pointer (some a) => match G.siz e with
    | none => False
    | some z => bnd hi n n fun h => bnd lo 0 h fun l => K (.slice (slAddr (some a) l n z) (h - l) (n - l))
  | _, _ => D

def idxA (G : Tab) (t : TypeId) (x i : Value) (K : Value → Prop) : Prop :=
  match G.und t, x, i with
  | some (.slice e), .slice b n _, .int _ i => match G.siz e with
    | none => False
    | some z => NilP b fun a => 0 ≤ i ∧ i < (n : Int) ∧ K (.pointer (some (at0 a (i.toNat * z))))
  | some (.array n e), .pointer b, .int _ i => match G.siz e with
    | none => False
    | some z => NilP b fun a => 0 ≤ i ∧ i < (n : Int) ∧ K (.pointer (some (at0 a (i.toNat * z))))
  | _, _, _ => False

def fldA (G : Tab) (t : TypeId) (x : Value) (f : Nat) (D : Prop) (K : Value → Prop) : Prop :=
  match G.und t, x with
  | some (.struct fs), .pointer b => match fs.toList[f]? with
    | none => False
    | some g => match G.siz g.type with
      | some (_ + 1) => NilP b fun a => K (.pointer (some (at0 a g.offset)))
      | _ => D
  | _, _ => False

/-- what 'fill' of a build leaves, by places that are known -/
def places (G : Tab) : List Field → Option (List (Nat × Nat))
  | [] => some []
  | f :: r => match G.siz f.type, places G r with
    | some z, some l => some ((f.offset, z) :: l)
    | _, _ => none

def nilChk (v : Value) (K : Value → Prop) : Prop :=
  match v with
  | .pointer p => NilP p fun a => K (.pointer (some a))
  | .iface t v => K (.iface t v)
  | .func (.func f) a b => K (.func (.func f) a b)
  | .func (.via t p f b) x y => K (.func (.via t p f b) x y)
  | .func (.yield l) x y => K (.func (.yield l) x y)
  | _ => False

def lenV (d : Option TypeDesc) (x : Value) : Option Int :=
  match d, x with
  | some .string, .string s => some s.size
  | some (.array n _), _ => some n
  | some (.slice _), .slice _ n _ => some n
  | some (.map _ _), .map none => some 0
  | _, _ => none
def capV (d : Option TypeDesc) (x : Value) : Option Int :=
  match d, x with
  | some (.array n _), _ => some n
  | some (.slice _), .slice _ _ n => some n
  | _, _ => none

def bld (G : Tab) (t : TypeId) (ps : List (Nat × Value)) (K : Value → Prop) : Prop :=
  match G.zer t, G.und t with
    | some z, some (.struct fs) => match places G fs.toList with
      | some l => match Instr.fill (fun i => l[i]?) z.cells ps with
        | some cs => K (.agg cs)
        | none => False
      | none => False
    | some z, some (.array _ el) => match G.siz el with
      | some n => match Instr.fill (fun i => some (i * n, n)) z.cells ps with
        | some cs => K (.agg cs)
        | none => False
      | none => False
    | _, _ => False

def rd (P : Program) (G : Tab) (e : Env) (o : Oper) (w : World) (K : Value → Option (World → Prop) → Prop) : Prop :=
  match o.op with
  | .move x => match ev e x with | some v => K v none | none => False
  | .assign x => match ev e x with | some v => K v none | none => False
  | .pick c a b => match ev e c, ev e a, ev e b with
    | some (.bool t), some x, some y => match t with
      | true => K x none
      | false => K y none
    | _, _, _ => False
  | .load t a => match ev e a with
    | some (.pointer b) => NilP b fun a => ld G t a w fun v s => K v (some s)
    | _ => False
  | .nilCheck x => match ev e x with
    | some v => nilChk v fun v => K v none
    | none => False
  | .binOp op t x y _ => match ev e x, ev e y with
    | some a, some b => (bin G op t y a b).use (RawP P G e o K) fun v => K v none
    | _, _ => False
  | .unOp op _ x => match ev e x with
    | some a => (un op a).use (RawP P G e o K) fun v => K v none
    | _ => False
  | .convert s d x => match ev e x with
    | some a => (conv G s d a).use (RawP P G e o K) fun v => K v none
    | _ => False
  | .fieldAddr t x f => match ev e x with
    | some v => fldA G t v f (RawR P G e o w K) fun v => K v none
    | none => False
  | .field t x f => match G.und t, ev e x with
    | some (.struct fs), some (.agg cs) => match fs.toList[f]? with
      | some g => prt G g.type cs g.offset fun v => K v none
      | none => False
    | _, _ => False
  | .indexAddr t x i => match ev e x, ev e i with
    | some v, some i => idxA G t v i fun v => K v none
    | _, _ => False
  | .index t x i => match G.und t, ev e x, ev e i with
    | some (.string), some (.string s), some (.int _ i) => 0 ≤ i ∧ ∃ b, s[i.toNat]? = some b ∧ K (.int .u8 b.toNat) none
    | some (.array n el), some (.agg cs), some (.int _ i) => match G.und el, G.siz el with
      | some d, some z => match isAggD d with
        | false => 0 ≤ i ∧ i < (n : Int) ∧ ∃ v, cs[i.toNat * z]? = some v ∧ As (shT G 12 el) v fun v => K v none
        | true => RawP P G e o K
      | _, _ => RawP P G e o K
    | _, _, _ => RawP P G e o K
  | .slice t x lo hi none => match ev e x, evO e lo, evO e hi with
    | some v, some l, some h => slc G t v l h (RawR P G e o w K) fun v => K v none
    | _, _, _ => False
  | .extract x i => match ev e x with
    | some (.tuple vs) => match vs.toList[i]? with
      | some v => K v none
      | none => False
    | _ => False
  | .makeInterface t x => match G.und t, ev e x with
    | some (.interface _), _ => False
    | some _, some v => K (.iface t v) none
    | _, _ => False
  | .makeFunc f a b => match evL e a.toList, evL e b.toList with
    | some xs, some ys => K (.func f xs.toArray ys.toArray) none
    | _, _ => False
  | .build t parts => match evP e parts.toList with
    | some ps => bld G t ps fun v => K v none
    | none => False
  | .call c => match c.callee, c.args.toList, c.argTypes.toList with
    | .builtin .len, [x], [t] => match ev e x with
      | some v => match lenV (G.und t) v with
        | some n => K (.int .i64 n) none
        | none => RawR P G e o w K
      | none => False
    | .builtin .cap, [x], [t] => match ev e x with
      | some v => match capV (G.und t) v with
        | some n => K (.int .i64 n) none
        | none => RawR P G e o w K
      | none => False
    | .builtin .min, [x, y], _ => match ev e x, ev e y with
      | some (.int k a), some (.int _ b) => K (.int k (if b < a then b else a)) none
      | _, _ => RawR P G e o w K
    | .builtin .max, [x, y], _ => match ev e x, ev e y with
      | some (.int k a), some (.int _ b) => K (.int k (if b > a then b else a)) none
      | _, _ => RawR P G e o w K
    | _, _, _ => RawR P G e o w K
  | _ => RawR P G e o w K

/-- which operations 'rd' is for -/
def isR (G : Tab) (o : Op) : Bool :=
  match o with
  | .move _ | .assign _ | .pick .. | .load .. | .nilCheck _ | .binOp .. | .unOp .. | .fieldAddr .. | .field .. | .indexAddr .. | .index .. | .slice ..
  | .extract .. | .makeInterface .. | .lookup .. | .typeAssert .. | .makeFunc .. | .build .. => true
  | .convert s d _ => match G.und s, G.und d with
    | some (.slice _), _ => false
    | _, some (.slice _) => false
    | _, _ => true
  | .call c => match c.callee with
    | .builtin .len | .builtin .cap | .builtin .min | .builtin .max => true
    | _ => false
  | _ => false
theorem at0_add (a : Addr) (n : Nat) : at0 a n = a.add n := by
  cases n <;> simp [at0, Addr.add]
theorem evL_ok {e : Env} {nt : Nat} {a : Act} (ha : Ok nt e a) : ∀ {l : List Operand} {vs : List Value}, evL e l = some vs → l.map a.eval = vs
  | [], vs, h => by simp [evL] at h; simp [h]
  | x :: r, vs, h => by
    simp only [evL] at h
    split at h
    · rename_i v l hv hl; injection h with h; subst h; simp [ha.ev hv, evL_ok ha hl]
    · cases h
theorem evP_ok {e : Env} {nt : Nat} {a : Act} (ha : Ok nt e a) : ∀ {l : List (Nat × Operand)} {vs : List (Nat × Value)}, evP e l = some vs → l.map (fun (i, x) => (i, a.eval x)) = vs
  | [], vs, h => by simp [evP] at h; simp [h]
  | (i, x) :: r, vs, h => by
    simp only [evP] at h
    split at h
    · rename_i v l hv hl; injection h with h; subst h; simpa [ha.ev hv] using evP_ok ha hl
    · cases h

theorem under_run {t : TypeId} {d : TypeDesc} (h : P.underlying t = some d) (w : World) : (underlying t).run P w = .ok d w := by simp [underlying, h]
theorem size_run {t : TypeId} {z : Nat} (h : sizeP P t = some z) (w : World) : (sizeOf t).run P w = .ok z w := by
  unfold sizeP at h
  cases hi : P.info? t with
  | none => rw [hi] at h; cases h
  | some i => rw [hi] at h; injection h with h; subst h; simp [sizeOf, typeInfo, hi]
theorem isAgg_run {t : TypeId} {d : TypeDesc} (h : P.underlying t = some d) (w : World) : (isAgg t).run P w = .ok (isAggD d) w := by
  cases d <;> simp [isAgg, under_run h, isAggD]

theorem ldN_ok {w : World} {a : Addr} : ∀ {l : List Sh} {i : Nat} {K : List Value → (World → Prop) → Prop}, ldN w a l i K →
    ∃ vs s, K vs s ∧ s w ∧ vs.length = l.length ∧ ∀ w', s w' → ∀ acc : Array Value, (loadCellsFrom a i l.length acc).run P w' = .ok (acc ++ vs.toArray) w'
  | [], i, K, h => ⟨[], tt, h, trivial, rfl, fun w' _ acc => by simp [loadCellsFrom]⟩
  | h :: t, i, K, ⟨v, hv, hh⟩ => by
    obtain ⟨vs, s, hK, hs, hlen, hrun⟩ := ldN_ok (As.elim hh)
    refine ⟨v :: vs, _, hK, ⟨hv, hs⟩, by simp [hlen], fun w' hw acc => ?_⟩
    obtain ⟨h1, h2⟩ := hw
    rw [at0_add] at h1
    have := hrun w' h2 (acc.push v)
    simp only [List.length_cons, loadCellsFrom, Sem.run_bind, run_load, h1, Result.andThen, this]
    simp
theorem ld_ok (hG : G.Ok P) {t : TypeId} {a : Addr} {w : World} {K : Value → (World → Prop) → Prop} (h : ld G t a w K) :
    ∃ v s, K v s ∧ s w ∧ ∀ w', s w' → (loadVar t a).run P w' = .ok v w' := by
  unfold ld at h
  split at h
  · exact h.elim
  rename_i d hd
  split at h
  · rename_i hag
    obtain ⟨v, hv, hh⟩ := h
    refine ⟨v, _, As.elim hh, hv, fun w' hw => ?_⟩
    unfold loadVar
    simp [isAgg_run (hG.und _ _ hd), hag, hw]
  · rename_i hag
    split at h
    · exact h.elim
    rename_i n hn
    simp only at h
    split at h
    · rename_i hb
      have hbl := Nat.eq_of_beq_eq_true hb
      obtain ⟨vs, s, hK, hs, hlen, hrun⟩ := ldN_ok (P := P) h
      refine ⟨_, s, hK, hs, fun w' hw => ?_⟩
      unfold loadVar
      have := hrun w' hw #[]
      rw [hbl] at this
      simp [isAgg_run (hG.und _ _ hd), hag, size_run (hG.siz _ _ hn), loadCells, this]
    · exact h.elim
theorem prt_ok (hG : G.Ok P) {t : TypeId} {cs : Array Value} {off : Nat} {K : Value → Prop} (h : prt G t cs off K) :
    ∃ v, K v ∧ ∀ w, (part t cs off).run P w = .ok v w := by
  unfold prt at h
  split at h
  · exact h.elim
  rename_i d hd
  split at h
  · rename_i hag
    split at h
    · exact h.elim
    rename_i n hn
    refine ⟨_, h, fun w => ?_⟩
    simp only [part, Sem.run_bind, isAgg_run (hG.und _ _ hd), hag, Result.andThen_ok, if_true, size_run (hG.siz _ _ hn)]
    have : cs.extract off (off + n) = ((cs.toList.drop off).take n).toArray := by
      apply Array.ext'; simp [List.extract_eq_take_drop]
    simp [this]
  · rename_i hag
    split at h
    · rename_i v hv
      refine ⟨_, h, fun w => ?_⟩
      have : cs[off]? = some v := by simpa using hv
      simp [part, isAgg_run (hG.und _ _ hd), hag, this]
    · exact h.elim
theorem bnd_ok {x : Option Value} {dflt ub : Nat} {K : Nat → Prop} (h : bnd x dflt ub K) :
    ∃ n, K n ∧ (x = none ∧ n = dflt ∨ ∃ v, x = some v ∧ ∀ c w, (Instr.sliceBound v ub c).run P w = .ok n w) := by
  unfold bnd at h
  split at h
  · exact ⟨_, h, .inl ⟨rfl, rfl⟩⟩
  · rename_i k i
    obtain ⟨h0, h1, hK⟩ := h
    exact ⟨_, hK, .inr ⟨_, rfl, fun c w => by simp [Instr.sliceBound, asIntOf, h0, h1]⟩⟩
  · exact h.elim
theorem bounds_ok {b : Bool} {len cap : Nat} {lo hi : Option Value} {K : Nat → Nat → Prop}
    (h : bnd hi len cap fun h => bnd lo 0 h fun l => K l h) :
    ∃ l h, K l h ∧ ∀ w, (Instr.sliceBounds b len cap lo hi none).run P w = .ok (l, h, cap) w := by
  obtain ⟨h, hl, hh⟩ := bnd_ok (P := P) h
  obtain ⟨l, hK, hll⟩ := bnd_ok (P := P) hl
  refine ⟨l, h, hK, fun w => ?_⟩
  rcases hh with ⟨rfl, rfl⟩ | ⟨v, rfl, hv⟩ <;> rcases hll with ⟨rfl, rfl⟩ | ⟨u, rfl, hu⟩ <;> simp [Instr.sliceBounds, *]
theorem slAddr_eq (a : Option Addr) (l m z : Nat) : slAddr a l m z = if m = l then a else a.map (·.add (l * z)) := by
  unfold slAddr; congr 1; cases a <;> simp [at0_add]
theorem slc_ok (hG : G.Ok P) {t : TypeId} {x : Value} {lo hi : Option Value} {D : Prop} {K : Value → Prop} (h : slc G t x lo hi D K) :
    D ∨ ∃ v, K v ∧ ∀ w, (Instr.sliceAt t x lo hi none).run P w = .ok v w := by
  unfold slc at h
  split at h
  · rename_i s hu
    obtain ⟨l, h', hK, hr⟩ := bounds_ok (P := P) (b := false) (K := fun l h => K (.string (s.extract l h))) h
    exact .inr ⟨_, hK, fun w => by simp [Instr.sliceAt, under_run (hG.und _ _ hu), Instr.slice, hr]⟩
  · rename_i e a n c hu
    split at h
    · exact h.elim
    rename_i z hz
    obtain ⟨l, h', hK, hr⟩ := bounds_ok (P := P) (b := true) (K := fun l h => K (.slice (slAddr a l c z) (h - l) (c - l))) h
    exact .inr ⟨_, hK, fun w => by simp [Instr.sliceAt, under_run (hG.und _ _ hu), Instr.slice, hr, size_run (hG.siz _ _ hz), slAddr_eq]⟩
  · rename_i n e a hu
    split at h
    · exact h.elim
    rename_i z hz
    obtain ⟨l, h', hK, hr⟩ := bounds_ok (P := P) (b := false) (K := fun l h => K (.slice (slAddr (some a) l n z) (h - l) (n - l))) h
    refine .inr ⟨_, hK, fun w => ?_⟩
    have : slAddr (some a) l n z = some (if n = l then a else a.add (l * z)) := by rw [slAddr_eq]; split <;> rfl
    simp [Instr.sliceAt, under_run (hG.und _ _ hu), Instr.sureAddr, hr, size_run (hG.siz _ _ hz), this]
  · exact .inl h
theorem idxA_ok (hG : G.Ok P) {t : TypeId} {x i : Value} {K : Value → Prop} (h : idxA G t x i K) : ∃ v, K v ∧ ∀ w, (Instr.indexAt t x i).run P w = .ok v w := by
  unfold idxA at h
  split at h
  · rename_i e b n c k i hu
    split at h
    · exact h.elim
    rename_i z hz
    obtain ⟨a, rfl, h0, h1, hK⟩ := NilP.out h
    exact ⟨_, hK, fun w => by simp [Instr.indexAt, asIntOf, under_run (hG.und _ _ hu), size_run (hG.siz _ _ hz), h0, h1, at0_add]⟩
  · rename_i n e b k i hu
    split at h
    · exact h.elim
    rename_i z hz
    obtain ⟨a, rfl, h0, h1, hK⟩ := NilP.out h
    exact ⟨_, hK, fun w => by simp [Instr.indexAt, asIntOf, under_run (hG.und _ _ hu), size_run (hG.siz _ _ hz), h0, h1, at0_add, Instr.sureAddr]⟩
  · exact h.elim
theorem fldA_ok (hG : G.Ok P) {t : TypeId} {x : Value} {f : Nat} {D : Prop} {K : Value → Prop} (h : fldA G t x f D K) :
    D ∨ ∃ v, K v ∧ ∀ w, (Instr.fieldAt t x f).run P w = .ok v w := by
  unfold fldA at h
  split at h
  · rename_i fs b hu
    split at h
    · exact h.elim
    rename_i g hg
    split at h
    · rename_i z hz
      obtain ⟨a, rfl, hK⟩ := NilP.out h
      have hg' : fs[f]? = some g := by simpa using hg
      exact .inr ⟨_, hK, fun w => by simp [Instr.fieldAt, under_run (hG.und _ _ hu), hg', Instr.sureAddr, fieldPlace, size_run (hG.siz _ _ hz), at0_add]⟩
    · exact .inl h
  · exact h.elim
theorem nilChk_ok {x : Value} {K : Value → Prop} (h : nilChk x K) : ∃ v, K v ∧ ∀ (o : Oper) (y : Operand) (ρ : Operand → Value) w, o.op = .nilCheck y → ρ y = x → (execOp ρ o).run P w = .ok (.value v) w := by
  unfold nilChk at h
  split at h
  · obtain ⟨a, rfl, hK⟩ := NilP.out h
    exact ⟨_, hK, fun o y ρ w ho hy => by simp [execOp, ho, hy]⟩
  all_goals first
    | exact ⟨_, h, fun o y ρ w ho hy => by simp [execOp, ho, hy]⟩
    | exact h.elim
theorem lenV_ok (hG : G.Ok P) {t ty : TypeId} {x : Value} {n : Int} (h : lenV (G.und t) x = some n) (w : World) : (Builtin.len_ #[t] ty #[x]).run P w = .ok (.int .i64 n) w := by
  cases hu : G.und t with
  | none => rw [hu] at h; simp [lenV] at h
  | some d =>
    rw [hu] at h
    have hu := hG.und _ _ hu
    unfold lenV at h
    split at h <;> simp only [Option.some.injEq, reduceCtorEq] at h <;> subst h <;> rename_i hd <;> simp only [Option.some.injEq] at hd <;> subst hd <;>
      simp [Builtin.len_, under_run hu, goInt]
theorem capV_ok (hG : G.Ok P) {t ty : TypeId} {x : Value} {n : Int} (h : capV (G.und t) x = some n) (w : World) : (Builtin.cap_ #[t] ty #[x]).run P w = .ok (.int .i64 n) w := by
  cases hu : G.und t with
  | none => rw [hu] at h; simp [capV] at h
  | some d =>
    rw [hu] at h
    have hu := hG.und _ _ hu
    unfold capV at h
    split at h <;> simp only [Option.some.injEq, reduceCtorEq] at h <;> subst h <;> rename_i hd <;> simp only [Option.some.injEq] at hd <;> subst hd <;>
      simp [Builtin.cap_, under_run hu, goInt]
theorem places_ok (hG : G.Ok P) : ∀ {fs : List Field} {l : List (Nat × Nat)}, places G fs = some l → ∀ w, (fs.mapM fun f => do pure (f.offset, ← sizeOf f.type) : Sem (List (Nat × Nat))).run P w = .ok l w
  | [], l, h, w => by simp [places] at h; subst h; rfl
  | f :: r, l, h, w => by
    simp only [places] at h
    split at h
    · rename_i z l' hz hl
      injection h with h; subst h
      simp only [List.mapM_cons, Sem.run_bind, size_run (hG.siz _ _ hz), Result.andThen_ok, Sem.run_pure, places_ok hG hl w]
    · cases h
theorem zero_run {t : TypeId} {z : Value} (h : zeroP P t = some z) (w : World) : (zeroValue t).run P w = .ok z w := by
  unfold zeroP at h
  cases hi : P.info? t with
  | none => rw [hi] at h; cases h
  | some i => rw [hi] at h; simp only at h; simp [zeroValue, typeInfo, hi, h]
theorem bld_ok (hG : G.Ok P) {t : TypeId} {ps : List (Nat × Value)} {K : Value → Prop} (h : bld G t ps K) : ∃ v, K v ∧ ∀ w, (Instr.build t ps.toArray).run P w = .ok v w := by
  unfold bld at h
  split at h
  · rename_i z fs hz hu
    split at h
    · rename_i l hl
      split at h
      · rename_i cs hcs
        refine ⟨_, h, fun w => ?_⟩
        have hp := places_ok hG hl w
        simp only [Instr.build, Sem.run_bind, zero_run (hG.zer _ _ hz), Result.andThen_ok, under_run (hG.und _ _ hu)]
        rw [← Array.toArray_toList (xs := fs)] 
        simp only [List.mapM_toArray, Sem.run_map, hp, Result.andThen_ok]
        simp [hcs]
      · exact h.elim
    · exact h.elim
  · rename_i z n el hz hu
    split at h
    · rename_i n hn
      split at h
      · rename_i cs hcs
        refine ⟨_, h, fun w => ?_⟩
        simp [Instr.build, zero_run (hG.zer _ _ hz), under_run (hG.und _ _ hu), size_run (hG.siz _ _ hn), hcs]
      · exact h.elim
    · exact h.elim
  · exact h.elim

theorem PR.use_ok {r : PR} {D : Prop} {K : Value → Prop} (h : r.use D K) : D ∨ ∃ v, K v ∧ r.Holds v := by
  cases r with
  | no => exact .inl h
  | t v => exact .inr ⟨v, h, rfl⟩
  | c p v => exact .inr ⟨v, h.2, h.1, rfl⟩
  | nz b v => have h := NZ.out h; exact .inr ⟨v, h.2, h.1, rfl⟩
  | nn b v => have h := NN.out h; exact .inr ⟨v, h.2, h.1, rfl⟩

theorem insV_ok {nt : Nat} {e : Env} {o : Oper} {s : Sem Value} {a : Act} (h : insV e o = some s) (ha : Ok nt e a) :
    execOp a.eval o = (do pure (.value (← s))) := by
  unfold insV at h
  split at h <;> rename_i ho
  case h_16 t n parts =>
    split at h <;> simp only [Option.some.injEq, reduceCtorEq] at h
    rename_i ps hp; subst h
    have e1 : parts.map (fun (i, x) => (i, a.eval x)) = ps.toArray := by apply Array.ext'; simp [← evP_ok ha hp]
    simp only [execOp, ho, e1]
  case h_17 c =>
    obtain ⟨cal, args, tys⟩ := c
    simp only at h
    split at h <;> simp only [Option.some.injEq, reduceCtorEq] at h <;> rename_i l hl <;> subst h <;>
      (have e1 : args.map a.eval = l.toArray := by (apply Array.ext'; simp [← evL_ok ha hl])) <;>
      (simp only [execOp, ho, resolve, e1]; rfl)
  all_goals first
    | (cases h; done)
    | (split at h <;> simp only [Option.some.injEq, reduceCtorEq] at h <;> subst h <;> rename_i h1 h2 <;> simp only [execOp, ho, ha.ev h1, ha.ev h2, binSem] <;> done)
    | (split at h <;> simp only [Option.some.injEq, reduceCtorEq] at h <;> subst h <;> rename_i h1 <;> simp only [execOp, ho, ha.ev h1, Option.map] <;> done)
    | (injection h with h; subst h; simp only [execOp, ho, Option.map])

theorem RawR_ok {nt : Nat} {e : Env} {o : Oper} {w : World} {K : Value → Option (World → Prop) → Prop} (h : RawR P G e o w K) :
    ∃ v s, K v s ∧ held s w ∧ ∀ a w', Ok nt e a → held s w' → (execOp a.eval o).run P w' = .ok (.value v) w' := by
  unfold RawR at h
  split at h
  · rename_i s hs
    obtain ⟨v, hr, hv⟩ := h
    refine ⟨v, _, As.elim hv, hr, fun a w' ha hw => ?_⟩
    rw [insV_ok hs ha]
    have hw : s.run P w' = .ok v w' := hw
    simp [hw]
  · exact h.elim

theorem RawP_ok {nt : Nat} {e : Env} {o : Oper} {w : World} {K : Value → Option (World → Prop) → Prop} (h : RawP P G e o K) :
    ∃ v s, K v s ∧ held s w ∧ ∀ a w', Ok nt e a → held s w' → (execOp a.eval o).run P w' = .ok (.value v) w' := by
  unfold RawP at h
  split at h
  · rename_i s hs
    obtain ⟨v, hr, hv⟩ := h
    refine ⟨v, none, As.elim hv, trivial, fun a w' ha hw => ?_⟩
    rw [insV_ok hs ha]
    simp [hr w']
  · exact h.elim

theorem rd_ok (hG : G.Ok P) {nt : Nat} {e : Env} {o : Oper} {w : World} {K : Value → Option (World → Prop) → Prop} (h : rd P G e o w K) :
    ∃ v s, K v s ∧ held s w ∧ ∀ a w', Ok nt e a → held s w' → (execOp a.eval o).run P w' = .ok (.value v) w' := by
  unfold rd at h
  split at h
  · rename_i x ho
    split at h
    · rename_i v hv; exact ⟨v, none, h, trivial, fun a w' ha _ => by simp [execOp, ho, ha.ev hv]⟩
    · exact h.elim
  · rename_i x ho
    split at h
    · rename_i v hv; exact ⟨v, none, h, trivial, fun a w' ha _ => by simp [execOp, ho, ha.ev hv]⟩
    · exact h.elim
  · rename_i c x y ho
    split at h
    · rename_i t vx vy hc hx hy
      cases t with
      | true => exact ⟨vx, none, h, trivial, fun a w' ha _ => by simp [execOp, ho, ha.ev hx, ha.ev hc, asBool]⟩
      | false => exact ⟨vy, none, h, trivial, fun a w' ha _ => by simp [execOp, ho, ha.ev hy, ha.ev hc, asBool]⟩
    · exact h.elim
  · rename_i t x ho
    split at h
    · rename_i b hx
      obtain ⟨ad, rfl, hn⟩ := NilP.out h
      obtain ⟨v, s, hK, hsw, hr⟩ := ld_ok hG hn
      exact ⟨v, some s, hK, hsw, fun a w' ha hw => by simp [execOp, ho, ha.ev hx, Instr.loadAt, Instr.sureAddr, hr w' hw]⟩
    · exact h.elim
  · rename_i x ho
    split at h
    · rename_i u hx
      obtain ⟨v, hK, hr⟩ := nilChk_ok (P := P) h
      exact ⟨v, none, hK, trivial, fun a w' ha _ => hr o x a.eval w' ho (ha.ev hx)⟩
    · exact h.elim
  · rename_i op t x y yt ho
    split at h
    · rename_i u v hx hy
      rcases PR.use_ok h with h | ⟨r, hK, hr⟩
      · exact RawP_ok h
      · refine ⟨r, none, hK, trivial, fun a w' ha _ => ?_⟩
        have := bin_run hG (xo := x) (yo := y) hr (fun u hu => by subst hu; simp [ev] at hy; exact hy.symm) w'
        simp only [execOp, ho, ha.ev hx, ha.ev hy]
        show (((do eqGuard op t x y u v; binOp op t u v) >>= fun r => pure (Next.value r)) : Sem Next).run P w' = _
        rw [Sem.run_bind, this]; rfl
    · exact h.elim
  · rename_i op t x ho
    split at h
    · rename_i u hx
      rcases PR.use_ok h with h | ⟨r, hK, hr⟩
      · exact RawP_ok h
      · exact ⟨r, none, hK, trivial, fun a w' ha _ => by simp [execOp, ho, ha.ev hx, un_run hr w']⟩
    · exact h.elim
  · rename_i t1 t2 x ho
    split at h
    · rename_i u hx
      rcases PR.use_ok h with h | ⟨r, hK, hr⟩
      · exact RawP_ok h
      · exact ⟨r, none, hK, trivial, fun a w' ha _ => by simp [execOp, ho, ha.ev hx, conv_run hG hr w']⟩
    · exact h.elim
  · rename_i t x f ho
    split at h
    · rename_i u hx
      rcases fldA_ok hG h with h | ⟨r, hK, hr⟩
      · exact RawR_ok h
      · exact ⟨r, none, hK, trivial, fun a w' ha _ => by simp [execOp, ho, ha.ev hx, hr w']⟩
    · exact h.elim
  · rename_i t x f ho
    split at h
    · rename_i fs cs hu hx
      split at h
      · rename_i g hg
        obtain ⟨v, hK, hr⟩ := prt_ok hG h
        have hg' : fs[f]? = some g := by simpa using hg
        exact ⟨v, none, hK, trivial, fun a w' ha _ => by simp [execOp, ho, ha.ev hx, Instr.field, under_run (hG.und _ _ hu), hg', asAgg, hr w']⟩
      · exact h.elim
    · exact h.elim
  · rename_i t x i ho
    split at h
    · rename_i u v hx hi
      obtain ⟨r, hK, hr⟩ := idxA_ok hG h
      exact ⟨r, none, hK, trivial, fun a w' ha _ => by simp [execOp, ho, ha.ev hx, ha.ev hi, hr w']⟩
    · exact h.elim
  · rename_i t x i ho
    split at h
    · rename_i s k i' hu hx hi
      obtain ⟨h0, b, hb, hK⟩ := h
      exact ⟨_, none, hK, trivial, fun a w' ha _ => by simp [execOp, ho, ha.ev hx, ha.ev hi, Instr.index, asIntOf, under_run (hG.und _ _ hu), h0, hb]⟩
    · rename_i n el cs k i' hu hx hi
      split at h
      · rename_i d z hd hz
        split at h
        · rename_i hag
          obtain ⟨h0, h1, v, hv, hK⟩ := h
          refine ⟨v, none, As.elim hK, trivial, fun a w' ha _ => ?_⟩
          simp [execOp, ho, ha.ev hx, ha.ev hi, Instr.index, asIntOf, under_run (hG.und _ _ hu), h0, h1, size_run (hG.siz _ _ hz), part, isAgg_run (hG.und _ _ hd), hag, hv]
        · exact RawP_ok h
      · exact RawP_ok h
    · exact RawP_ok h
  · rename_i t x lo hi ho
    split at h
    · rename_i u l hh hx hl hhi
      rcases slc_ok hG h with h | ⟨r, hK, hr⟩
      · exact RawR_ok h
      · refine ⟨r, none, hK, trivial, fun a w' ha _ => ?_⟩
        have e1 : lo.map a.eval = l := by
          cases lo with
          | none => simp [evO] at hl; simp [hl]
          | some x => simp only [evO] at hl; split at hl <;> simp at hl; rename_i v hv; subst hl; simp [ha.ev hv]
        have e2 : hi.map a.eval = hh := by
          cases hi with
          | none => simp [evO] at hhi; simp [hhi]
          | some x => simp only [evO] at hhi; split at hhi <;> simp at hhi; rename_i v hv; subst hhi; simp [ha.ev hv]
        simp [execOp, ho, ha.ev hx, e1, e2, hr w']
    · exact h.elim
  · rename_i x i ho
    split at h
    · rename_i vs hx
      split at h
      · rename_i v hv
        have hv' : vs[i]? = some v := by simpa using hv
        exact ⟨v, none, h, trivial, fun a w' ha _ => by simp [execOp, ho, ha.ev hx, Instr.extract, hv']⟩
      · exact h.elim
    · exact h.elim
  · rename_i t x ho
    split at h
    · exact h.elim
    · rename_i d v hne hu hx
      refine ⟨_, none, h, trivial, fun a w' ha _ => ?_⟩
      simp [execOp, ho, ha.ev hx, Instr.makeInterface, under_run (hG.und _ _ hu)]
    · exact h.elim
  · rename_i f x y ho
    split at h
    · rename_i xs ys hx hy
      refine ⟨_, none, h, trivial, fun a w' ha _ => ?_⟩
      have e1 : x.map a.eval = xs.toArray := by apply Array.ext'; simp [← evL_ok ha hx]
      have e2 : y.map a.eval = ys.toArray := by apply Array.ext'; simp [← evL_ok ha hy]
      simp [execOp, ho, Instr.makeFunc, e1, e2]
    · exact h.elim
  · rename_i t parts ho
    split at h
    · rename_i ps hp
      obtain ⟨v, hK, hr⟩ := bld_ok hG h
      refine ⟨v, none, hK, trivial, fun a w' ha _ => ?_⟩
      have e1 : parts.map (fun (i, x) => (i, a.eval x)) = ps.toArray := by apply Array.ext'; simp [← evP_ok ha hp]
      simp only [execOp, ho, e1]
      simp [hr w']
    · exact h.elim
  · rename_i c ho
    obtain ⟨cal, args, tys⟩ := c
    simp only at h
    split at h
    · rename_i x t ha1 ht1
      have ea : args = #[x] := by apply Array.ext'; simpa using ha1
      have et : tys = #[t] := by apply Array.ext'; simpa using ht1
      subst ea et
      split at h
      · rename_i v hx
        split at h
        · rename_i n hn
          exact ⟨_, none, h, trivial, fun a w' ha _ => by simp [execOp, ho, resolve, invoke, builtin, ha.ev hx, lenV_ok hG hn w']⟩
        · exact RawR_ok h
      · exact h.elim
    · rename_i x t ha1 ht1
      have ea : args = #[x] := by apply Array.ext'; simpa using ha1
      have et : tys = #[t] := by apply Array.ext'; simpa using ht1
      subst ea et
      split at h
      · rename_i v hx
        split at h
        · rename_i n hn
          exact ⟨_, none, h, trivial, fun a w' ha _ => by simp [execOp, ho, resolve, invoke, builtin, ha.ev hx, capV_ok hG hn w']⟩
        · exact RawR_ok h
      · exact h.elim
    · rename_i x y ha1
      have ea : args = #[x, y] := by apply Array.ext'; simpa using ha1
      subst ea
      split at h
      · rename_i k n _ m hx hy
        exact ⟨_, none, h, trivial, fun a w' ha _ => by simp [execOp, ho, resolve, invoke, builtin, ha.ev hx, ha.ev hy, Builtin.min_, Builtin.min2]⟩
      · exact RawR_ok h
    · rename_i x y ha1
      have ea : args = #[x, y] := by apply Array.ext'; simpa using ha1
      subst ea
      split at h
      · rename_i k n _ m hx hy
        exact ⟨_, none, h, trivial, fun a w' ha _ => by simp [execOp, ho, resolve, invoke, builtin, ha.ev hx, ha.ev hy, Builtin.max_, Builtin.max2]⟩
      · exact RawR_ok h
    · exact RawR_ok h
  · exact RawR_ok h
end Go.Sh

namespace Go.Sh
variable {P : Program} {G : Tab}

/-! ## operations that write, make memory or call -/
def St (w : World) (a : Addr) (v : Value) (K : World → Prop) : Prop :=
  (∃ u, w.cell? a = some u) ∧ w.frozen? a = false ∧ v.oneCell' = true ∧ K (w.setCell a v)
def stN (a : Addr) : List Value → Nat → World → (World → Prop) → Prop
  | [], _, w, K => K w
  | v :: r, i, w, K => St w (at0 a i) v fun w' => stN a r (i + 1) w' K
def New (w : World) (cells : Array Value) (t : TypeId) (K : Addr → World → Prop) : Prop :=
  K ⟨w.heap.size, 0, none⟩ (w.alloc (.cells cells t))
def CallS (P : Program) (f : FuncId) (args : Array Value) (w : World) (K : Value → World → Prop) : Prop :=
  Calls P f args w fun e w' => ∃ v, e = .returned v ∧ K v w'
def RunV (P : Program) (s : Sem Value) (w : World) (K : Value → World → Prop) : Prop := ∃ v w', s.run P w = .ok v w' ∧ K v w'
def RunU (P : Program) (s : Sem Unit) (w : World) (K : World → Prop) : Prop := ∃ w', s.run P w = .ok () w' ∧ K w'

def wo (P : Program) (G : Tab) (e : Env) (o : Oper) (w : World) (K : Value → World → Prop) : Prop :=
  match o.op with
  | .store t a x => match ev e a, ev e x, G.siz t with
    | some (.pointer b), some v, some z => match Nat.beq v.cells.toList.length z with
      | true => NilP b fun a => stN a v.cells.toList 0 w fun w' => K undef w'
      | false => False
    | _, _, _ => False
  | .alloc t => match G.zer t with
    | some z => New w z.cells t fun a w' => K (.pointer (some a)) w'
    | none => False
  | .box t x => match ev e x with
    | some v => New w v.cells t fun a w' => K (.pointer (some a)) w'
    | none => False
  | .mapUpdate t m k x => match ev e m, ev e k, ev e x with
    | some m, some k, some x => RunU P (Instr.mapUpdate t m k x) w fun w' => K undef w'
    | _, _, _ => False
  | .insert t m k x => match ev e m, ev e k, ev e x with
    | some m, some k, some x => RunU P (Instr.mapUpdate t m k x) w fun w' => K undef w'
    | _, _, _ => False
  | .entryStore t m s x => match ev e m, ev e s, ev e x with
    | some m, some k, some x => RunU P (Instr.entryStore t m k x) w fun w' => K undef w'
    | _, _, _ => False
  | .call c => match c.callee, evL e c.args.toList with
    | .value f, some args => match ev e f with
      | some (.func (.func g) first cap) => match G.fn g with
        | true => CallS P g (first ++ args.toArray ++ cap) w fun v w' => As (shT G 12 o.type) v fun v => K v w'
        | false => False
      | _ => False
    | _, _ => match insV e o with
      | some s => RunV P s w fun v w' => As (shT G 12 o.type) v fun v => K v w'
      | none => False
  | _ => match insV e o with
    | some s => RunV P s w fun v w' => As (shT G 12 o.type) v fun v => K v w'
    | none => False

theorem stN_ok {a : Addr} : ∀ {l : List Value} {i : Nat} {w : World} {K : World → Prop}, stN a l i w K → ∃ w', K w' ∧ (storeCells a l i).run P w = .ok () w'
  | [], i, w, K, h => ⟨w, h, by simp [storeCells]⟩
  | v :: r, i, w, K, ⟨⟨u, hu⟩, hf, h1, h⟩ => by
    obtain ⟨w', hK, hr⟩ := stN_ok h
    refine ⟨w', hK, ?_⟩
    rw [at0_add] at hu hf hr
    simp only [storeCells, Sem.run_bind, run_store P _ _ _ _ h1, hu, hf, Result.andThen]
    simpa using hr

/-- what an operation that is carried out does: its value and its world, by the continuation -/
def Does (P : Program) (o : Oper) (a : Act) (w : World) (K : Value → World → Prop) : Prop :=
  ∀ (next : Act → World → Prop) (Q : Exit → Act → World → Prop), (∀ v w', K v w' → next (a.put o.dst v) w') → o.wp P a w next Q

theorem Does.of_run {o : Oper} {a : Act} {w w' : World} {v : Value} {K : Value → World → Prop} (hr : (execOp a.eval o).run P w = .ok (.value v) w') (h : K v w') : Does P o a w K :=
  fun next Q hn => by unfold Oper.wp; rw [hr]; exact hn v w' h
theorem Does.of_skip {o : Oper} {a : Act} {w w' : World} {K : Value → World → Prop} (hr : (execOp a.eval o).run P w = .ok .skip w') (h : K undef w') : Does P o a w K :=
  fun next Q hn => by unfold Oper.wp; rw [hr]; exact hn undef w' h

theorem RunV_does {nt : Nat} {e : Env} {o : Oper} {w : World} {K : Value → World → Prop} {a : Act} (ha : Ok nt e a) {s : Sem Value} (hs : insV e o = some s)
    (h : RunV P s w fun v w' => As (shT G 12 o.type) v fun v => K v w') : Does P o a w K := by
  obtain ⟨v, w', hr, hv⟩ := h
  refine Does.of_run (w' := w') (v := v) ?_ (As.elim hv)
  rw [insV_ok hs ha]; simp [hr]

theorem wo_ok (hG : G.Ok P) {nt : Nat} {e : Env} {o : Oper} {w : World} {K : Value → World → Prop} {a : Act} (ha : Ok nt e a) (h : wo P G e o w K) : Does P o a w K := by
  unfold wo at h
  split at h
  · rename_i t x y ho
    split at h
    · rename_i b v z hx hy hz
      split at h
      · rename_i hb
        obtain ⟨ad, rfl, hn⟩ := NilP.out h
        obtain ⟨w', hK, hr⟩ := stN_ok (P := P) h
        refine Does.of_skip (w' := w') ?_ hK
        have hb' : v.cells.size = z := by simpa using Nat.eq_of_beq_eq_true hb
        simp [execOp, ho, ha.ev hx, ha.ev hy, Instr.storeAt, Instr.sureAddr, storeVar, size_run (hG.siz _ _ hz), hb', hr]
      · exact h.elim
    · exact h.elim
  · rename_i t ho
    split at h
    · rename_i z hz
      refine Does.of_run ?_ h
      simp [execOp, ho, Instr.alloc, zero_run (hG.zer _ _ hz), newVar, newRow]
    · exact h.elim
  · rename_i t x ho
    split at h
    · rename_i v hx
      refine Does.of_run ?_ h
      simp [execOp, ho, ha.ev hx, Instr.box, newVar, newRow]
    · exact h.elim
  · rename_i t m k x ho
    split at h
    · rename_i vm vk vx hm hk hx
      obtain ⟨w', hr, hK⟩ := h
      exact Does.of_skip (by simp [execOp, ho, ha.ev hm, ha.ev hk, ha.ev hx, hr]) hK
    · exact h.elim
  · rename_i t m k x ho
    split at h
    · rename_i vm vk vx hm hk hx
      obtain ⟨w', hr, hK⟩ := h
      exact Does.of_skip (by simp [execOp, ho, ha.ev hm, ha.ev hk, ha.ev hx, hr]) hK
    · exact h.elim
  · rename_i t m k x ho
    split at h
    · rename_i vm vk vx hm hk hx
      obtain ⟨w', hr, hK⟩ := h
      exact Does.of_skip (by simp [execOp, ho, ha.ev hm, ha.ev hk, ha.ev hx, hr]) hK
    · exact h.elim
  · rename_i c ho
    obtain ⟨cal, args, tys⟩ := c
    simp only at h
    split at h
    · rename_i f vs hvs
      split at h
      · rename_i g first cap hf
        split at h
        · rename_i hg
          have hg := hG.fn _ hg
          unfold goesIn at hg
          split at hg
          · rename_i fn hfn
            split at hg
            · rename_i cd hbody
              split at hg
              · cases hg
              · rename_i hname
                have e1 : args.map a.eval = vs.toArray := by apply Array.ext'; simp [← evL_ok ha hvs]
                have hrun : (execOp a.eval o).run P w = .ok (.enter g (first ++ vs.toArray ++ cap)) w := by
                  have hn : (fn.name == "runtime.NumGoroutine") = false := hname
                  simp only [execOp, ho, resolve, Deferred.ofValue, ha.ev hf, e1]
                  simp only [invoke, callFunc, Sem.run_bind, Sem.run_pure, run_program, Result.andThen_ok, hfn, hn, hbody, Option.isNone]
                  simp
                intro next Q hnx
                unfold Oper.wp
                rw [hrun]
                refine Calls.mono h fun e' w'' he => ?_
                obtain ⟨v, rfl, hv⟩ := he
                exact hnx v w'' (As.elim hv)
            · cases hg
          · cases hg
        · exact h.elim
      · exact h.elim
    · split at h
      · rename_i s hs; exact RunV_does ha hs h
      · exact h.elim
  · split at h
    · rename_i s hs; exact RunV_does ha hs h
    · exact h.elim

/-! ## one operation -/
/-- carried out, whichever it is -/
def op1 (P : Program) (G : Tab) (e : Env) (o : Oper) (w : World) (K : Value → World → Prop) : Prop :=
  match isR G o.op with
  | true => rd P G e o w fun v _ => K v w
  | false => wo P G e o w K
theorem op1_ok (hG : G.Ok P) {nt : Nat} {e : Env} {o : Oper} {w : World} {K : Value → World → Prop} {a : Act} (ha : Ok nt e a) (h : op1 P G e o w K) : Does P o a w K := by
  unfold op1 at h
  split at h
  · obtain ⟨v, s, hK, hs, hr⟩ := rd_ok hG h
    exact Does.of_run (hr a w ha hs) hK
  · exact wo_ok hG ha h

/-- a Bool that decides: literal ones reduce -/
def BIf (b : Bool) (x y : Prop) : Prop := match b with | true => x | false => y
theorem BIf.elim {b : Bool} {x y : Prop} (h : BIf b x y) : (b = true ∧ x) ∨ (b = false ∧ y) := by
  cases b with
  | true => exact .inl ⟨rfl, h⟩
  | false => exact .inr ⟨rfl, h⟩
theorem BIf.intro {b : Bool} {x y : Prop} (h1 : b = true → x) (h2 : b = false → y) : BIf b x y := by
  cases b with
  | true => exact h1 rfl
  | false => exact h2 rfl

def dstOf (ops : List Oper) (j : Nat) : Option Nat := match ops[j]? with | some o => o.dst | none => none
/-- an operation with its guard: what the guard's slot holds is known behind it -/
def opG (ops : List Oper) (e : Env) (o : Oper) (yes : Env → Prop) (no : Env → Prop) : Prop :=
  match o.guard with
  | none => yes e
  | some (j, want) => match dstOf ops j with
    | none => False
    | some d => match get e d with
      | some (.bool b) => match want with
        | true => BIf b (yes ((d, .bool true) :: e)) (no ((d, .bool false) :: e))
        | false => BIf b (no ((d, .bool true) :: e)) (yes ((d, .bool false) :: e))
      | some (.tuple _) => no e
      | _ => False

theorem opG_ok {nt : Nat} {ops : Array Oper} {e : Env} {o : Oper} {yes no : Env → Prop} {a : Act} (ha : Ok nt e a) (h : opG ops.toList e o yes no) :
    ∃ e', Ok nt e' a ∧ ((Region.wanted o (yielded ops a.tmps) = true ∧ yes e') ∨ (Region.wanted o (yielded ops a.tmps) = false ∧ no e')) := by
  unfold opG at h
  split at h
  · rename_i hg; exact ⟨e, ha, .inl ⟨by simp [Region.wanted, hg], h⟩⟩
  · rename_i j want hg
    split at h
    · exact h.elim
    rename_i d hd
    have hd' : (ops[j]?).bind (·.dst) = some d := by
      unfold dstOf at hd
      split at hd
      · rename_i o' ho; have : ops[j]? = some o' := by simpa using ho
        simp [this, hd]
      · cases hd
    split at h
    · rename_i b hb
      have hv := ha.get d _ hb
      have hy : yielded ops a.tmps j = some b := by unfold yielded; rw [hd']; simp [hv]
      split at h
      · rcases h.elim with ⟨rfl, h⟩ | ⟨rfl, h⟩
        · exact ⟨_, ha.know hv, .inl ⟨by simp [Region.wanted, hg, hy], h⟩⟩
        · exact ⟨_, ha.know hv, .inr ⟨by simp [Region.wanted, hg, hy], h⟩⟩
      · rcases h.elim with ⟨rfl, h⟩ | ⟨rfl, h⟩
        · exact ⟨_, ha.know hv, .inr ⟨by simp [Region.wanted, hg, hy], h⟩⟩
        · exact ⟨_, ha.know hv, .inl ⟨by simp [Region.wanted, hg, hy], h⟩⟩
    · rename_i l hb
      have hv := ha.get d _ hb
      have hy : yielded ops a.tmps j = none := by unfold yielded; rw [hd']; simp [hv]
      exact ⟨e, ha, .inr ⟨by simp [Region.wanted, hg, hy], h⟩⟩
    · exact h.elim

/-! ## a region in the order of the text -/
/-- the environment is laid out before it is handed on -/
def force (e : Env) (K : Env → Prop) : Prop := match e with | [] => K [] | x :: r => K (x :: r)
theorem force_eq (e : Env) (K : Env → Prop) : force e K = K e := by cases e <;> rfl
def opsT (P : Program) (G : Tab) (nt : Nat) (ops : List Oper) : List Oper → Env → World → (Env → World → Prop) → Prop
  | [], e, w, N => N e w
  | o :: r, e, w, N => opG ops e o (fun e => op1 P G e o w fun v w' => force (put nt e o.dst v) fun e => opsT P G nt ops r e w' N) (fun e => force (put nt e o.dst undef) fun e => opsT P G nt ops r e w N)

/-- the exits of a piece of code, by environments -/
def Post (nt : Nat) (N : Env → World → Prop) (X : Nat → Env → World → Prop) (R : Env → World → Prop) : Exit → Act → World → Prop
  | .normal, a, w => ∃ e, Ok nt e a ∧ N e w
  | .exit id, a, w => ∃ e, Ok nt e a ∧ X id e w
  | .ret, a, w => ∃ e, Ok nt e a ∧ R e w
  | _, _, _ => False

theorem opsT_ok (hG : G.Ok P) {nt : Nat} {ops : Array Oper} {N : Env → World → Prop} {X : Nat → Env → World → Prop} {R : Env → World → Prop} : ∀ {l : List Oper} {e : Env} {w : World} {a : Act},
    Ok nt e a → opsT P G nt ops.toList l e w N → wpList P ops (Post nt N X R) l a w
  | [], e, w, a, ha, h => ⟨e, ha, h⟩
  | o :: r, e, w, a, ha, h => by
    obtain ⟨e', ha', ⟨hw, h⟩ | ⟨hw, h⟩⟩ := opG_ok ha h
    · refine wpList_step fun K hK => ?_
      rw [if_pos hw]
      exact op1_ok hG ha' h _ _ fun v w' hv => hK _ _ (opsT_ok hG (ha'.put o.dst v) (by rwa [force_eq] at hv))
    · refine wpList_step fun K hK => ?_
      rw [hw]
      exact hK _ _ (opsT_ok hG (ha'.put o.dst undef) (by rwa [force_eq] at h))
end Go.Sh

namespace Go.Sh
variable {P : Program} {G : Tab}

/-! ## a region whose order is drawn: reads go first, with what must stay as it was -/
abbrev Chk := List (Nat × (World → Prop))
def bindsB (e : Edge) : Bool := Region.binds .any e
def memN (l : List Nat) (n : Nat) : Bool := match l with | [] => false | x :: r => match Nat.beq x n with | true => true | false => memN r n
/-- does one of these operations wait for number k? -/
def waitsK (k : Nat) : List Edge → Bool
  | [] => false
  | e :: r => match bindsB e with
    | true => match Nat.beq e.on k with | true => true | false => waitsK k r
    | false => waitsK k r
def anyWaits (ops : List Oper) (k : Nat) : List Nat → Bool
  | [] => false
  | s :: r => match ops[s]? with
    | some o => match waitsK k o.after.toList with | true => true | false => anyWaits ops k r
    | none => anyWaits ops k r
def ancGo (ops : List Oper) : Nat → List Nat → List Nat → List Nat
  | 0, _, acc => acc
  | k + 1, S, acc => match anyWaits ops k S with
    | true => ancGo ops k (k :: S) (k :: acc)
    | false => ancGo ops k S acc
/-- the operations that must come ahead of number j -/
def anc (ops : List Oper) (j : Nat) : List Nat := ancGo ops j [j] []
def upholds (A : List Nat) (C : Chk) (w : World) : Prop :=
  match C with
  | [] => True
  | (i, s) :: r => match memN A i with | true => upholds A r w | false => s w ∧ upholds A r w

def isW (G : Tab) (ops : List Oper) (j : Nat) : Bool := match ops[j]? with | some o => !isR G o.op | none => false

/-- 'wpAny' with checks: behind an operation that may write, what was read ahead of it must be as it was, but for what had to come ahead of it -/
def anyC (P : Program) (G : Tab) (ops : Array Oper) (Q : Exit → Act → World → Prop) : Nat → Array Bool → Chk → Act → World → Prop
  | 0, listed, _, a, w => Region.ready .any ops listed = [] ∧ Q .normal a w
  | fuel + 1, listed, C, a, w =>
    (Region.ready .any ops listed = [] → Q .normal a w) ∧
    ∀ i ∈ Region.ready .any ops listed, wpOp P ops Q i (fun a' w' => (if isW G ops.toList i = true then upholds (anc ops.toList i) C w' else w' = w) ∧
      anyC P G ops Q fuel (listed.setIfInBounds i true) C a' w') a w

section
variable {ops : Array Oper} {Q : Exit → Act → World → Prop}
theorem anyC_any : ∀ {fuel : Nat} {listed : Array Bool} {C : Chk} {a : Act} {w : World}, anyC P G ops Q fuel listed C a w → wpAny P .any ops Q fuel listed a w
  | 0, _, _, _, _, h => h
  | _ + 1, _, _, _, _, h => ⟨h.1, fun i hi => wpOp_mono (fun _ _ h' => anyC_any h'.2) (h.2 i hi)⟩
theorem upholds_tail {A : List Nat} {i : Nat} {s : World → Prop} {C : Chk} {w : World} (h : upholds A ((i, s) :: C) w) : upholds A C w := by
  simp only [upholds] at h
  split at h
  · exact h
  · exact h.2
theorem anyC_tail {i : Nat} {s : World → Prop} : ∀ {fuel : Nat} {listed : Array Bool} {C : Chk} {a : Act} {w : World}, anyC P G ops Q fuel listed ((i, s) :: C) a w → anyC P G ops Q fuel listed C a w
  | 0, _, _, _, _, h => h
  | _ + 1, _, _, _, _, h => ⟨h.1, fun i hi => wpOp_mono (fun a' w' h' => by
      refine ⟨?_, anyC_tail h'.2⟩
      have := h'.1
      split at this
      · rename_i hw; rw [if_pos hw]; exact upholds_tail this
      · rename_i hw; rw [if_neg hw]; exact this) (h.2 i hi)⟩

/-- what stands among the listed is closed under 'must come ahead' -/
def Closed (ops : List Oper) (listed : Array Bool) : Prop :=
  ∀ (k : Nat) (o : Oper), ops[k]? = some o → listed.getD k false = true → ∀ e ∈ o.after.toList, bindsB e = true → listed.getD e.on false = true

theorem waitsK_iff {k : Nat} : ∀ {l : List Edge}, waitsK k l = true → ∃ e ∈ l, bindsB e = true ∧ e.on = k
  | [], h => by cases h
  | e :: r, h => by
    simp only [waitsK] at h
    split at h
    · rename_i hb
      split at h
      · rename_i hk; exact ⟨e, by simp, hb, Nat.eq_of_beq_eq_true hk⟩
      · obtain ⟨e', h1, h2⟩ := waitsK_iff h; exact ⟨e', by simp [h1], h2⟩
    · obtain ⟨e', h1, h2⟩ := waitsK_iff h; exact ⟨e', by simp [h1], h2⟩
theorem anyWaits_iff {ops : List Oper} {k : Nat} : ∀ {S : List Nat}, anyWaits ops k S = true → ∃ s ∈ S, ∃ o, ops[s]? = some o ∧ ∃ e ∈ o.after.toList, bindsB e = true ∧ e.on = k
  | [], h => by cases h
  | s :: r, h => by
    simp only [anyWaits] at h
    split at h
    · rename_i o ho
      split at h
      · rename_i hw; obtain ⟨e, h1, h2⟩ := waitsK_iff hw; exact ⟨s, by simp, o, ho, e, h1, h2⟩
      · obtain ⟨s', h1, h2⟩ := anyWaits_iff h; exact ⟨s', by simp [h1], h2⟩
    · obtain ⟨s', h1, h2⟩ := anyWaits_iff h; exact ⟨s', by simp [h1], h2⟩
theorem ancGo_listed {l : List Oper} {listed : Array Bool} (hc : Closed l listed) {j : Nat} (hj : ∀ o, l[j]? = some o → ∀ e ∈ o.after.toList, bindsB e = true → listed.getD e.on false = true) :
    ∀ (n : Nat) (S acc : List Nat), (∀ s ∈ S, s = j ∨ listed.getD s false = true) → (∀ x ∈ acc, listed.getD x false = true) → ∀ x ∈ ancGo l n S acc, listed.getD x false = true
  | 0, _, _, _, ha, x, hx => ha x hx
  | k + 1, S, acc, hS, ha, x, hx => by
    simp only [ancGo] at hx
    split at hx
    · rename_i hw
      obtain ⟨s, hs, o, ho, e, he, hb, hk⟩ := anyWaits_iff hw
      have hkl : listed.getD k false = true := by
        rcases hS s hs with rfl | h1
        · rw [← hk]; exact hj o ho e he hb
        · rw [← hk]; exact hc s o ho h1 e he hb
      refine ancGo_listed hc hj k (k :: S) (k :: acc) (fun s' hs' => ?_) (fun x' hx' => ?_) x hx
      · rcases List.mem_cons.1 hs' with rfl | hs'
        · exact .inr hkl
        · exact hS s' hs'
      · rcases List.mem_cons.1 hx' with rfl | hx'
        · exact hkl
        · exact ha x' hx'
    · exact ancGo_listed hc hj k S acc hS ha x hx
theorem anc_listed {l : List Oper} {listed : Array Bool} (hc : Closed l listed) (j : Nat) (o : Oper) (ho : l[j]? = some o)
    (h : ∀ e ∈ o.after.toList, bindsB e = true → listed.getD e.on false = true) : ∀ x ∈ anc l j, listed.getD x false = true :=
  ancGo_listed hc (fun o' ho' => by rw [ho] at ho'; injection ho' with e; subst e; exact h) j [j] [] (fun s hs => by simp at hs; exact .inl hs) (fun x hx => by cases hx)

theorem memN_iff {l : List Nat} {n : Nat} : memN l n = true ↔ n ∈ l := by
  induction l with
  | nil => simp [memN]
  | cons x r ih =>
    simp only [memN, List.mem_cons]
    cases h : Nat.beq x n with
    | true => have : x = n := Nat.eq_of_beq_eq_true h; simp [this]
    | false => have : x ≠ n := Nat.ne_of_beq_eq_false h; simp [ih, Ne.symm this]

theorem Closed.set {listed : Array Bool} (hc : Closed ops.toList listed) {j : Nat} (hj : j ∈ Region.ready .any ops listed) : Closed ops.toList (listed.setIfInBounds j true) := by
  intro k o ho hk e he hb
  obtain ⟨hun, oj, hoj, hall⟩ := mem_ready.1 hj
  by_cases hkj : k = j
  · subst hkj
    have : oj = o := by have h1 : ops[k]? = some o := by simpa using ho
                        rw [h1] at hoj; injection hoj with h; exact h.symm
    subst this
    exact getD_set_true (hall e (by simpa using he) hb)
  · rw [getD_set_ne false (Ne.symm hkj)] at hk
    exact getD_set_true (hc k o ho hk e he hb)

/-- **a read may be taken first**: it yields its value wherever 's' holds, 's' holds now, and 's' is checked behind whatever might come ahead of it -/
theorem anyC_first {i : Nat} {oi : Oper} {v : Value} {s : World → Prop} (hi : ops[i]? = some oi) (hsel : ∀ (j : Nat) (o : Oper) cs b, ops[j]? = some o → o.op ≠ .select cs b)
    (hQ : ∀ c a w, Q (.panic c) (a.put oi.dst v) w → Q (.panic c) a w) (hR : isW G ops.toList i = false) :
    ∀ (fuel : Nat) (listed : Array Bool) (C : Chk) (a : Act) (w : World), listed.size = ops.size → Closed ops.toList listed →
      (∀ j oj, ops[j]? = some oj → j ≠ i → listed.getD j true = false → (∀ e ∈ oj.after, Region.binds .any e = true → e.on ≠ i) → oi.apart ops oj = true) →
      i ∈ Region.ready .any ops listed → YieldsIf P ops s oi v a → s w →
      anyC P G ops Q fuel (listed.setIfInBounds i true) ((i, s) :: C) (a.put oi.dst v) w → anyC P G ops Q (fuel + 1) listed C a w := by
  intro fuel
  induction fuel with
  | zero =>
    intro listed C a w _ _ _ hr hy hS H
    refine ⟨fun h => (by rw [h] at hr; cases hr), fun j hj => ?_⟩
    by_cases hji : j = i
    · subst hji; exact hy.wpOp hi hS ⟨by rw [hR]; simp, H⟩
    · have := ready_mono hj hji
      rw [H.1] at this
      cases this
  | succ fuel ih =>
    intro listed C a w hsz hcl hfree hr hy hS H
    refine ⟨fun h => (by rw [h] at hr; cases hr), fun j hj => ?_⟩
    by_cases hji : j = i
    · subst hji; exact hy.wpOp hi hS ⟨by rw [hR]; simp, anyC_tail H⟩
    · have h1 := H.2 j (ready_mono hj hji)
      obtain ⟨hjun, oj, hoj, hall⟩ := mem_ready.1 hj
      have hnot : ∀ e ∈ oj.after, Region.binds .any e = true → e.on ≠ i := fun e he hb heq => by
        have h1 := hall e he hb
        have h0 := (mem_ready.1 hr).1
        rw [heq] at h1
        rcases Nat.lt_or_ge i listed.size with h' | h'
        · simp [h'] at h0 h1; rw [h0] at h1; cases h1
        · simp [Array.getElem?_eq_none h'] at h1
      have hnanc : memN (anc ops.toList j) i = false := by
        cases hm : memN (anc ops.toList j) i with
        | false => rfl
        | true =>
          have hx := anc_listed hcl j oj (by simpa using hoj) (fun e he hb => hall e (by simpa using he) hb) i (memN_iff.1 hm)
          have h0 := (mem_ready.1 hr).1
          rcases Nat.lt_or_ge i listed.size with h' | h'
          · simp [h'] at h0 hx; rw [h0] at hx; cases hx
          · simp [Array.getElem?_eq_none h'] at hx
      have h2 := wpOp_putIf hoj (hfree j oj hoj hji hjun hnot) (fun cs b => hsel i oi cs b hi) (fun cs b => hsel j oj cs b hoj) hQ hy h1
      have hfree' : ∀ k ok, ops[k]? = some ok → k ≠ i → (listed.setIfInBounds j true).getD k true = false →
          (∀ e ∈ ok.after, Region.binds .any e = true → e.on ≠ i) → oi.apart ops ok = true := fun k ok hk hki hun hno => by
        refine hfree k ok hk hki ?_ hno
        by_cases hjk : j = k
        · subst hjk; exact hjun
        · rw [getD_set_ne true hjk] at hun; exact hun
      refine wpOp_mono (fun a' w' h3 => ?_) h2
      obtain ⟨hy', hchk, hrest⟩ := h3
      have hS' : s w' := by
        split at hchk
        · simp only [upholds, hnanc] at hchk; exact hchk.1
        · rw [hchk]; exact hS
      refine ⟨?_, ih (listed.setIfInBounds j true) C a' w' (by simpa using hsz) (hcl.set hj) hfree' (ready_mono hr (Ne.symm hji)) hy' hS' ?_⟩
      · split at hchk
        · rename_i hw; rw [if_pos hw]; exact upholds_tail hchk
        · rename_i hw; rw [if_neg hw]; exact hchk
      · rw [Array.setIfInBounds_comm _ _ hji]
        exact hrest
end

/-- the checks, ahead of what follows -/
def chkK (A : List Nat) (C : Chk) (w : World) (K : Prop) : Prop :=
  match C with
  | [] => K
  | (i, s) :: r => match memN A i with | true => chkK A r w K | false => s w ∧ chkK A r w K
theorem chkK_out : ∀ {A : List Nat} {C : Chk} {w : World} {K : Prop}, chkK A C w K → upholds A C w ∧ K
  | A, [], w, K, h => ⟨trivial, h⟩
  | A, (i, s) :: r, w, K, h => by
    simp only [chkK] at h
    simp only [upholds]
    split at h
    · exact chkK_out h
    · have := chkK_out h.2; exact ⟨⟨h.1, this.1⟩, this.2⟩
/-- the first of these that only reads -/
def firstR (G : Tab) (ops : List Oper) : List Nat → Option Nat
  | [] => none
  | i :: r => match isW G ops i with | false => some i | true => firstR G ops r
def allOf : List Nat → (Nat → Prop) → Prop
  | [], _ => True
  | [i], p => p i
  | i :: r, p => p i ∧ allOf r p
theorem allOf_mem : ∀ {l : List Nat} {p : Nat → Prop}, allOf l p → ∀ i ∈ l, p i
  | [], _, _, i, hi => by cases hi
  | [j], _, h, i, hi => by simp at hi; subst hi; exact h
  | j :: k :: r, p, h, i, hi => by
    rcases List.mem_cons.1 hi with rfl | hi
    · exact h.1
    · exact allOf_mem (l := k :: r) h.2 i hi
theorem firstR_some {ops : List Oper} : ∀ {l : List Nat} {i : Nat}, firstR G ops l = some i → i ∈ l ∧ isW G ops i = false
  | [], i, h => by cases h
  | j :: r, i, h => by
    simp only [firstR] at h
    split at h
    · rename_i hj; injection h with h; subst h; exact ⟨by simp, hj⟩
    · have := firstR_some h; exact ⟨by simp [this.1], this.2⟩
theorem firstR_none {ops : List Oper} : ∀ {l : List Nat}, firstR G ops l = none → ∀ i ∈ l, isW G ops i = true
  | [], _, i, hi => by cases hi
  | j :: r, h, i, hi => by
    simp only [firstR] at h
    split at h
    · cases h
    · rename_i hj
      rcases List.mem_cons.1 hi with rfl | hi
      · exact hj
      · exact firstR_none h i hi

def addChk (i : Nat) (s : Option (World → Prop)) (C : Chk) : Chk := match s with | none => C | some s => (i, s) :: C

/-- may it come up: is all that it waits for done? -/
def okE (done : List Nat) : List Edge → Bool
  | [] => true
  | e :: r => match bindsB e with
    | true => match memN done e.on with | true => okE done r | false => false
    | false => okE done r
abbrev Todo := List (Nat × Oper)
/-- the first that only reads and may come up; what is left without it -/
def takeR (G : Tab) (done : List Nat) : Todo → Option ((Nat × Oper) × Todo)
  | [] => none
  | (i, o) :: r => match isR G o.op with
    | true => match okE done o.after.toList with
      | true => some ((i, o), r)
      | false => match takeR G done r with | some (x, r') => some (x, (i, o) :: r') | none => none
    | false => match takeR G done r with | some (x, r') => some (x, (i, o) :: r') | none => none
def readyW (done : List Nat) : Todo → List (Nat × Oper)
  | [] => []
  | (i, o) :: r => match okE done o.after.toList with | true => (i, o) :: readyW done r | false => readyW done r
def drop1 (i : Nat) : Todo → Todo
  | [] => []
  | (j, o) :: r => match Nat.beq i j with | true => r | false => (j, o) :: drop1 i r
def allOf2 : List (Nat × Oper) → (Nat × Oper → Prop) → Prop
  | [], _ => True
  | [i], p => p i
  | i :: r, p => p i ∧ allOf2 r p
theorem allOf2_mem : ∀ {l : List (Nat × Oper)} {p : Nat × Oper → Prop}, allOf2 l p → ∀ i ∈ l, p i
  | [], _, _, i, hi => by cases hi
  | [j], _, h, i, hi => by simp at hi; subst hi; exact h
  | j :: k :: r, p, h, i, hi => by
    rcases List.mem_cons.1 hi with rfl | hi
    · exact h.1
    · exact allOf2_mem (l := k :: r) h.2 i hi
/-- of any two operations one waits for the other, or they are apart -/
def apart2 (ops : Array Oper) (i : Nat) (x : Oper) : Todo → Bool
  | [] => true
  | (j, y) :: r => match Nat.beq i j with
    | true => apart2 ops i x r
    | false => match waitsK i y.after.toList with
      | true => apart2 ops i x r
      | false => match waitsK j x.after.toList with
        | true => apart2 ops i x r
        | false => match x.apart ops y with | true => apart2 ops i x r | false => false
def allApart (ops : Array Oper) (all : Todo) : Todo → Bool
  | [] => true
  | (i, x) :: r => match apart2 ops i x all with | true => allApart ops all r | false => false
def num : Nat → List Oper → Todo
  | _, [] => []
  | n, o :: r => (n, o) :: num (n + 1) r

def opsD (P : Program) (G : Tab) (nt : Nat) (ops : List Oper) : Nat → Todo → List Nat → Chk → Env → World → (Env → World → Prop) → Prop
  | 0, todo, _, _, e, w, N => match todo with | [] => N e w | _ :: _ => False
  | fuel + 1, todo, done, C, e, w, N =>
    match takeR G done todo with
    | some ((i, o), r) => opG ops e o
        (fun e => rd P G e o w fun v s => force (put nt e o.dst v) fun e => opsD P G nt ops fuel r (i :: done) (addChk i s C) e w N)
        (fun e => force (put nt e o.dst undef) fun e => opsD P G nt ops fuel r (i :: done) C e w N)
    | none => match todo with
      | [] => N e w
      | _ :: _ => match readyW done todo with
        | [] => False
        | x :: xs => allOf2 (x :: xs) fun (j, o) => opG ops e o
          (fun e => wo P G e o w fun v w' => chkK (anc ops j) C w' (force (put nt e o.dst v) fun e => opsD P G nt ops fuel (drop1 j todo) (j :: done) C e w' N))
          (fun e => chkK (anc ops j) C w (force (put nt e o.dst undef) fun e => opsD P G nt ops fuel (drop1 j todo) (j :: done) C e w N))

theorem anyC_addChk {ops : Array Oper} {Q : Exit → Act → World → Prop} {i : Nat} {s : Option (World → Prop)} :
    ∀ {fuel : Nat} {listed : Array Bool} {C : Chk} {a : Act} {w : World}, anyC P G ops Q fuel listed (addChk i s C) a w → anyC P G ops Q fuel listed ((i, held s) :: C) a w := by
  cases s with
  | some s => exact fun h => h
  | none =>
    intro fuel
    induction fuel with
    | zero => exact fun h => h
    | succ fuel ih =>
      intro listed C a w h
      refine ⟨h.1, fun j hj => wpOp_mono (fun a' w' h' => ⟨?_, ih h'.2⟩) (h.2 j hj)⟩
      have := h'.1
      split at this
      · rename_i hw; rw [if_pos hw]
        simp only [upholds]
        split
        · exact this
        · exact ⟨trivial, this⟩
      · rename_i hw; rw [if_neg hw]; exact this

/-- what the lists say of the array of what is listed -/
structure Lists (ops : Array Oper) (todo : Todo) (done : List Nat) (listed : Array Bool) : Prop where
  size : listed.size = ops.size
  isOp : ∀ x ∈ todo, ops[x.1]? = some x.2
  open_ : ∀ x ∈ todo, listed.getD x.1 true = false
  all : ∀ i o, ops[i]? = some o → listed.getD i true = false → (i, o) ∈ todo
  done_ : ∀ i, memN done i = true → listed.getD i false = true
  nodup : (todo.map (·.1)).Nodup

theorem okE_spec {done : List Nat} {listed : Array Bool} (hd : ∀ i, memN done i = true → listed.getD i false = true) : ∀ {l : List Edge}, okE done l = true → ∀ e ∈ l, bindsB e = true → listed.getD e.on false = true
  | [], _, e, he, _ => by cases he
  | x :: r, h, e, he, hb => by
    simp only [okE] at h
    split at h
    · split at h
      · rename_i hm
        rcases List.mem_cons.1 he with rfl | he
        · exact hd _ hm
        · exact okE_spec hd h e he hb
      · cases h
    · rename_i hx
      rcases List.mem_cons.1 he with rfl | he
      · rw [hx] at hb; cases hb
      · exact okE_spec hd h e he hb

def Took (G : Tab) (done : List Nat) (todo : Todo) (x : Nat × Oper) (r : Todo) : Prop :=
    x ∈ todo ∧ isR G x.2.op = true ∧ okE done x.2.after.toList = true ∧ (∀ y, y ∈ r → y ∈ todo) ∧ (∀ y ∈ todo, y.1 ≠ x.1 → y ∈ r) ∧ ((todo.map (·.1)).Nodup → (r.map (·.1)).Nodup ∧ ∀ y ∈ r, y.1 ≠ x.1)
theorem takeR_some {done : List Nat} : ∀ {todo : Todo} {x : Nat × Oper} {r : Todo}, takeR G done todo = some (x, r) → Took G done todo x r
  | [], x, r, h => by cases h
  | (i, o) :: t, x, r, h => by
    have rec_ : ∀ r', takeR G done t = some (x, r') → r = (i, o) :: r' → Took G done ((i, o) :: t) x r := fun r' h1 h2 => by
      obtain ⟨a1, a2, a3, a4, a5, a6⟩ := takeR_some h1
      subst h2
      refine ⟨?_, a2, a3, ?_, ?_, ?_⟩
      · exact List.mem_cons_of_mem _ a1
      · intro y hy
        rcases List.mem_cons.1 hy with rfl | hy
        · simp
        · exact List.mem_cons_of_mem _ (a4 y hy)
      · intro y hy hne
        rcases List.mem_cons.1 hy with rfl | hy
        · simp
        · exact List.mem_cons_of_mem _ (a5 y hy hne)
      · intro hn
        simp only [List.map_cons, List.nodup_cons] at hn ⊢
        obtain ⟨b1, b2⟩ := a6 hn.2
        refine ⟨⟨fun hm => hn.1 ?_, b1⟩, fun y hy => ?_⟩
        · obtain ⟨z, hz, he⟩ := List.mem_map.1 hm
          exact List.mem_map.2 ⟨z, a4 z hz, he⟩
        · rcases List.mem_cons.1 hy with rfl | hy
          · intro he; exact hn.1 (List.mem_map.2 ⟨x, a1, he.symm⟩)
          · exact b2 y hy
    simp only [takeR] at h
    split at h
    · rename_i hr
      split at h
      · rename_i hok
        injection h with h; injection h with h1 h2; subst h1 h2
        refine ⟨by simp, hr, hok, fun y hy => by simp [hy], ?_, ?_⟩
        · intro y hy hne
          rcases List.mem_cons.1 hy with rfl | hy
          · exact absurd rfl hne
          · exact hy
        · intro hn
          simp only [List.map_cons, List.nodup_cons] at hn
          exact ⟨hn.2, fun y hy he => hn.1 (List.mem_map.2 ⟨y, hy, he⟩)⟩
      · split at h
        · rename_i x' r' h1; injection h with h; injection h with h2 h3; subst h2; exact rec_ r' h1 h3.symm
        · cases h
    · split at h
      · rename_i x' r' h1; injection h with h; injection h with h2 h3; subst h2; exact rec_ r' h1 h3.symm
      · cases h
theorem takeR_none {done : List Nat} : ∀ {todo : Todo}, takeR G done todo = none → ∀ x ∈ todo, okE done x.2.after.toList = true → isR G x.2.op = false
  | [], _, x, hx, _ => by cases hx
  | (i, o) :: t, h, x, hx, hok => by
    simp only [takeR] at h
    split at h
    · rename_i hr
      split at h
      · cases h
      · rename_i hno
        split at h
        · cases h
        · rename_i h1
          rcases List.mem_cons.1 hx with rfl | hx
          · rw [hok] at hno; cases hno
          · exact takeR_none h1 x hx hok
    · rename_i hr
      split at h
      · cases h
      · rename_i h1
        rcases List.mem_cons.1 hx with rfl | hx
        · exact hr
        · exact takeR_none h1 x hx hok
theorem readyW_mem {done : List Nat} : ∀ {todo : Todo} {x : Nat × Oper}, x ∈ readyW done todo ↔ x ∈ todo ∧ okE done x.2.after.toList = true
  | [], x => by simp [readyW]
  | (i, o) :: t, x => by
    simp only [readyW]
    split
    · rename_i h
      simp only [List.mem_cons, readyW_mem]
      constructor
      · rintro (rfl | ⟨h1, h2⟩)
        · exact ⟨.inl rfl, h⟩
        · exact ⟨.inr h1, h2⟩
      · rintro ⟨rfl | h1, h2⟩
        · exact .inl rfl
        · exact .inr ⟨h1, h2⟩
    · rename_i h
      simp only [List.mem_cons, readyW_mem]
      constructor
      · rintro ⟨h1, h2⟩; exact ⟨.inr h1, h2⟩
      · rintro ⟨rfl | h1, h2⟩
        · simp only at h2; rw [h2] at h; cases h
        · exact ⟨h1, h2⟩
theorem drop1_mem {i : Nat} : ∀ {todo : Todo}, (todo.map (·.1)).Nodup → (∀ y, y ∈ drop1 i todo ↔ y ∈ todo ∧ y.1 ≠ i) ∧ ((drop1 i todo).map (·.1)).Nodup
  | [], _ => by simp [drop1]
  | (j, o) :: t, hn => by
    simp only [List.map_cons, List.nodup_cons] at hn
    obtain ⟨h1, h2⟩ := drop1_mem (i := i) hn.2
    simp only [drop1]
    split
    · rename_i hk
      have : i = j := Nat.eq_of_beq_eq_true hk
      subst this
      refine ⟨fun y => ⟨fun hy => ⟨by simp [hy], fun he => hn.1 (List.mem_map.2 ⟨y, hy, he⟩)⟩, fun ⟨hy, hne⟩ => ?_⟩, hn.2⟩
      rcases List.mem_cons.1 hy with rfl | hy
      · exact absurd rfl hne
      · exact hy
    · rename_i hk
      have hne : i ≠ j := Nat.ne_of_beq_eq_false hk
      refine ⟨fun y => ?_, ?_⟩
      · simp only [List.mem_cons, h1]
        constructor
        · rintro (rfl | ⟨a, b⟩)
          · exact ⟨.inl rfl, Ne.symm hne⟩
          · exact ⟨.inr a, b⟩
        · rintro ⟨rfl | a, b⟩
          · exact .inl rfl
          · exact .inr ⟨a, b⟩
      · simp only [List.map_cons, List.nodup_cons]
        exact ⟨fun hm => by obtain ⟨z, hz, he⟩ := List.mem_map.1 hm; exact hn.1 (List.mem_map.2 ⟨z, ((h1 z).1 hz).1, he⟩), h2⟩

section
variable {ops : Array Oper}
theorem Lists.step {todo r : Todo} {done : List Nat} {listed : Array Bool} {i : Nat} {o : Oper} (h : Lists ops todo done listed) (hi : (i, o) ∈ todo)
    (h1 : ∀ y, y ∈ r → y ∈ todo ∧ y.1 ≠ i) (h2 : ∀ y ∈ todo, y.1 ≠ i → y ∈ r) (h3 : (r.map (·.1)).Nodup) : Lists ops r (i :: done) (listed.setIfInBounds i true) := by
  have hio := h.isOp _ hi
  have hlt : i < listed.size := by rw [h.size]; exact (Array.getElem?_eq_some_iff.1 hio).1
  refine ⟨by simpa using h.size, fun x hx => h.isOp x (h1 x hx).1, fun x hx => ?_, fun j oj hj hun => ?_, fun j hj => ?_, h3⟩
  · rw [getD_set_ne true (Ne.symm (h1 x hx).2)]; exact h.open_ x (h1 x hx).1
  · by_cases hji : j = i
    · subst hji
      rw [Array.getD_eq_getD_getElem?] at hun
      simp [hlt] at hun
    · rw [getD_set_ne true (Ne.symm hji)] at hun
      exact h2 _ (h.all j oj hj hun) hji
  · simp only [memN] at hj
    split at hj
    · rename_i hk
      have : i = j := Nat.eq_of_beq_eq_true hk
      subst this
      rw [Array.getD_eq_getD_getElem?]; simp [hlt]
    · exact getD_set_true (h.done_ j hj)
theorem Lists.ready {todo : Todo} {done : List Nat} {listed : Array Bool} {i : Nat} {o : Oper} (h : Lists ops todo done listed) (hi : (i, o) ∈ todo) (hok : okE done o.after.toList = true) :
    i ∈ Region.ready .any ops listed :=
  mem_ready.2 ⟨h.open_ _ hi, o, h.isOp _ hi, fun e he hb => okE_spec h.done_ hok e (by simpa using he) hb⟩
/-- what is done is what is listed -/
theorem Lists.ready_ok {todo : Todo} {done : List Nat} {listed : Array Bool} {i : Nat} (h : Lists ops todo done listed) (hdl : ∀ k, listed.getD k false = true → memN done k = true) (hi : i ∈ Region.ready .any ops listed) :
    ∃ o, (i, o) ∈ todo ∧ okE done o.after.toList = true := by
  obtain ⟨hun, o, ho, hall⟩ := mem_ready.1 hi
  refine ⟨o, h.all i o ho hun, ?_⟩
  have go : ∀ (l : List Edge), (∀ e ∈ l, bindsB e = true → listed.getD e.on false = true) → okE done l = true := by
    intro l
    induction l with
    | nil => intro _; rfl
    | cons e r ih =>
      intro hl
      simp only [okE]
      split
      · rename_i hb
        have := hdl _ (hl e (by simp) hb)
        rw [this]
        exact ih fun e' he' => hl e' (by simp [he'])
      · exact ih fun e' he' => hl e' (by simp [he'])
  exact go _ fun e he hb => hall e (by simpa using he) hb
end
theorem apart2_spec {ops : Array Oper} {i : Nat} {x : Oper} : ∀ {l : Todo}, apart2 ops i x l = true → ∀ y ∈ l, y.1 ≠ i → (¬ ∃ e ∈ y.2.after.toList, bindsB e = true ∧ e.on = i) → (¬ ∃ e ∈ x.after.toList, bindsB e = true ∧ e.on = y.1) → x.apart ops y.2 = true
  | [], _, y, hy, _, _, _ => by cases hy
  | (j, z) :: r, h, y, hy, hne, h1, h2 => by
    simp only [apart2] at h
    split at h
    · rename_i hk
      have : i = j := Nat.eq_of_beq_eq_true hk
      subst this
      rcases List.mem_cons.1 hy with rfl | hy
      · exact absurd rfl hne
      · exact apart2_spec h y hy hne h1 h2
    · split at h
      · rename_i hw
        rcases List.mem_cons.1 hy with rfl | hy
        · exact absurd (waitsK_iff hw) h1
        · exact apart2_spec h y hy hne h1 h2
      · split at h
        · rename_i hw
          rcases List.mem_cons.1 hy with rfl | hy
          · exact absurd (waitsK_iff hw) h2
          · exact apart2_spec h y hy hne h1 h2
        · split at h
          · rename_i ha
            rcases List.mem_cons.1 hy with rfl | hy
            · exact ha
            · exact apart2_spec h y hy hne h1 h2
          · cases h
theorem allApart_spec {ops : Array Oper} {all : Todo} : ∀ {l : Todo}, allApart ops all l = true → ∀ x ∈ l, apart2 ops x.1 x.2 all = true
  | [], _, x, hx => by cases hx
  | (i, z) :: r, h, x, hx => by
    simp only [allApart] at h
    split at h
    · rename_i ha
      rcases List.mem_cons.1 hx with rfl | hx
      · exact ha
      · exact allApart_spec h x hx
    · cases h
theorem num_mem : ∀ {l : List Oper} {n : Nat} {x : Nat × Oper}, x ∈ num n l ↔ n ≤ x.1 ∧ l[x.1 - n]? = some x.2
  | [], n, x => by simp [num]
  | o :: r, n, x => by
    obtain ⟨i, y⟩ := x
    simp only [num, List.mem_cons, num_mem, Prod.mk.injEq]
    constructor
    · rintro (⟨rfl, rfl⟩ | ⟨h1, h2⟩)
      · simp
      · refine ⟨by omega, ?_⟩
        have : i - n = (i - (n + 1)) + 1 := by omega
        rw [this]; simpa using h2
    · rintro ⟨h1, h2⟩
      by_cases h : i = n
      · subst h; left; simp at h2; exact ⟨rfl, h2.symm⟩
      · right
        refine ⟨by omega, ?_⟩
        have : i - n = (i - (n + 1)) + 1 := by omega
        rw [this] at h2; simpa using h2
theorem num_nodup : ∀ {l : List Oper} {n : Nat}, ((num n l).map (·.1)).Nodup
  | [], n => by simp [num]
  | o :: r, n => by
    simp only [num, List.map_cons, List.nodup_cons]
    refine ⟨fun h => ?_, num_nodup⟩
    obtain ⟨x, hx, he⟩ := List.mem_map.1 h
    have := (num_mem.1 hx).1
    omega
theorem Lists.start (ops : Array Oper) : Lists ops (num 0 ops.toList) [] (Array.replicate ops.size false) := by
  refine ⟨by simp, fun x hx => ?_, fun x hx => ?_, fun i o ho _ => ?_, fun i hi => (by cases hi), num_nodup⟩
  · have := (num_mem.1 hx).2; simpa using this
  · have h := (num_mem.1 hx).2
    have hlt : x.1 < ops.size := by
      have : ops[x.1]? = some x.2 := by simpa using h
      exact (Array.getElem?_eq_some_iff.1 this).1
    rw [Array.getD_eq_getD_getElem?]; simp [hlt]
  · exact num_mem.2 ⟨Nat.zero_le _, by simpa using ho⟩

theorem Closed.start (ops : Array Oper) : Closed ops.toList (Array.replicate ops.size false) := by
  intro k o _ hk
  have : (Array.replicate ops.size false).getD k false = false := by
    simp only [Array.getD_eq_getD_getElem?, Array.getElem?_replicate]; split <;> rfl
  rw [this] at hk
  cases hk
end Go.Sh

namespace Go.Sh
set_option linter.unusedVariables false
variable {P : Program} {G : Tab}

/-! ## code -/
/-- slots that a piece of code writes, and the type of the first operation that does -/
def dstsO : List Oper → List (Nat × TypeId) → List (Nat × TypeId)
  | [], acc => acc
  | o :: r, acc => match o.dst with
    | none => dstsO r acc
    | some d => dstsO r ((d, o.type) :: acc)
def dsts : Code → List (Nat × TypeId) → List (Nat × TypeId)
  | .region _ ops _, acc => dstsO ops.toList acc
  | .seq a b, acc => dsts a (dsts b acc)
  | .cond _ a b, acc => dsts a (dsts b acc)
  | .block _ c, acc => dsts c acc
  | .loop c, acc => dsts c acc
  | .scope c, acc => dsts c acc
  | _, acc => acc
def typeOf : List (Nat × TypeId) → Nat → Option TypeId
  | [], _ => none
  | (d, t) :: r, n => match Nat.beq d n with | true => some t | false => typeOf r n
/-- the environment without the slots of these -/
def without (D : List (Nat × TypeId)) : Env → Env
  | [] => []
  | (k, v) :: r => match typeOf D k with | some _ => without D r | none => (k, v) :: without D r
/-- the slots of the environment among these, once each, with their types -/
def carried (D : List (Nat × TypeId)) : Env → List Nat → List (Nat × TypeId)
  | [], _ => []
  | (k, _) :: r, seen => match memN seen k with
    | true => carried D r seen
    | false => match typeOf D k with
      | some t => (k, t) :: carried D r (k :: seen)
      | none => carried D r (k :: seen)
def withVals : List (Nat × TypeId) → List Value → Env → Env
  | (k, _) :: r, v :: vs, e => (k, v) :: withVals r vs e
  | _, _, e => e
def readL (e : Env) : List (Nat × TypeId) → Option (List Value)
  | [] => some []
  | (k, _) :: r => match get e k, readL e r with
    | some v, some l => some (v :: l)
    | _, _ => none

/-- how many ways a piece of code ends by itself, and by an exit -/
def exits (id : Nat) : Code → Nat
  | .seq a b => exits id a + exits id b
  | .cond _ a b => exits id a + exits id b
  | .block _ c => exits id c
  | .loop c => exits id c
  | .scope c => exits id c
  | .exit i => match Nat.beq i id with | true => 1 | false => 0
  | _ => 0
def ends : Code → Nat
  | .skip => 1
  | .region .. => 1
  | .seq a b => match ends a with | 0 => 0 | _ + 1 => ends b
  | .cond _ a b => ends a + ends b
  | .block id c => ends c + exits id c
  | .loop _ => 0
  | .scope c => ends c
  | .label _ => 1
  | _ => 0
def hasCond : Code → Bool
  | .cond .. => true
  | .seq a b => match hasCond a with | true => true | false => hasCond b
  | .block _ c => hasCond c
  | .scope c => hasCond c
  | .loop _ => true
  | _ => false

/-- where ways meet again: what is known there -/
def Join (R : List Value → World → Prop) (B : (List Value → World → Prop) → Prop) : Prop := ∃ J : List Value → World → Prop, (∀ s w, J s w → R s w) ∧ B J
theorem Join.triv {R : List Value → World → Prop} {B : (List Value → World → Prop) → Prop} (h : B R) : Join R B := ⟨R, fun _ _ h => h, h⟩
theorem Join.at {R : List Value → World → Prop} {B : (List Value → World → Prop) → Prop} (J : List Value → World → Prop) (h : B J) (hR : ∀ s w, J s w → R s w) : Join R B := ⟨J, hR, h⟩
/-- a loop: an invariant and a measure -/
def Loop (s0 : List Value) (w0 : World) (B : (List Value → World → Prop) → List Value → World → Prop) : Prop :=
  ∃ (I : List Value → World → Prop) (μ : List Value → World → Nat), I s0 w0 ∧ ∀ s w, I s w → B (fun s' w' => I s' w' ∧ μ s' w' < μ s w) s w
theorem Loop.by {s0 : List Value} {w0 : World} {B : (List Value → World → Prop) → List Value → World → Prop} (I : List Value → World → Prop) (μ : List Value → World → Nat)
    (h0 : I s0 w0) (h : ∀ s w, I s w → B (fun s' w' => I s' w' ∧ μ s' w' < μ s w) s w) : Loop s0 w0 B := ⟨I, μ, h0, h⟩

/-- unpack the carried values by their types -/
def unpack (G : Tab) (L : List (Nat × TypeId)) (s : List Value) (K : List Value → Prop) : Prop := AsAll (L.map fun (_, t) => shT G 12 t) s K

def T (P : Program) (G : Tab) (nt : Nat) : Code → Env → World → (Env → World → Prop) → (Nat → Env → World → Prop) → (Env → World → Prop) → Prop
  | .skip, e, w, N, _, _ => N e w
  | .label _, e, w, N, _, _ => N e w
  | .region _ ops false, e, w, N, _, _ => opsT P G nt ops.toList ops.toList e w N
  | .region _ ops true, e, w, N, _, _ => match Region.noSelect ops, allApart ops (num 0 ops.toList) (num 0 ops.toList) with
    | true, true => opsD P G nt ops.toList ops.size (num 0 ops.toList) [] [] e w.drew N
    | _, _ => False
  | .seq a b, e, w, N, X, R => match Nat.ble (ends a) 1, Nat.ble (ends b) 0 with
    | false, false =>
      let D := dsts a []
      let L := carried D e []
      let e' := without D e
      Join (fun s w' => unpack G L s fun s => T P G nt b (withVals L s e') w' N X R)
        fun J => T P G nt a e w (fun f w' => match readL f L with | some s => J s w' | none => False) X R
    | _, _ => T P G nt a e w (fun e w => T P G nt b e w N X R) X R
  | .cond c a b, e, w, N, X, R => match ev e c with
    | some (.bool t) => BIf t (T P G nt a e w N X R) (T P G nt b e w N X R)
    | _ => False
  | .block id c, e, w, N, X, R => T P G nt c e w N (fun i e w => match Nat.beq i id with | true => N e w | false => X i e w) R
  | .loop c, e, w, _, X, R =>
    let D := dsts c []
    let L := carried D e []
    let e' := without D e
    match readL e L with
    | some s0 => Loop s0 w fun J s w => unpack G L s fun s => T P G nt c (withVals L s e') w (fun f w' => match readL f L with | some s => J s w' | none => False) X R
    | none => False
  | .scope c, e, w, N, X, R => T P G nt c e w N X R
  | .exit id, e, w, _, X, _ => X id e w
  | .ret, e, w, _, _, R => R e w
  | _, _, _, _, _, _ => False

/-! ### it is sound -/
theorem get_without {D : List (Nat × TypeId)} : ∀ {e : Env} {n : Nat} {v : Value}, get (without D e) n = some v → get e n = some v ∧ typeOf D n = none
  | [], n, v, h => by cases h
  | (k, u) :: r, n, v, h => by
    simp only [without] at h
    split at h
    · rename_i t ht
      have := get_without h
      refine ⟨?_, this.2⟩
      simp only [get]
      cases hk : Nat.beq k n with
      | true => have e : k = n := Nat.eq_of_beq_eq_true hk; rw [e, this.2] at ht; cases ht
      | false => exact this.1
    · rename_i ht
      simp only [get] at h ⊢
      cases hk : Nat.beq k n with
      | true => rw [hk] at h; have e : k = n := Nat.eq_of_beq_eq_true hk; rw [e] at ht; exact ⟨h, ht⟩
      | false => rw [hk] at h; exact get_without h


/-- slots outside D read as they did -/
def Ext (D : Nat → Prop) (e f : Env) : Prop := ∀ n v, ¬ D n → get e n = some v → get f n = some v
theorem Ext.refl (D : Nat → Prop) (e : Env) : Ext D e e := fun _ _ _ h => h
theorem Ext.trans {D : Nat → Prop} {e f g : Env} (h : Ext D e f) (k : Ext D f g) : Ext D e g := fun n v hn he => k n v hn (h n v hn he)
theorem Ext.mono {D D' : Nat → Prop} {e f : Env} (h : Ext D e f) (hd : ∀ n, D n → D' n) : Ext D' e f := fun n v hn he => h n v (fun hd' => hn (hd n hd')) he
theorem Ext.put {D : Nat → Prop} {e f : Env} {nt : Nat} {d : Option Nat} {v : Value} (h : Ext D e f) (hd : ∀ n, d = some n → D n) : Ext D e (put nt f d v) := by
  intro n u hn he
  have h0 := h n u hn he
  cases d with
  | none => exact h0
  | some d =>
    simp only [Sh.put]
    split
    · simp only [get]
      split
      · rename_i hk; have : d = n := Nat.eq_of_beq_eq_true hk; subst this; exact absurd (hd d rfl) hn
      · exact h0
    · exact h0
theorem Ext.know {D : Nat → Prop} {e f : Env} {d : Nat} {v : Value} (h : Ext D e f) (hv : get f d = some v) : Ext D e ((d, v) :: f) := by
  intro n u hn he
  have h0 := h n u hn he
  simp only [get]
  split
  · rename_i hk; have : d = n := Nat.eq_of_beq_eq_true hk; subst this; rw [← h0, hv]
  · exact h0

theorem opG_ext {nt : Nat} {ops : Array Oper} {e : Env} {o : Oper} {yes no : Env → Prop} {a : Act} (ha : Ok nt e a) (h : opG ops.toList e o yes no) :
    ∃ e', Ok nt e' a ∧ (∀ D, Ext D e e') ∧ ((Region.wanted o (yielded ops a.tmps) = true ∧ yes e') ∨ (Region.wanted o (yielded ops a.tmps) = false ∧ no e')) := by
  unfold opG at h
  split at h
  · rename_i hg; exact ⟨e, ha, fun D => .refl D e, .inl ⟨by simp [Region.wanted, hg], h⟩⟩
  · rename_i j want hg
    split at h
    · exact h.elim
    rename_i d hd
    have hd' : (ops[j]?).bind (·.dst) = some d := by
      unfold dstOf at hd
      split at hd
      · rename_i o' ho; have : ops[j]? = some o' := by simpa using ho
        simp [this, hd]
      · cases hd
    split at h
    · rename_i b hb
      have hv := ha.get d _ hb
      have hy : yielded ops a.tmps j = some b := by unfold yielded; rw [hd']; simp [hv]
      split at h
      · rcases h.elim with ⟨rfl, h⟩ | ⟨rfl, h⟩
        · exact ⟨_, ha.know hv, fun D => (Ext.refl D e).know hb, .inl ⟨by simp [Region.wanted, hg, hy], h⟩⟩
        · exact ⟨_, ha.know hv, fun D => (Ext.refl D e).know hb, .inr ⟨by simp [Region.wanted, hg, hy], h⟩⟩
      · rcases h.elim with ⟨rfl, h⟩ | ⟨rfl, h⟩
        · exact ⟨_, ha.know hv, fun D => (Ext.refl D e).know hb, .inr ⟨by simp [Region.wanted, hg, hy], h⟩⟩
        · exact ⟨_, ha.know hv, fun D => (Ext.refl D e).know hb, .inl ⟨by simp [Region.wanted, hg, hy], h⟩⟩
    · rename_i l hb
      have hv := ha.get d _ hb
      have hy : yielded ops a.tmps j = none := by unfold yielded; rw [hd']; simp [hv]
      exact ⟨e, ha, fun D => .refl D e, .inr ⟨by simp [Region.wanted, hg, hy], h⟩⟩
    · exact h.elim

theorem opsT_ext (hG : G.Ok P) {nt : Nat} {ops : Array Oper} {N : Env → World → Prop} {X : Nat → Env → World → Prop} {R : Env → World → Prop} {D : Nat → Prop} {e0 : Env} :
    ∀ {l : List Oper} {e : Env} {w : World} {a : Act}, (∀ o ∈ l, ∀ n, o.dst = some n → D n) → Ext D e0 e →
    Ok nt e a → opsT P G nt ops.toList l e w N → wpList P ops (Post nt (fun f w => Ext D e0 f ∧ N f w) X R) l a w
  | [], e, w, a, _, hx, ha, h => ⟨e, ha, hx, h⟩
  | o :: r, e, w, a, hd, hx, ha, h => by
    obtain ⟨e', ha', hx', ⟨hw, h⟩ | ⟨hw, h⟩⟩ := opG_ext ha h
    · refine wpList_step fun K hK => ?_
      rw [if_pos hw]
      exact op1_ok hG ha' h _ _ fun v w' hv => hK _ _ (opsT_ext hG (fun o' ho' => hd o' (by simp [ho'])) ((hx.trans (hx' D)).put (hd o (by simp))) (ha'.put o.dst v) (by rwa [force_eq] at hv))
    · refine wpList_step fun K hK => ?_
      rw [hw]
      exact hK _ _ (opsT_ext hG (fun o' ho' => hd o' (by simp [ho'])) ((hx.trans (hx' D)).put (hd o (by simp))) (ha'.put o.dst undef) (by rwa [force_eq] at h))

theorem opsD_ext (hG : G.Ok P) {nt : Nat} {ops : Array Oper} {N : Env → World → Prop} {X : Nat → Env → World → Prop} {R : Env → World → Prop} {D : Nat → Prop} {e0 : Env} (hsel : Region.noSelect ops = true)
    (hd : ∀ o ∈ ops, ∀ n, o.dst = some n → D n) (hap : allApart ops (num 0 ops.toList) (num 0 ops.toList) = true) :
    ∀ {fuel : Nat} {todo : Todo} {done : List Nat} {listed : Array Bool} {C : Chk} {e : Env} {w : World} {a : Act}, Lists ops todo done listed → (∀ k, listed.getD k false = true → memN done k = true) →
      Closed ops.toList listed → Ext D e0 e → Ok nt e a → opsD P G nt ops.toList fuel todo done C e w N → anyC P G ops (Post nt (fun f w => Ext D e0 f ∧ N f w) X R) fuel listed C a w
  | 0, todo, done, listed, C, e, w, a, hl, hdl, hcl, hx, ha, h => by
    simp only [opsD] at h
    split at h
    · refine ⟨?_, e, ha, hx, h⟩
      cases hr : Region.ready .any ops listed with
      | nil => rfl
      | cons x r => obtain ⟨o, ho, _⟩ := hl.ready_ok hdl (i := x) (by rw [hr]; simp); cases ho
    · exact h.elim
  | fuel + 1, todo, done, listed, C, e, w, a, hl, hdl, hcl, hx, ha, h => by
    have hdl' : ∀ i k, (listed.setIfInBounds i true).getD k false = true → memN (i :: done) k = true := by
      intro i k hk
      simp only [memN]
      cases hb : Nat.beq i k with
      | true => rfl
      | false => rw [getD_set_ne false (Nat.ne_of_beq_eq_false hb)] at hk; exact hdl k hk
    simp only [opsD] at h
    split at h
    · rename_i i o r htk
      obtain ⟨hmem, hR, hok, h4, h5, h6⟩ := takeR_some htk
      obtain ⟨h7, h8⟩ := h6 hl.nodup
      have ho' := hl.isOp _ hmem
      simp only at ho' hR hok h5 h8
      have hW : isW G ops.toList i = false := by simp [isW, ho', hR]
      have hrd := hl.ready hmem hok
      have hdo := hd o (Array.mem_of_getElem? ho')
      have hstep := hl.step hmem (r := r) (fun y hy => ⟨h4 y hy, h8 y hy⟩) h5 h7
      have hfree : ∀ j oj, ops[j]? = some oj → j ≠ i → listed.getD j true = false → (∀ e ∈ oj.after, Region.binds .any e = true → e.on ≠ i) → o.apart ops oj = true := by
        intro j oj hj hne hun hno
        have hall := allApart_spec hap (i, o) (num_mem.2 ⟨Nat.zero_le _, by simpa using ho'⟩)
        refine apart2_spec hall (j, oj) (num_mem.2 ⟨Nat.zero_le _, by simpa using hj⟩) hne ?_ ?_
        · rintro ⟨e, he, hb, hk⟩; exact hno e (by simpa using he) hb hk
        · rintro ⟨e, he, hb, hk⟩
          have := okE_spec hl.done_ hok e he hb
          rw [hk] at this
          have hlt : j < listed.size := by rw [hl.size]; exact (Array.getElem?_eq_some_iff.1 hj).1
          simp only at this
          rw [Array.getD_eq_getD_getElem?] at this hun
          simp [hlt] at this hun
          rw [hun] at this; cases this
      obtain ⟨e', ha', hx', ⟨hw, h⟩ | ⟨hw, h⟩⟩ := opG_ext ha h
      · obtain ⟨v, s, hK, hs, hrun⟩ := rd_ok hG h
        rw [force_eq] at hK
        refine anyC_first ho' (Region.noSelect_spec hsel) (fun _ _ _ h => h.elim) hW fuel listed C a w hl.size hcl hfree hrd
          (.inl ⟨hw, fun w' hw' => hrun a w' ha' hw'⟩) hs ?_
        exact anyC_addChk (opsD_ext hG hsel hd hap hstep (hdl' i) (hcl.set hrd) ((hx.trans (hx' D)).put hdo) (ha'.put o.dst v) hK)
      · rw [force_eq] at h
        refine anyC_first (s := held none) ho' (Region.noSelect_spec hsel) (fun _ _ _ h => h.elim) hW fuel listed C a w hl.size hcl hfree hrd
          (.inr ⟨hw, rfl⟩) trivial ?_
        exact anyC_addChk (s := none) (opsD_ext hG hsel hd hap hstep (hdl' i) (hcl.set hrd) ((hx.trans (hx' D)).put hdo) (ha'.put o.dst undef) h)
    · rename_i hnone
      split at h
      · refine ⟨fun _ => ⟨e, ha, hx, h⟩, fun i hi => ?_⟩
        obtain ⟨o, ho, _⟩ := hl.ready_ok hdl hi; cases ho
      · rename_i t0 ts
        split at h
        · exact h.elim
        · rename_i x xs hrw
          refine ⟨fun h0 => ?_, fun j hj => ?_⟩
          · have hxm : x ∈ readyW done (t0 :: ts) := by rw [hrw]; simp
            obtain ⟨h1, h2⟩ := readyW_mem.1 hxm
            have := hl.ready (i := x.1) (o := x.2) h1 h2
            rw [h0] at this; cases this
          · obtain ⟨o, hom, hok⟩ := hl.ready_ok hdl hj
            have hjm : (j, o) ∈ x :: xs := by rw [← hrw]; exact readyW_mem.2 ⟨hom, hok⟩
            have h1 := allOf2_mem h (j, o) hjm
            have ho' := hl.isOp _ hom
            simp only at ho' h1
            have hRj := takeR_none hnone (j, o) hom hok
            have hWj : isW G ops.toList j = true := by simp [isW, ho', hRj]
            have hdo := hd o (Array.mem_of_getElem? ho')
            obtain ⟨d1, d2⟩ := drop1_mem (i := j) hl.nodup
            have hstep := hl.step hom (r := drop1 j (t0 :: ts)) (fun y hy => (d1 y).1 hy) (fun y hy hne => (d1 y).2 ⟨hy, hne⟩) d2
            obtain ⟨e', ha', hx', ⟨hw, h⟩ | ⟨hw, h⟩⟩ := opG_ext ha h1
            · unfold wpOp
              simp only [ho', hw, if_true]
              refine .inl (wo_ok hG ha' h _ _ fun v w' hv => ?_)
              rw [hWj]
              have hv := chkK_out hv
              rw [force_eq] at hv
              exact ⟨by simpa using hv.1, opsD_ext hG hsel hd hap hstep (hdl' j) (hcl.set hj) ((hx.trans (hx' D)).put hdo) (ha'.put o.dst v) hv.2⟩
            · unfold wpOp
              simp only [ho', hw]
              rw [hWj]
              have h := chkK_out h
              rw [force_eq] at h
              exact ⟨by simpa using h.1, opsD_ext hG hsel hd hap hstep (hdl' j) (hcl.set hj) ((hx.trans (hx' D)).put hdo) (ha'.put o.dst undef) h.2⟩

/-- the slots that a piece of code writes lie in D -/
def Wr : Code → (Nat → Prop) → Prop
  | .region _ ops _, D => ∀ o ∈ ops, ∀ n, o.dst = some n → D n
  | .seq a b, D => Wr a D ∧ Wr b D
  | .cond _ a b, D => Wr a D ∧ Wr b D
  | .block _ c, D => Wr c D
  | .loop c, D => Wr c D
  | .scope c, D => Wr c D
  | _, _ => True
def inL (D : List (Nat × TypeId)) (n : Nat) : Prop := ∃ t, (n, t) ∈ D
theorem typeOf_none {D : List (Nat × TypeId)} {n : Nat} : typeOf D n = none ↔ ¬ inL D n := by
  induction D with
  | nil => simp [typeOf, inL]
  | cons x r ih =>
    obtain ⟨d, t⟩ := x
    simp only [typeOf]
    cases hk : Nat.beq d n with
    | true => have : d = n := Nat.eq_of_beq_eq_true hk; subst this; simp [inL]
    | false =>
      have hne : d ≠ n := Nat.ne_of_beq_eq_false hk
      simp only [ih, inL, List.mem_cons, Prod.mk.injEq]
      constructor
      · rintro h ⟨t', (⟨rfl, _⟩ | hm)⟩
        · exact hne rfl
        · exact h ⟨t', hm⟩
      · rintro h ⟨t', hm⟩; exact h ⟨t', .inr hm⟩
theorem dstsO_mem : ∀ {l : List Oper} {acc : List (Nat × TypeId)}, (∀ x ∈ acc, x ∈ dstsO l acc) ∧ (∀ o ∈ l, ∀ n, o.dst = some n → inL (dstsO l acc) n)
  | [], acc => ⟨fun x hx => hx, fun o ho => by cases ho⟩
  | o :: r, acc => by
    simp only [dstsO]
    split
    · rename_i hd
      obtain ⟨h1, h2⟩ := dstsO_mem (l := r) (acc := acc)
      refine ⟨h1, fun o' ho' n hn => ?_⟩
      rcases List.mem_cons.1 ho' with rfl | ho'
      · rw [hd] at hn; cases hn
      · exact h2 o' ho' n hn
    · rename_i d hd
      obtain ⟨h1, h2⟩ := dstsO_mem (l := r) (acc := (d, o.type) :: acc)
      refine ⟨fun x hx => h1 x (by simp [hx]), fun o' ho' n hn => ?_⟩
      rcases List.mem_cons.1 ho' with rfl | ho'
      · rw [hd] at hn; injection hn with hn; subst hn; exact ⟨o'.type, h1 _ (List.mem_cons_self ..)⟩
      · exact h2 o' ho' n hn
theorem Wr.mono : ∀ {c : Code} {D D' : Nat → Prop}, (∀ n, D n → D' n) → Wr c D → Wr c D'
  | .region .., _, _, hd, h => fun o ho n hn => hd n (h o ho n hn)
  | .seq a b, _, _, hd, h => ⟨Wr.mono (c := a) hd h.1, Wr.mono (c := b) hd h.2⟩
  | .cond _ a b, _, _, hd, h => ⟨Wr.mono (c := a) hd h.1, Wr.mono (c := b) hd h.2⟩
  | .block _ c, _, _, hd, h => Wr.mono (c := c) hd h
  | .loop c, _, _, hd, h => Wr.mono (c := c) hd h
  | .scope c, _, _, hd, h => Wr.mono (c := c) hd h
  | .skip, _, _, _, _ | .rangeFunc .., _, _, _, _ | .exit _, _, _, _, _ | .label _, _, _, _, _ | .goto _, _, _, _, _ | .ret, _, _, _, _ | .refuse _, _, _, _, _ => trivial
theorem dsts_wr : ∀ (c : Code) (acc : List (Nat × TypeId)), (∀ x ∈ acc, x ∈ dsts c acc) ∧ Wr c (inL (dsts c acc))
  | .region _ ops _, acc => ⟨(dstsO_mem (l := ops.toList)).1, fun o ho n hn => (dstsO_mem (l := ops.toList)).2 o (by simpa using ho) n hn⟩
  | .seq a b, acc | .cond _ a b, acc => by
    obtain ⟨b1, b2⟩ := dsts_wr b acc
    obtain ⟨a1, a2⟩ := dsts_wr a (dsts b acc)
    exact ⟨fun x hx => a1 x (b1 x hx), a2, b2.mono fun n ⟨t, ht⟩ => ⟨t, a1 _ ht⟩⟩
  | .block _ c, acc | .loop c, acc | .scope c, acc => by
    obtain ⟨b1, b2⟩ := dsts_wr c acc
    exact ⟨b1, b2⟩
  | .skip, _ | .rangeFunc .., _ | .exit _, _ | .label _, _ | .goto _, _ | .ret, _ | .refuse _, _ => ⟨fun x hx => hx, trivial⟩

theorem dstsO_sub : ∀ (l : List Oper) (acc acc' : List (Nat × TypeId)), (∀ p ∈ acc, p ∈ acc') → ∀ p ∈ dstsO l acc, p ∈ dstsO l acc'
  | [], acc, acc', hs, p, hp => hs p hp
  | o :: r, acc, acc', hs, p, hp => by
    simp only [dstsO] at hp ⊢
    split at hp
    · exact dstsO_sub r _ _ hs p hp
    · refine dstsO_sub r _ _ (fun q hq => ?_) p hp
      rcases List.mem_cons.1 hq with rfl | hq
      · simp
      · simp [hs q hq]
theorem dsts_subL : ∀ (c : Code) (acc acc' : List (Nat × TypeId)), (∀ p ∈ acc, p ∈ acc') → ∀ p ∈ dsts c acc, p ∈ dsts c acc'
  | .region _ ops _, acc, acc', hs, p, hp => dstsO_sub _ _ _ hs p hp
  | .seq a b, acc, acc', hs, p, hp | .cond _ a b, acc, acc', hs, p, hp => dsts_subL a _ _ (dsts_subL b _ _ hs) p hp
  | .block _ c, acc, acc', hs, p, hp | .loop c, acc, acc', hs, p, hp | .scope c, acc, acc', hs, p, hp => dsts_subL c _ _ hs p hp
  | .skip, _, _, hs, p, hp | .rangeFunc .., _, _, hs, p, hp | .exit _, _, _, hs, p, hp | .label _, _, _, hs, p, hp | .goto _, _, _, hs, p, hp | .ret, _, _, hs, p, hp
  | .refuse _, _, _, hs, p, hp => hs p hp
theorem dsts_sub (c : Code) (acc : List (Nat × TypeId)) (n : Nat) (h : inL (dsts c []) n) : inL (dsts c acc) n :=
  let ⟨t, ht⟩ := h; ⟨t, dsts_subL c [] acc (fun _ hq => by cases hq) _ ht⟩

theorem carried_in {D : List (Nat × TypeId)} : ∀ {e : Env} {seen : List Nat} {k : Nat} {t : TypeId}, (k, t) ∈ carried D e seen → inL D k
  | [], _, _, _, h => by cases h
  | (k', v) :: r, seen, k, t, h => by
    simp only [carried] at h
    split at h
    · exact carried_in h
    · split at h
      · rename_i t' ht
        rcases List.mem_cons.1 h with e | h
        · injection e with e1 e2; subst e1
          refine Classical.byContradiction fun hn => ?_
          rw [typeOf_none.2 hn] at ht; cases ht
        · exact carried_in h
      · exact carried_in h
theorem readL_some : ∀ {L : List (Nat × TypeId)} {e : Env} {s : List Value}, readL e L = some s → s.length = L.length ∧ ∀ nt a, Ok nt e a → s = L.map fun p => a.tmps.getD p.1 undef
  | [], e, s, h => by simp [readL] at h; subst h; simp
  | (k, t) :: r, e, s, h => by
    simp only [readL] at h
    split at h
    · rename_i v l hv hl
      injection h with h; subst h
      obtain ⟨h1, h2⟩ := readL_some hl
      refine ⟨by simp [h1], fun nt a ha => ?_⟩
      have := ha.get k v hv
      rw [List.map_cons, ← h2 nt a ha, Array.getD_eq_getD_getElem?, this, Option.getD_some]
    · cases h
theorem withVals_get : ∀ {L : List (Nat × TypeId)} {s : List Value} {e : Env} {n : Nat} {v : Value}, get (withVals L s e) n = some v →
    (∃ i : Nat, (∃ t, L[i]? = some (n, t)) ∧ s[i]? = some v) ∨ get e n = some v
  | [], s, e, n, v, h => .inr (by simpa [withVals] using h)
  | (k, t) :: r, [], e, n, v, h => .inr (by simpa [withVals] using h)
  | (k, t) :: r, u :: us, e, n, v, h => by
    simp only [withVals, get] at h
    split at h
    · rename_i hk
      have : k = n := Nat.eq_of_beq_eq_true hk
      subst this
      injection h with h; subst h
      exact .inl ⟨0, ⟨t, by simp⟩, by simp⟩
    · rcases withVals_get h with ⟨i, ⟨t', h1⟩, h2⟩ | h
      · exact .inl ⟨i + 1, ⟨t', by simpa using h1⟩, by simpa using h2⟩
      · exact .inr h
theorem withVals_out {n : Nat} : ∀ {L : List (Nat × TypeId)} {s : List Value} {e : Env}, ¬ inL L n → get (withVals L s e) n = get e n
  | [], s, e, _ => by simp [withVals]
  | (k, t) :: r, [], e, _ => by simp [withVals]
  | (k, t) :: r, u :: us, e, h => by
    simp only [withVals, get]
    split
    · rename_i hk
      have : k = n := Nat.eq_of_beq_eq_true hk
      exact absurd ⟨t, by simp [this]⟩ h
    · exact withVals_out fun ⟨t', ht⟩ => h ⟨t', by simp [ht]⟩
theorem without_out {D : List (Nat × TypeId)} {n : Nat} (hn : ¬ inL D n) : ∀ {e : Env}, get (without D e) n = get e n
  | [] => rfl
  | (k, u) :: r => by
    simp only [without]
    split
    · rename_i t ht
      simp only [get]
      split
      · rename_i hk
        have : k = n := Nat.eq_of_beq_eq_true hk
        rw [this, typeOf_none.2 hn] at ht; cases ht
      · exact without_out hn
    · simp only [get]
      split
      · rfl
      · exact without_out hn

theorem readL_get {f : Env} {n : Nat} {v : Value} {t : TypeId} : ∀ {L : List (Nat × TypeId)} {s : List Value} {i : Nat}, readL f L = some s → L[i]? = some (n, t) → s[i]? = some v → Sh.get f n = some v
  | [], s, i, _, h1, _ => by simp at h1
  | (k, t') :: r, s, i, hr, h1, h2 => by
    simp only [readL] at hr
    split at hr
    · rename_i u l hu hl
      injection hr with hr; subst hr
      cases i with
      | zero => simp at h1 h2; obtain ⟨rfl, rfl⟩ := h1; subst h2; exact hu
      | succ i => exact readL_get hl (by simpa using h1) (by simpa using h2)
    · cases hr
/-- the environment behind a join, or at a loop's head -/
theorem Ok.rejoin {nt : Nat} {D L : List (Nat × TypeId)} {e f : Env} {a : Act} {s : List Value} (hf : Ok nt f a) (hr : readL f L = some s) (hx : Ext (inL D) e f) :
    Ok nt (withVals L s (without D e)) a := by
  refine ⟨hf.defers, hf.size, fun n v hn => ?_⟩
  rcases withVals_get hn with ⟨i, ⟨t, h1⟩, h2⟩ | h
  · exact hf.get n v (readL_get hr h1 h2)
  · obtain ⟨h1, h2⟩ := get_without h
    exact hf.get n v (hx n v (typeOf_none.1 h2) h1)
theorem Ext.rejoin {D : List (Nat × TypeId)} {e : Env} {s : List Value} {seen : List Nat} : Ext (inL D) e (withVals (carried D e seen) s (without D e)) := by
  intro n v hn he
  rw [withVals_out (fun ⟨t, ht⟩ => hn (carried_in ht)), without_out hn]
  exact he

theorem T_ok (hG : G.Ok P) {nt : Nat} : ∀ (c : Code) {e : Env} {w : World} {N : Env → World → Prop} {X : Nat → Env → World → Prop} {R : Env → World → Prop} {a : Act}, Ok nt e a → T P G nt c e w N X R →
    (P.follows .mixedOrders = true) →
    c.wp P (Post nt (fun f w => Ext (inL (dsts c [])) e f ∧ N f w) (fun i f w => Ext (inL (dsts c [])) e f ∧ X i f w) R) a w
  | .skip, e, w, N, X, R, a, ha, h, _ => wp_skip ⟨e, ha, .refl _ e, h⟩
  | .label l, e, w, N, X, R, a, ha, h, _ => wp_label ⟨e, ha, .refl _ e, h⟩
  | .exit id, e, w, N, X, R, a, ha, h, _ => wp_exit ⟨e, ha, .refl _ e, h⟩
  | .ret, e, w, N, X, R, a, ha, h, _ => wp_ret ⟨e, ha, h⟩
  | .region id ops d, e, w, N, X, R, a, ha, h, hm => by
    have hd := (dsts_wr (.region id ops d) []).2
    cases d with
    | false => exact wp_region_list (opsT_ext hG (fun o ho => hd o (by simpa using ho)) (.refl _ e) ha h)
    | true =>
      simp only [T] at h
      split at h
      · rename_i hsel hap
        refine wp_region_any hm (anyC_any (opsD_ext hG hsel hd hap (Lists.start ops) (fun k hk => ?_) (Closed.start ops) (.refl _ e) ha h))
        rw [show (Array.replicate ops.size false).getD k false = false from by simp only [Array.getD_eq_getD_getElem?, Array.getElem?_replicate]; split <;> rfl] at hk
        cases hk
      · exact h.elim
  | .seq x y, e, w, N, X, R, a, ha, h, hm => by
    have hx1 := dsts_wr x (dsts y [])
    have hy1 := dsts_wr y []
    have inx : ∀ n, inL (dsts x []) n → inL (dsts (.seq x y) []) n := fun n hn => (dsts_sub x (dsts y [])) n hn
    have iny : ∀ n, inL (dsts y []) n → inL (dsts (.seq x y) []) n := fun n ⟨t, ht⟩ => ⟨t, hx1.1 _ ht⟩
    have plain : T P G nt x e w (fun e w => T P G nt y e w N X R) X R → (Code.seq x y).wp P (Post nt (fun f w => Ext (inL (dsts (.seq x y) [])) e f ∧ N f w) (fun i f w => Ext (inL (dsts (.seq x y) [])) e f ∧ X i f w) R) a w := by
      intro h
      refine wp_seq (Code.wp_mono (fun ex a' w' hp => ?_) (T_ok hG x ha h hm))
      cases ex with
      | normal =>
        obtain ⟨f, hf, hx, hN⟩ := hp
        refine Code.wp_mono (fun ex a'' w'' hp => ?_) (T_ok hG y hf hN hm)
        cases ex with
        | normal => obtain ⟨g, hg, hx2, hN⟩ := hp; exact ⟨g, hg, (hx.mono inx).trans (hx2.mono iny), hN⟩
        | exit id => obtain ⟨g, hg, hx2, hN⟩ := hp; exact ⟨g, hg, (hx.mono inx).trans (hx2.mono iny), hN⟩
        | ret => exact hp
        | goto l => exact hp
        | panic c => exact hp
        | outgrown => exact hp
      | exit id => obtain ⟨f, hf, hx, hN⟩ := hp; exact ⟨f, hf, hx.mono inx, hN⟩
      | ret => exact hp
      | goto l => exact hp
      | panic c => exact hp
      | outgrown => exact hp
    simp only [T] at h
    split at h
    · obtain ⟨J, hJ, h⟩ := h
      refine wp_seq (Code.wp_mono (fun ex a' w' hp => ?_) (T_ok hG x ha h hm))
      cases ex with
      | normal =>
        obtain ⟨f, hf, hx, hN⟩ := hp
        split at hN
        · rename_i s hs
          have h2 := AsAll.elim (hJ s w' hN)
          have hok := hf.rejoin hs hx
          refine Code.wp_mono (fun ex a'' w'' hp => ?_) (T_ok hG y hok h2 hm)
          have hxx : Ext (inL (dsts (.seq x y) [])) e _ := (Ext.rejoin (D := dsts x []) (e := e) (s := s) (seen := [])).mono inx
          cases ex with
          | normal => obtain ⟨g, hg, hx2, hN⟩ := hp; exact ⟨g, hg, hxx.trans (hx2.mono iny), hN⟩
          | exit id => obtain ⟨g, hg, hx2, hN⟩ := hp; exact ⟨g, hg, hxx.trans (hx2.mono iny), hN⟩
          | ret => exact hp
          | goto l => exact hp
          | panic c => exact hp
          | outgrown => exact hp
        · exact hN.elim
      | exit id => obtain ⟨f, hf, hx, hN⟩ := hp; exact ⟨f, hf, hx.mono inx, hN⟩
      | ret => exact hp
      | goto l => exact hp
      | panic c => exact hp
      | outgrown => exact hp
    · exact plain h
  | .cond c x y, e, w, N, X, R, a, ha, h, hm => by
    simp only [T] at h
    split at h
    · rename_i t hc
      have hev := ha.ev hc
      have inx : ∀ n, inL (dsts x []) n → inL (dsts (.cond c x y) []) n := fun n hn => (dsts_sub x (dsts y [])) n hn
      have iny : ∀ n, inL (dsts y []) n → inL (dsts (.cond c x y) []) n := fun n ⟨t, ht⟩ => ⟨t, (dsts_wr x (dsts y [])).1 _ ht⟩
      rcases h.elim with ⟨rfl, h⟩ | ⟨rfl, h⟩
      · refine wp_cond_true hev (Code.wp_mono (fun ex a' w' hp => ?_) (T_ok hG x ha h hm))
        cases ex with
        | normal => obtain ⟨f, hf, hx, hN⟩ := hp; exact ⟨f, hf, hx.mono inx, hN⟩
        | exit id => obtain ⟨f, hf, hx, hN⟩ := hp; exact ⟨f, hf, hx.mono inx, hN⟩
        | _ => exact hp
      · refine wp_cond_false hev (Code.wp_mono (fun ex a' w' hp => ?_) (T_ok hG y ha h hm))
        cases ex with
        | normal => obtain ⟨f, hf, hx, hN⟩ := hp; exact ⟨f, hf, hx.mono iny, hN⟩
        | exit id => obtain ⟨f, hf, hx, hN⟩ := hp; exact ⟨f, hf, hx.mono iny, hN⟩
        | _ => exact hp
    · exact h.elim
  | .block id c, e, w, N, X, R, a, ha, h, hm => by
    simp only [T] at h
    refine wp_block (Code.wp_mono (fun ex a' w' hp => ?_) (T_ok hG c ha h hm))
    cases ex with
    | normal => exact hp
    | exit i =>
      obtain ⟨f, hf, hx, hN⟩ := hp
      simp only [Exit.inBlock]
      split at hN
      · rename_i hk
        have : i = id := Nat.eq_of_beq_eq_true hk
        rw [if_pos (by simp [this])]
        exact ⟨f, hf, hx, hN⟩
      · rename_i hk
        have : i ≠ id := Nat.ne_of_beq_eq_false hk
        rw [if_neg (by simpa using this)]
        exact ⟨f, hf, hx, hN⟩
    | _ => exact hp
  | .loop c, e, w, N, X, R, a, ha, h, hm => by
    simp only [T] at h
    split at h
    · rename_i s0 hs0
      obtain ⟨I, μ, h0, hr⟩ := h
      refine wp_loop (fun a' w' => ∃ f s, Ok nt f a' ∧ readL f (carried (dsts c []) e []) = some s ∧ Ext (inL (dsts c [])) e f ∧ I s w')
        (fun a' w' => μ ((carried (dsts c []) e []).map fun p => a'.tmps.getD p.1 undef) w') ⟨e, s0, ha, hs0, .refl _ e, h0⟩ ?_
      rintro a1 w1 ⟨f, s, hf, hs, hx, hI⟩
      have h2 := AsAll.elim (hr s w1 hI)
      have hok := hf.rejoin hs hx
      refine Code.wp_mono (fun ex a'' w'' hp => ?_) (T_ok hG c hok h2 hm)
      have hxx : Ext (inL (dsts c [])) e _ := Ext.rejoin (D := dsts c []) (e := e) (s := s) (seen := [])
      cases ex with
      | normal =>
        obtain ⟨g, hg, hx2, hN⟩ := hp
        split at hN
        · rename_i s' hs'
          refine ⟨⟨g, s', hg, hs', hxx.trans hx2, hN.1⟩, ?_⟩
          rw [← (readL_some hs').2 nt _ hg, ← (readL_some hs).2 nt _ hf]
          exact hN.2
        · exact hN.elim
      | exit id => obtain ⟨g, hg, hx2, hN⟩ := hp; exact ⟨g, hg, hxx.trans hx2, hN⟩
      | _ => exact hp
    · exact h.elim
  | .scope c, e, w, N, X, R, a, ha, h, hm => by
    simp only [T] at h
    refine wp_scope_straight (Code.wp_mono (fun ex a' w' hp => ?_) (T_ok hG c ha h hm))
    cases ex <;> exact hp
  | .goto _, _, _, _, _, _, _, _, h, _ => h.elim
  | .rangeFunc .., _, _, _, _, _, _, _, h, _ => h.elim
  | .refuse _, _, _, _, _, _, _, _, h, _ => h.elim
end Go.Sh

namespace Go.Sh
variable {P : Program} {G : Tab}

/-! ## tables out of lists -/
def lookL {α : Type} : List (Nat × α) → Nat → Option α
  | [], _ => none
  | (k, v) :: r, n => match Nat.beq k n with | true => some v | false => lookL r n
def GoodU (P : Program) : List (Nat × TypeDesc) → Prop
  | [] => True
  | (k, v) :: r => P.underlying k = some v ∧ GoodU P r
def GoodS (P : Program) : List (Nat × Nat) → Prop
  | [] => True
  | (k, v) :: r => sizeP P k = some v ∧ GoodS P r
def GoodZ (P : Program) : List (Nat × Value) → Prop
  | [] => True
  | (k, v) :: r => zeroP P k = some v ∧ GoodZ P r
def GoodF (P : Program) : List Nat → Prop
  | [] => True
  | k :: r => goesIn P k = true ∧ GoodF P r
theorem lookU : ∀ {l : List (Nat × TypeDesc)} {n : Nat} {v : TypeDesc}, GoodU P l → lookL l n = some v → P.underlying n = some v
  | [], n, v, _, h => by cases h
  | (k, u) :: r, n, v, hg, h => by
    simp only [lookL] at h
    split at h
    · rename_i hk; have := Nat.eq_of_beq_eq_true hk; subst this; injection h with h; subst h; exact hg.1
    · exact lookU hg.2 h
theorem lookS : ∀ {l : List (Nat × Nat)} {n : Nat} {v : Nat}, GoodS P l → lookL l n = some v → sizeP P n = some v
  | [], n, v, _, h => by cases h
  | (k, u) :: r, n, v, hg, h => by
    simp only [lookL] at h
    split at h
    · rename_i hk; have := Nat.eq_of_beq_eq_true hk; subst this; injection h with h; subst h; exact hg.1
    · exact lookS hg.2 h
theorem lookZ : ∀ {l : List (Nat × Value)} {n : Nat} {v : Value}, GoodZ P l → lookL l n = some v → zeroP P n = some v
  | [], n, v, _, h => by cases h
  | (k, u) :: r, n, v, hg, h => by
    simp only [lookL] at h
    split at h
    · rename_i hk; have := Nat.eq_of_beq_eq_true hk; subst this; injection h with h; subst h; exact hg.1
    · exact lookZ hg.2 h
theorem lookF : ∀ {l : List Nat} {n : Nat}, GoodF P l → memN l n = true → goesIn P n = true
  | [], n, _, h => by cases h
  | k :: r, n, hg, h => by
    simp only [memN] at h
    split at h
    · rename_i hk; have := Nat.eq_of_beq_eq_true hk; subst this; exact hg.1
    · exact lookF hg.2 h
def tabOf (u : List (Nat × TypeDesc)) (s : List (Nat × Nat)) (z : List (Nat × Value)) (f : List Nat) : Tab := ⟨lookL u, lookL s, lookL z, memN f⟩
theorem tabOf_ok {u : List (Nat × TypeDesc)} {s : List (Nat × Nat)} {z : List (Nat × Value)} {f : List Nat} (hu : GoodU P u) (hs : GoodS P s) (hz : GoodZ P z) (hf : GoodF P f) : (tabOf u s z f).Ok P :=
  ⟨fun _ _ h => lookU hu h, fun _ _ h => lookS hs h, fun _ _ h => lookZ hz h, fun _ h => lookF hf h⟩

/-! ## a whole function -/
def resL (G : Tab) (e : Env) (w : World) : List ResultVar → (List Value → Prop) → Prop
  | [], K => K []
  | .tmp t :: r, K => match get e t with | some v => resL G e w r fun l => K (v :: l) | none => False
  | .cell a t :: r, K => match get e a with
    | some (.pointer b) => NilP b fun ad => ld G t ad w fun v _ => resL G e w r fun l => K (v :: l)
    | _ => False
def one (l : List Value) : Value := match l with | [v] => v | l => .tuple l.toArray
def argEnv : Nat → List Value → Env
  | _, [] => []
  | n, v :: r => (n, v) :: argEnv (n + 1) r
def fin (G : Tab) (fn : Func) (Q : Value → World → Prop) (e : Env) (w : World) : Prop := resL G e w fn.results.toList fun l => Q (one l) w
/-- what the function comes to -/
def Fn (P : Program) (G : Tab) (fn : Func) (args : List Value) (w : World) (Q : Value → World → Prop) : Prop :=
  match fn.body, Nat.ble args.length fn.ntmps with
  | some c, true => T P G fn.ntmps c (argEnv 0 args) w (fin G fn Q) (fun _ _ _ => False) (fin G fn Q)
  | _, _ => False

def resOne (tmps : Array Value) (r : ResultVar) : Sem Value :=
  match r with
  | .tmp t => pure (tmps.getD t undef)
  | .cell a t => do loadVar t (← asAddr (tmps.getD a undef))
theorem results_eq (fn : Func) (tmps : Array Value) : results fn tmps = (do let vs ← fn.results.mapM (resOne tmps); pure (if h : vs.size = 1 then vs[0] else .tuple vs)) := by
  unfold results
  have : (fun (x : ResultVar) => (match x with
    | .tmp t => pure (tmps.getD t undef)
    | .cell a t => do loadVar t (← asAddr (tmps.getD a undef)) : Sem Value)) = resOne tmps := by
    funext x; cases x <;> rfl
  rw [← this]
  rfl
theorem resL_ok (hG : G.Ok P) {nt : Nat} {e : Env} {w : World} {a : Act} (ha : Ok nt e a) : ∀ {l : List ResultVar} {K : List Value → Prop}, resL G e w l K →
    ∃ vs, K vs ∧ vs.length = l.length ∧ (l.mapM (resOne a.tmps)).run P w = .ok vs w
  | [], K, h => ⟨[], h, rfl, rfl⟩
  | .tmp t :: r, K, h => by
    simp only [resL] at h
    split at h
    · rename_i v hv
      obtain ⟨vs, hK, hlen, hr⟩ := resL_ok hG ha h
      have h1 : a.tmps.getD t undef = v := by rw [Array.getD_eq_getD_getElem?, ha.get t v hv]; rfl
      exact ⟨v :: vs, hK, by simp [hlen], by simp only [List.mapM_cons, Sem.run_bind, Sem.run_pure, Result.andThen_ok, resOne, h1, hr]⟩
    · exact h.elim
  | .cell x t :: r, K, h => by
    simp only [resL] at h
    split at h
    · rename_i b hv
      obtain ⟨ad, rfl, hn⟩ := NilP.out h
      obtain ⟨v, s, hK, hs, hl⟩ := ld_ok hG hn
      obtain ⟨vs, hK, hlen, hr⟩ := resL_ok hG ha hK
      have h1 : a.tmps.getD x undef = .pointer (some ad) := by rw [Array.getD_eq_getD_getElem?, ha.get x _ hv]; rfl
      exact ⟨v :: vs, hK, by simp [hlen], by
        have h2 : asAddr (.pointer (some ad)) = pure ad := rfl
        simp only [List.mapM_cons, Sem.run_bind, Sem.run_pure, Result.andThen_ok, resOne, h1, h2, hl w hs, hr]⟩
    · exact h.elim

theorem argEnv_get : ∀ {l : List Value} {n k : Nat} {v : Value}, get (argEnv n l) k = some v → n ≤ k ∧ l[k - n]? = some v
  | [], n, k, v, h => by cases h
  | u :: r, n, k, v, h => by
    simp only [argEnv, get] at h
    split at h
    · rename_i hk
      have : n = k := Nat.eq_of_beq_eq_true hk
      subst this
      injection h with h; subst h; simp
    · rename_i hk
      have hne : n ≠ k := Nat.ne_of_beq_eq_false hk
      obtain ⟨h1, h2⟩ := argEnv_get h
      refine ⟨by omega, ?_⟩
      have : k - n = (k - (n + 1)) + 1 := by omega
      rw [this]; simpa using h2

theorem fin_post (hG : G.Ok P) {nt : Nat} {fn : Func} {Q : Value → World → Prop} {e : Env} {a : Act} {w : World} (ha : Ok nt e a) (h : fin G fn Q e w) :
    a.defers = [] ∧ ∃ v, (results fn a.tmps).run P w = .ok v w ∧ Q v w := by
  obtain ⟨vs, hK, hlen, hr⟩ := resL_ok hG ha h
  refine ⟨ha.defers, one vs, ?_, hK⟩
  rw [results_eq, ← Array.toArray_toList (xs := fn.results)]
  simp only [List.mapM_toArray, Sem.run_bind, Sem.run_map, hr, Result.andThen_ok]
  cases vs with
  | nil => rfl
  | cons v r => cases r with
    | nil => rfl
    | cons u r => simp [one]

theorem calls_of_Fn (hG : G.Ok P) {f : FuncId} {fn : Func} {args : List Value} {w : World} {Q : Value → World → Prop} (hf : P.funcs[f]? = some fn) (hm : P.follows .mixedOrders = true)
    (h : Fn P G fn args w Q) : Calls P f args.toArray w fun e w' => ∃ v, e = .returned v ∧ Q v w' := by
  unfold Fn at h
  split at h
  · rename_i c hb hle
    have hle' : args.length ≤ fn.ntmps := by simpa using hle
    refine calls_of_wp hf hb (Code.wp_mono (fun ex a w' hp => ?_) (T_ok hG c (a := ⟨args.toArray ++ Array.replicate (fn.ntmps - args.toArray.size) undef, []⟩) ⟨rfl, by simp; omega, fun n v hn => ?_⟩ h hm))
    · cases ex with
      | normal =>
        obtain ⟨e, he, _, hN⟩ := hp
        obtain ⟨h1, v, h2, h3⟩ := fin_post hG he hN
        exact ⟨h1, v, h2, v, rfl, h3⟩
      | ret =>
        obtain ⟨e, he, hN⟩ := hp
        obtain ⟨h1, v, h2, h3⟩ := fin_post hG he hN
        exact ⟨h1, v, h2, v, rfl, h3⟩
      | exit id => obtain ⟨e, _, _, hx⟩ := hp; exact hx.elim
      | _ => exact hp.elim
    · obtain ⟨_, h2⟩ := argEnv_get hn
      have hlt : n < args.length := by
        rcases Nat.lt_or_ge n args.length with h | h
        · exact h
        · simp [h] at h2
      rw [Array.getElem?_append_left (by simpa using hlt)]
      simpa using h2
  · exact h.elim
end Go.Sh

namespace Go.Sh
/-! ## the words of a proof over shallow functions -/
section as
variable {K : Value → Prop}
theorem AsI_int {k : IntKind} {x : Int} {K : Int → Prop} : AsI k (.int k x) K ↔ K x := ⟨fun ⟨y, h, hk⟩ => by injection h with _ h; subst h; exact hk, fun h => ⟨x, rfl, h⟩⟩
theorem AsB_bool {x : Bool} {K : Bool → Prop} : AsB (.bool x) K ↔ K x := ⟨fun ⟨y, h, hk⟩ => by injection h with h; subst h; exact hk, fun h => ⟨x, rfl, h⟩⟩
theorem AsS_string {x : ByteArray} {K : ByteArray → Prop} : AsS (.string x) K ↔ K x := ⟨fun ⟨y, h, hk⟩ => by injection h with h; subst h; exact hk, fun h => ⟨x, rfl, h⟩⟩
theorem AsP_pointer {x : Option Addr} {K : Option Addr → Prop} : AsP (.pointer x) K ↔ K x := ⟨fun ⟨y, h, hk⟩ => by injection h with h; subst h; exact hk, fun h => ⟨x, rfl, h⟩⟩
theorem AsSl_slice {a : Option Addr} {n c : Nat} {K : Option Addr → Nat → Nat → Prop} : AsSl (.slice a n c) K ↔ K a n c :=
  ⟨fun ⟨_, _, _, h, hk⟩ => by injection h with h1 h2 h3; subst h1 h2 h3; exact hk, fun h => ⟨a, n, c, rfl, h⟩⟩
theorem AsM_map {x : Option Nat} {K : Option Nat → Prop} : AsM (.map x) K ↔ K x := ⟨fun ⟨y, h, hk⟩ => by injection h with h; subst h; exact hk, fun h => ⟨x, rfl, h⟩⟩
theorem UnC_cons {v : Value} {s : List Value} {K : Value → List Value → Prop} : UnC (v :: s) K ↔ K v s :=
  ⟨fun ⟨_, _, h, hk⟩ => by injection h with h1 h2; subst h1 h2; exact hk, fun h => ⟨v, s, rfl, h⟩⟩
theorem UnN_nil {K : Prop} : UnN [] K ↔ K := ⟨fun h => h.2, fun h => ⟨rfl, h⟩⟩
theorem AsAgg_agg {l : List Value} {K : List Value → Prop} : AsAgg (.agg l.toArray) K ↔ K l :=
  ⟨fun ⟨_, h, hk⟩ => by injection h with h; have := congrArg Array.toList h; simp at this; subst this; exact hk, fun h => ⟨l, rfl, h⟩⟩
theorem AsTup_tuple {l : List Value} {K : List Value → Prop} : AsTup (.tuple l.toArray) K ↔ K l :=
  ⟨fun ⟨_, h, hk⟩ => by injection h with h; have := congrArg Array.toList h; simp at this; subst this; exact hk, fun h => ⟨l, rfl, h⟩⟩
theorem BIf_true {x y : Prop} : BIf true x y ↔ x := Iff.rfl
theorem BIf_false {x y : Prop} : BIf false x y ↔ y := Iff.rfl
theorem BIf_dec {p : Prop} [Decidable p] {x y : Prop} : BIf (decide p) x y ↔ if p then x else y := by
  by_cases h : p <;> simp [h, BIf]
theorem NilP_some {a : Addr} {K : Addr → Prop} : NilP (some a) K ↔ K a := Iff.rfl
theorem at0_mk {b o n : Nat} : at0 ⟨b, o, none⟩ n = ⟨b, o + n, none⟩ := by cases n <;> rfl
theorem NZ_iff {b : Int} {K : Prop} : NZ b K ↔ b ≠ 0 ∧ K := ⟨NZ.out, fun h => NZ.mk h.1 h.2⟩
theorem NN_iff {b : Int} {K : Prop} : NN b K ↔ 0 ≤ b ∧ K := ⟨NN.out, fun h => NN.mk h.1 h.2⟩
end as

/-! ### memory: a block that is known whole -/
/-- block b holds just these cells, none of them frozen -/
def Has (w : World) (b : Nat) (l : List Value) : Prop := ∃ t, w.heap[b]? = some (.cells l.toArray t (0, 0))
/-- nothing but draws has happened -/
structure Qt (w w' : World) : Prop where
  heap : w'.heap = w.heap
  os : w'.os = w.os
  output : w'.output = w.output
  tape : w'.tape = w.tape
theorem Qt.refl (w : World) : Qt w w := ⟨rfl, rfl, rfl, rfl⟩
theorem Qt.trans {a b c : World} (h : Qt a b) (k : Qt b c) : Qt a c := ⟨k.heap.trans h.heap, k.os.trans h.os, k.output.trans h.output, k.tape.trans h.tape⟩
theorem Qt.drew {a b : World} (h : Qt a b) : Qt a b.drew := ⟨h.heap, h.os, h.output, h.tape⟩
theorem Qt.drewn {a b : World} {n : Nat} (h : Qt a b) : Qt a { b with drawn := n } := ⟨h.heap, h.os, h.output, h.tape⟩
/-- blocks outside S are as they were; none has gone -/
structure Fr (S : Nat → Prop) (w w' : World) : Prop where
  os : w'.os = w.os
  output : w'.output = w.output
  tape : w'.tape = w.tape
  size : w.heap.size ≤ w'.heap.size
  block : ∀ b, b < w.heap.size → ¬ S b → w'.heap[b]? = w.heap[b]?
theorem Fr.refl (S : Nat → Prop) (w : World) : Fr S w w := ⟨rfl, rfl, rfl, Nat.le_refl _, fun _ _ _ => rfl⟩
theorem Qt.fr {S : Nat → Prop} {w w' : World} (h : Qt w w') : Fr S w w' := ⟨h.os, h.output, h.tape, by rw [h.heap]; exact Nat.le_refl _, fun _ _ _ => by rw [h.heap]⟩
theorem Fr.mono {S S' : Nat → Prop} {w w' : World} (h : Fr S w w') (hs : ∀ b, b < w.heap.size → S b → S' b) : Fr S' w w' :=
  ⟨h.os, h.output, h.tape, h.size, fun b hb hn => h.block b hb fun hS => hn (hs b hb hS)⟩
theorem Fr.trans {S : Nat → Prop} {a b c : World} (h : Fr S a b) (k : Fr S b c) : Fr S a c :=
  ⟨k.os.trans h.os, k.output.trans h.output, k.tape.trans h.tape, Nat.le_trans h.size k.size, fun i hi hn => (k.block i (Nat.lt_of_lt_of_le hi h.size) hn).trans (h.block i hi hn)⟩
theorem Has.lt {w : World} {b : Nat} {l : List Value} (h : Has w b l) : b < w.heap.size := by
  obtain ⟨t, h⟩ := h
  exact (Array.getElem?_eq_some_iff.1 h).1
theorem Has.qt {w w' : World} {b : Nat} {l : List Value} (h : Has w b l) (q : Qt w w') : Has w' b l := by
  obtain ⟨t, h⟩ := h; exact ⟨t, by rw [q.heap]; exact h⟩
theorem Has.fr {S : Nat → Prop} {w w' : World} {b : Nat} {l : List Value} (h : Has w b l) (f : Fr S w w') (hS : ¬ S b) : Has w' b l := by
  have hl := h.lt
  obtain ⟨t, h⟩ := h; exact ⟨t, by rw [f.block b hl hS]; exact h⟩
theorem Has.drew {w : World} {b : Nat} {l : List Value} (h : Has w b l) : Has w.drew b l := h
theorem Has.uniq {w : World} {b : Nat} {l l' : List Value} (h : Has w b l) (h' : Has w b l') : l = l' := by
  obtain ⟨t, h⟩ := h; obtain ⟨t', h'⟩ := h'
  rw [h] at h'; injection h' with h'; injection h' with h1 h2 h3
  have := congrArg Array.toList h1; simpa using this
theorem Has.cell {w : World} {b o : Nat} {l : List Value} (h : Has w b l) : w.cell? ⟨b, o, none⟩ = l[o]? := by
  obtain ⟨t, h⟩ := h; simp [World.cell?, h]
theorem Has.frozen {w : World} {b o : Nat} {l : List Value} (h : Has w b l) : w.frozen? ⟨b, o, none⟩ = false := by
  obtain ⟨t, h⟩ := h; simp [World.frozen?, h]
/-- a load, by what the block holds -/
theorem Has.ld {w : World} {b o : Nat} {l : List Value} {v : Value} {K : Value → Prop} (h : Has w b l) (hv : l[o]? = some v) (k : K v) : Ld w ⟨b, o, none⟩ K := ⟨v, by rw [h.cell]; exact hv, k⟩
theorem Has.ld_iff {w : World} {b : Nat} {l : List Value} (h : Has w b l) {o : Nat} {K : Value → Prop} : Ld w ⟨b, o, none⟩ K ↔ ∃ v, l[o]? = some v ∧ K v := by
  unfold Ld; rw [h.cell]
theorem heap_setCell (w : World) (a : Addr) (u : Value) (k : Nat) (h : k ≠ a.block) : (w.setCell a u).heap[k]? = w.heap[k]? := by
  simp only [World.setCell, Array.getElem?_modify]
  rw [if_neg (by omega)]
theorem size_setCell (w : World) (a : Addr) (u : Value) : (w.setCell a u).heap.size = w.heap.size := by simp [World.setCell]
theorem Has.set {w : World} {b o : Nat} {l : List Value} {v : Value} (h : Has w b l) : Has (w.setCell ⟨b, o, none⟩ v) b (l.set o v) := by
  obtain ⟨t, h⟩ := h
  refine ⟨t, ?_⟩
  simp only [World.setCell, Array.getElem?_modify, h]
  simp
/-- a store, by what the block holds: behind it a new world of which this is known -/
theorem Has.st {w : World} {b o : Nat} {l : List Value} {v : Value} {K : World → Prop} (h : Has w b l) (ho : o < l.length) (h1 : v.oneCell' = true)
    (k : ∀ w', Has w' b (l.set o v) → Fr (· = b) w w' → w'.heap.size = w.heap.size → K w') : St w ⟨b, o, none⟩ v K :=
  ⟨⟨l[o], by rw [h.cell]; simp [ho]⟩, h.frozen, h1, k _ h.set ⟨rfl, rfl, rfl, by rw [size_setCell]; exact Nat.le_refl _, fun k _ hk => heap_setCell _ _ _ _ hk⟩ (size_setCell _ _ _)⟩
/-- a new block -/
theorem New.mk {w : World} {cells : Array Value} {t : TypeId} {K : Addr → World → Prop}
    (k : ∀ w', Has w' w.heap.size cells.toList → Fr (fun _ => False) w w' → w'.heap.size = w.heap.size + 1 → K ⟨w.heap.size, 0, none⟩ w') : New w cells t K := by
  refine k _ ⟨t, ?_⟩ ⟨rfl, rfl, rfl, by simp, fun b hb _ => ?_⟩ (by simp)
  · show (w.heap.push _)[w.heap.size]? = _
    simp
  · show (w.heap.push _)[b]? = _
    rw [Array.getElem?_push, if_neg (by omega)]
theorem Fr.drew {S : Nat → Prop} {a b : World} (h : Fr S a b) : Fr S a b.drew := ⟨h.os, h.output, h.tape, h.size, h.block⟩
theorem Fr.of_drew {S : Nat → Prop} {a b : World} (h : Fr S a.drew b) : Fr S a b := ⟨h.os, h.output, h.tape, h.size, h.block⟩
theorem Qt.of_drew {a b : World} (h : Qt a.drew b) : Qt a b := ⟨h.heap, h.os, h.output, h.tape⟩

/-- a contract: the call returns, and this is what is known -/
def Ret (P : Program) (f : FuncId) (args : Array Value) (w : World) (R : Value → World → Prop) : Prop := Calls P f args w fun e w' => ∃ v, e = .returned v ∧ R v w'
theorem Ret.use {P : Program} {f : FuncId} {args : Array Value} {w : World} {R K : Value → World → Prop} (h : Ret P f args w R) (k : ∀ v w', R v w' → K v w') : CallS P f args w K :=
  Calls.mono h fun e w' ⟨v, he, hv⟩ => ⟨v, he, k v w' hv⟩
theorem Ret.mono {P : Program} {f : FuncId} {args : Array Value} {w : World} {R K : Value → World → Prop} (h : Ret P f args w R) (k : ∀ v w', R v w' → K v w') : Ret P f args w K :=
  Calls.mono h fun e w' ⟨v, he, hv⟩ => ⟨v, he, k v w' hv⟩
end Go.Sh

namespace Go.Sh
/-! ## numbers -/
theorem w64 {n : Int} (h0 : -9223372036854775808 ≤ n) (h1 : n ≤ 9223372036854775807) : IntKind.i64.wrap n = n := IntWalk.i64_in n ⟨h0, h1⟩
theorem wu64 {n : Int} (h0 : 0 ≤ n) (h1 : n ≤ 18446744073709551615) : IntKind.u64.wrap n = n := IntWalk.u64_in n ⟨h0, h1⟩
theorem wu32 {n : Int} (h0 : 0 ≤ n) (h1 : n ≤ 4294967295) : IntKind.u32.wrap n = n := IntWalk.u32_in n ⟨h0, h1⟩
theorem wu8 {n : Int} (h0 : 0 ≤ n) (h1 : n ≤ 255) : IntKind.u8.wrap n = n := IntWalk.u8_in n ⟨h0, h1⟩
theorem ofInt_nat (b a : Nat) (h : a < 2 ^ b) : (BitVec.ofInt b (a : Int)).toNat = a := by
  rw [BitVec.ofInt_natCast, BitVec.toNat_ofNat, Nat.mod_eq_of_lt h]
theorem u64_bits (n : Nat) (h : n < 2 ^ 64) : IntKind.u64.wrap (n : Int) = n := wu64 (by omega) (by omega)
theorem u32_bits (n : Nat) (h : n < 2 ^ 32) : IntKind.u32.wrap (n : Int) = n := wu32 (by omega) (by omega)
section
variable {a b : Nat}
theorem andI_u64 (ha : a < 2 ^ 64) (hb : b < 2 ^ 64) : andI .u64 a b = ((a &&& b : Nat) : Int) := by
  unfold andI
  rw [BitVec.toNat_and]
  show IntKind.u64.wrap (((BitVec.ofInt 64 a).toNat &&& (BitVec.ofInt 64 b).toNat : Nat) : Int) = _
  rw [ofInt_nat 64 a ha, ofInt_nat 64 b hb, u64_bits _ (Nat.and_lt_two_pow _ hb)]
theorem orI_u64 (ha : a < 2 ^ 64) (hb : b < 2 ^ 64) : orI .u64 a b = ((a ||| b : Nat) : Int) := by
  unfold orI
  rw [BitVec.toNat_or]
  show IntKind.u64.wrap (((BitVec.ofInt 64 a).toNat ||| (BitVec.ofInt 64 b).toNat : Nat) : Int) = _
  rw [ofInt_nat 64 a ha, ofInt_nat 64 b hb, u64_bits _ (Nat.or_lt_two_pow ha hb)]
theorem xorI_u64 (ha : a < 2 ^ 64) (hb : b < 2 ^ 64) : xorI .u64 a b = ((a ^^^ b : Nat) : Int) := by
  unfold xorI
  rw [BitVec.toNat_xor]
  show IntKind.u64.wrap (((BitVec.ofInt 64 a).toNat ^^^ (BitVec.ofInt 64 b).toNat : Nat) : Int) = _
  rw [ofInt_nat 64 a ha, ofInt_nat 64 b hb, u64_bits _ (Nat.xor_lt_two_pow ha hb)]
theorem andNotI_u64 (ha : a < 2 ^ 64) (hb : b < 2 ^ 64) : andNotI .u64 a b = ((a &&& (2 ^ 64 - 1 - b) : Nat) : Int) := by
  unfold andNotI
  rw [BitVec.toNat_and, BitVec.toNat_not]
  show IntKind.u64.wrap (((BitVec.ofInt 64 a).toNat &&& (2 ^ 64 - 1 - (BitVec.ofInt 64 b).toNat) : Nat) : Int) = _
  rw [ofInt_nat 64 a ha, ofInt_nat 64 b hb, u64_bits _ (Nat.and_lt_two_pow _ (by omega))]
theorem notI_u64 (ha : a < 2 ^ 64) : notI .u64 a = ((2 ^ 64 - 1 - a : Nat) : Int) := by
  unfold notI
  have h1 : (if IntKind.u64.signed = true then (-1 : Int) else IntKind.u64.max) = ((2 ^ 64 - 1 : Nat) : Int) := by decide
  rw [h1, xorI_u64 (by decide) ha]
  congr 1
  apply Nat.eq_of_testBit_eq
  intro i
  rw [Nat.testBit_xor, Nat.testBit_two_pow_sub_one, show 2 ^ 64 - 1 - a = 2 ^ 64 - (a + 1) from by omega, Nat.testBit_two_pow_sub_succ ha]
  by_cases h : i < 64
  · simp [h]
  · have : a.testBit i = false := Nat.testBit_lt_two_pow (Nat.lt_of_lt_of_le ha (Nat.pow_le_pow_right (by decide) (by omega)))
    simp [h, this]
theorem shrI_nat {k : IntKind} {n : Nat} (hn : n ≤ k.bits) : shrI k a n = ((a >>> n : Nat) : Int) := by
  unfold shrI
  rw [show min (n : Int).toNat k.bits = n from by rw [Int.toNat_natCast]; exact Nat.min_eq_left hn, Nat.shiftRight_eq_div_pow]
  rw [Int.fdiv_eq_ediv_of_nonneg _ (by exact_mod_cast Nat.zero_le _)]
  norm_cast
theorem shlI_u64 {n : Nat} (hn : n < 64) (h : a <<< n < 2 ^ 64) : shlI .u64 a n = ((a <<< n : Nat) : Int) := by
  unfold shlI
  rw [show min (n : Int).toNat IntKind.u64.bits = n from by rw [Int.toNat_natCast]; exact Nat.min_eq_left (Nat.le_of_lt hn)]
  rw [Nat.shiftLeft_eq] at h ⊢
  rw [← u64_bits _ h]
  congr 1
end
end Go.Sh
