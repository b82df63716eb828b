import Derived.Test.YthpodlcbikialaaDoorShCore
namespace Go.Sh

def tt : World → Prop := fun _ => True
/-- a pure outcome: none known, a value, a value under a condition -/
inductive PR where
  | no | t (v : Value) | c (p : Prop) (v : Value) | nz (b : Int) (v : Value) | nn (b : Int) (v : Value)

def shlI (k : IntKind) (a b : Int) : Int := k.wrap (a * 2 ^ (min b.toNat k.bits))
def shrI (k : IntKind) (a b : Int) : Int := a.fdiv (2 ^ (min b.toNat k.bits))
def andI (k : IntKind) (a b : Int) : Int := k.wrap (BitVec.ofInt k.bits a &&& BitVec.ofInt k.bits b).toNat
def orI (k : IntKind) (a b : Int) : Int := k.wrap (BitVec.ofInt k.bits a ||| BitVec.ofInt k.bits b).toNat
def xorI (k : IntKind) (a b : Int) : Int := k.wrap (BitVec.ofInt k.bits a ^^^ BitVec.ofInt k.bits b).toNat
def andNotI (k : IntKind) (a b : Int) : Int := k.wrap (BitVec.ofInt k.bits a &&& ~~~ BitVec.ofInt k.bits b).toNat
def notI (k : IntKind) (a : Int) : Int := xorI k (if k.signed then -1 else k.max) a

def sameK (k k' : IntKind) : Bool := match decEq k k' with | isTrue _ => true | isFalse _ => false

def binI (op : BinOp) (k : IntKind) (a b : Int) : PR :=
  match op with
  | .add => .t (.int k (k.wrap (a + b)))
  | .sub => .t (.int k (k.wrap (a - b)))
  | .mul => .t (.int k (k.wrap (a * b)))
  | .quo => .nz b (.int k (k.wrap (a.tdiv b)))
  | .rem => .nz b (.int k (a.tmod b))
  | .and => .t (.int k (andI k a b))
  | .or => .t (.int k (orI k a b))
  | .xor => .t (.int k (xorI k a b))
  | .andNot => .t (.int k (andNotI k a b))
  | .eql => .t (.bool (a == b))
  | .neq => .t (.bool (a != b))
  | .lss => .t (.bool (decide (a < b)))
  | .leq => .t (.bool (decide (a ≤ b)))
  | .gtr => .t (.bool (decide (a > b)))
  | .geq => .t (.bool (decide (a ≥ b)))
  | _ => .no
def binS (op : BinOp) (a b : ByteArray) : PR :=
  match op with
  | .add => .c (((a.size + b.size : Nat) : Int) ≤ IntKind.i64.max) (.string (a ++ b))
  | .eql => .t (.bool (a.toList == b.toList))
  | .neq => .t (.bool (!(a.toList == b.toList)))
  | .lss => .t (.bool (Op.bytesLess a.toList b.toList))
  | .leq => .t (.bool (Op.bytesLess a.toList b.toList || a.toList == b.toList))
  | .gtr => .t (.bool (!(Op.bytesLess a.toList b.toList || a.toList == b.toList)))
  | .geq => .t (.bool (!(Op.bytesLess a.toList b.toList)))
  | _ => .no
def isI (v : Value) : Bool := match v with | .iface _ _ => true | .nilIface => true | _ => false
def isNilI (v : Value) : Bool := match v with | .nilIface => true | _ => false
def isF (v : Value) : Bool := match v with | .func _ _ _ => true | .nilFunc => true | _ => false
def isNilF (v : Value) : Bool := match v with | .nilFunc => true | _ => false
inductive NR where
  | no | t (b : Bool) | c (p : Bool) (b : Bool)
/-- a value held against the literal nil on the right; two bools -/
def eqV (d : Option TypeDesc) (yo : Operand) (x y : Value) : NR :=
  match d with
  | some .bool => match x, y with | .bool a, .bool b => .t (a == b) | _, _ => .no
  | some (.pointer _) => match yo with | .const (.pointer none) => (match x with | .pointer p => .t p.isNone | _ => .no) | _ => .no
  | some (.slice _) => match yo with | .const (.slice none _ _) => (match x with | .slice p _ _ => .t p.isNone | _ => .no) | _ => .no
  | some (.map _ _) => match yo with | .const (.map none) => (match x with | .map p => .t p.isNone | _ => .no) | _ => .no
  | some (.interface _) => match yo with | .const .nilIface => .c (isI x) (isNilI x) | _ => .no
  | some (.func _ _ _) => match yo with | .const .nilFunc => .c (isF x) (isNilF x) | _ => .no
  | _ => .no
def NR.pr (r : NR) (f : Bool → Bool) : PR := match r with | .no => .no | .t b => .t (.bool (f b)) | .c p b => .c (p = true) (.bool (f b))
/-- are the operands of this type integers or strings? -/
def numT (d : Option TypeDesc) : Bool := match d with | some (.int _) => true | some .string => true | _ => false
def bin (G : Tab) (op : BinOp) (t : TypeId) (yo : Operand) (x y : Value) : PR :=
  match numT (G.und t) with
  | true => match x with
    | .int k a => match y with
      | .int k' b => match op with
        | .shl => .nn b (.int k (shlI k a b))
        | .shr => .nn b (.int k (shrI k a b))
        | _ => match sameK k k' with
          | true => binI op k a b
          | false => .no
      | _ => .no
    | .string a => match y with
      | .string b => binS op a b
      | _ => .no
    | _ => .no
  | false => match op with
    | .eql => (eqV (G.und t) yo x y).pr (fun b => b)
    | .neq => (eqV (G.und t) yo x y).pr (fun b => !b)
    | _ => .no
def un (op : UnOp) (x : Value) : PR :=
  match op, x with
  | .not, .bool b => .t (.bool (!b))
  | .neg, .int k n => .t (.int k (k.wrap (0 - n)))
  | .xor, .int k n => .t (.int k (notI k n))
  | _, _ => .no
def conv (G : Tab) (s d : TypeId) (x : Value) : PR :=
  match G.und s, G.und d, x with
  | some _, some (.int k), .int _ n => .t (.int k (k.wrap n))
  | some _, some .string, .string s => .t (.string s)
  | _, _, _ => .no

def NZ (b : Int) (K : Prop) : Prop := match decide (b = 0) with | true => False | false => K
def NN (b : Int) (K : Prop) : Prop := match decide (0 ≤ b) with | true => K | false => False
theorem NZ.out {b : Int} {K : Prop} (h : NZ b K) : b ≠ 0 ∧ K := by
  unfold NZ at h; split at h
  · exact h.elim
  · rename_i hd; exact ⟨by simpa using hd, h⟩
theorem NZ.mk {b : Int} {K : Prop} (h : b ≠ 0) (k : K) : NZ b K := by
  unfold NZ; rw [decide_eq_false h]; exact k
theorem NN.out {b : Int} {K : Prop} (h : NN b K) : 0 ≤ b ∧ K := by
  unfold NN at h; split at h
  · rename_i hd; exact ⟨by simpa using hd, h⟩
  · exact h.elim
theorem NN.mk {b : Int} {K : Prop} (h : 0 ≤ b) (k : K) : NN b K := by
  unfold NN; rw [decide_eq_true h]; exact k
def PR.Holds (r : PR) (v : Value) : Prop := match r with | .no => False | .t u => v = u | .c p u => p ∧ v = u | .nz b u => b ≠ 0 ∧ v = u | .nn b u => 0 ≤ b ∧ v = u
def PR.use (r : PR) (D : Prop) (K : Value → Prop) : Prop := match r with | .no => D | .t v => K v | .c p v => p ∧ K v | .nz b v => NZ b (K v) | .nn b v => NN b (K v)

theorem sameK_eq {k k' : IntKind} (h : sameK k k' = true) : k = k' := by
  unfold sameK at h; split at h
  · assumption
  · cases h

variable {P : Program} {G : Tab}
def sizeP (P : Program) (t : TypeId) : Option Nat := match P.info? t with | some i => some i.size | none => none
def zeroP (P : Program) (t : TypeId) : Option Value := match P.info? t with | some i => i.zero | none => none
/-- the function that a call enters, if it is one with a body -/
def goesIn (P : Program) (g : FuncId) : Bool :=
  match P.funcs[g]? with
  | some fn => match fn.body with
    | some _ => match fn.name == "runtime.NumGoroutine" with | true => false | false => true
    | none => false
  | none => false
structure Tab.Ok (G : Tab) (P : Program) : Prop where
  und : ∀ t d, G.und t = some d → P.underlying t = some d
  siz : ∀ t n, G.siz t = some n → sizeP P t = some n
  zer : ∀ t v, G.zer t = some v → zeroP P t = some v
  fn : ∀ g, G.fn g = true → goesIn P g = true

def NR.Holds (r : NR) (b : Bool) : Prop := match r with | .no => False | .t u => b = u | .c p u => p = true ∧ b = u
theorem NR.pr_holds {r : NR} {f : Bool → Bool} {v : Value} (h : (r.pr f).Holds v) : ∃ b, r.Holds b ∧ v = .bool (f b) := by
  cases r with
  | no => exact h.elim
  | t b => exact ⟨b, rfl, h⟩
  | c p b => exact ⟨b, ⟨h.1, rfl⟩, h.2⟩
theorem under_run0 {t : TypeId} {d : TypeDesc} (h : P.underlying t = some d) (w : World) : (underlying t).run P w = .ok d w := by simp [underlying, h]
theorem eqV_ok (hG : G.Ok P) {d : Nat} {t : TypeId} {xo yo : Operand} {x y : Value} {b : Bool} (h : (eqV (G.und t) yo x y).Holds b) (hf : ∀ u, yo = .const u → y = u) (w : World) :
    (Op.equalIn (d + 1) t x y).run P w = .ok b w ∧ eqGuard .eql t xo yo x y = pure () ∧ eqGuard .neq t xo yo x y = pure () ∧
      binOp .eql t x y = (do pure (.bool (← Op.equal t x y))) ∧ binOp .neq t x y = (do pure (.bool (!(← Op.equal t x y)))) := by
  unfold eqV at h
  split at h
  · rename_i hd
    have hd := hG.und _ _ hd
    split at h
    · simp only [NR.Holds] at h; subst h; exact ⟨by simp [Op.equalIn, under_run0 hd], rfl, rfl, rfl, rfl⟩
    · exact h.elim
  · rename_i hd
    have hd := hG.und _ _ hd
    split at h
    · have := hf _ rfl; subst this
      split at h
      · rename_i p; simp only [NR.Holds] at h; subst h; cases p <;> exact ⟨by simp [Op.equalIn, under_run0 hd], rfl, rfl, rfl, rfl⟩
      · exact h.elim
    · exact h.elim
  · rename_i hd
    have hd := hG.und _ _ hd
    split at h
    · have := hf _ rfl; subst this
      split at h
      · rename_i p _ _; simp only [NR.Holds] at h; subst h; cases p <;> exact ⟨by simp [Op.equalIn, under_run0 hd], rfl, rfl, rfl, rfl⟩
      · exact h.elim
    · exact h.elim
  · rename_i hd
    have hd := hG.und _ _ hd
    split at h
    · have := hf _ rfl; subst this
      split at h
      · rename_i p; simp only [NR.Holds] at h; subst h; cases p <;> exact ⟨by simp [Op.equalIn, under_run0 hd], rfl, rfl, rfl, rfl⟩
      · exact h.elim
    · exact h.elim
  · rename_i hd
    have hd := hG.und _ _ hd
    split at h
    · have := hf _ rfl; subst this
      obtain ⟨h1, h2⟩ := h
      subst h2
      unfold isI at h1
      split at h1 <;> first | (cases h1; done) | exact ⟨by simp [Op.equalIn, under_run0 hd, isNilI], rfl, rfl, rfl, rfl⟩ | exact ⟨by simp [Op.equalIn, under_run0 hd, isNilI], by simp [eqGuard], by simp [eqGuard], rfl, rfl⟩
    · exact h.elim
  · rename_i hd
    have hd := hG.und _ _ hd
    split at h
    · have := hf _ rfl; subst this
      obtain ⟨h1, h2⟩ := h
      subst h2
      unfold isF at h1
      split at h1 <;> first | (cases h1; done) | exact ⟨by simp [Op.equalIn, under_run0 hd, isNilF], rfl, rfl, rfl, rfl⟩
    · exact h.elim
  · exact h.elim
theorem bin_run (hG : G.Ok P) {op : BinOp} {t : TypeId} {xo yo : Operand} {x y v : Value} (h : (bin G op t yo x y).Holds v) (hf : ∀ u, yo = .const u → y = u) (w : World) :
    (do eqGuard op t xo yo x y; binOp op t x y : Sem Value).run P w = .ok v w := by
  unfold bin at h
  split at h
  · split at h
    · rename_i k a
      split at h
      · rename_i k' b
        have hg : eqGuard op t xo yo (.int k a) (.int k' b) = pure () := by
          cases op <;> rfl
        rw [hg]
        cases op <;> simp only at h
        case shl | shr =>
          obtain ⟨h0, rfl⟩ := h
          simp [go_sem, binOp, Op.shift, shlI, shrI]
          omega
        all_goals
          cases hk : sameK k k' with
          | false => rw [hk] at h; exact h.elim
          | true =>
            rw [hk] at h
            have := sameK_eq hk; subst this
            simp only [binI, PR.Holds] at h
            first
              | (obtain ⟨h0, rfl⟩ := h; simp [go_sem, binOp, Op.intDiv, h0]; done)
              | (subst h; simp [go_sem, binOp, Op.intArith, Op.intBits, Op.intCmp, andI, orI, xorI, andNotI]; done)
              | exact h.elim
      · exact h.elim
    · rename_i a
      split at h
      · rename_i b
        have hg : eqGuard op t xo yo (.string a) (.string b) = pure () := by
          cases op <;> rfl
        rw [hg]
        cases op <;> simp only [binS, PR.Holds] at h
        case add =>
          obtain ⟨h0, rfl⟩ := h
          have h1 : ¬ ((a.size + b.size : Nat) : Int) > IntKind.i64.max := by omega
          show (Op.stringOp .add a b).run P w = _
          unfold Op.stringOp
          simp only [if_neg h1]; rfl
        all_goals first | exact h.elim | (subst h; simp [go_sem, binOp, Op.stringOp]; done)
      · exact h.elim
    · exact h.elim
  · cases op
    case eql =>
      obtain ⟨b, hb, rfl⟩ := NR.pr_holds h
      obtain ⟨hr, h1, _, h2, _⟩ := eqV_ok hG (d := 9999) (xo := xo) hb hf w
      have hr : (Op.equal t x y).run P w = .ok b w := hr
      rw [h1, h2]; simp [go_sem, hr]
    case neq =>
      obtain ⟨b, hb, rfl⟩ := NR.pr_holds h
      obtain ⟨hr, _, h1, _, h2⟩ := eqV_ok hG (d := 9999) (xo := xo) hb hf w
      have hr : (Op.equal t x y).run P w = .ok b w := hr
      rw [h1, h2]; simp [go_sem, hr]
    all_goals exact h.elim
theorem un_run {op : UnOp} {x v : Value} (h : (un op x).Holds v) (w : World) : (Op.unary op x).run P w = .ok v w := by
  unfold un at h
  split at h
  · subst h; simp [Op.unary, go_sem]
  · subst h; simp [Op.unary, Op.intArith, go_sem]
  · subst h; simp [Op.unary, Op.intBits, notI, xorI, go_sem]
  · exact h.elim
theorem conv_run (hG : G.Ok P) {s d : TypeId} {x v : Value} (h : (conv G s d x).Holds v) (w : World) : (convert s d x).run P w = .ok v w := by
  unfold conv at h
  split at h
  · rename_i a b hs hd
    have hs := hG.und _ _ hs
    have hd := hG.und _ _ hd
    subst h; simp [convert, underlying, hs, hd, Conv.intToInt, go_sem]
  · rename_i a b hs hd
    have hs := hG.und _ _ hs
    have hd := hG.und _ _ hd
    subst h; simp [convert, underlying, hs, hd, go_sem]
  · exact h.elim
end Go.Sh
