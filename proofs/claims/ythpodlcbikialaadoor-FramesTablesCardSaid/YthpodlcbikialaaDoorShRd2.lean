import Derived.Test.YthpodlcbikialaaDoorShRd
namespace Go.Sh
variable {P : Program} {G : Tab}

/-! ## operations that read or only compute -/
def evL (e : Env) : List Operand → Option (List Value)
  | [] => some []
  | x :: r => match ev e x, evL e r with
    | some v, some l => some (v :: l)
    | _, _ => none
def evP (e : Env) : List (Nat × Operand) → Option (List (Nat × Value))
  | [] => some []
  | (i, x) :: r => match ev e x, evP e r with
    | some v, some l => some ((i, v) :: l)
    | _, _ => none
def binSem (op : BinOp) (t : TypeId) (x y : Operand) (a b : Value) : Sem Value := do eqGuard op t x y a b; binOp op t a b
/-- the run of an operation over operands that are known -/
def insV (e : Env) (o : Oper) : Option (Sem Value) :=
  match o.op with
  | .binOp op t x y _ => match ev e x, ev e y with
    | some a, some b => some (binSem op t x y a b)
    | _, _ => none
  | .unOp op _ x => match ev e x with
    | some a => some (Op.unary op a)
    | none => none
  | .convert s d x => match ev e x with
    | some a => some (convert s d a)
    | none => none
  | .sliceToArrayPointer t x => match ev e x with
    | some a => some (Instr.arrayAt t a)
    | none => none
  | .lookup t x i ok => match ev e x, ev e i with
    | some a, some b => some (Instr.lookup t a b ok)
    | _, _ => none
  | .index t x i => match ev e x, ev e i with
    | some a, some b => some (Instr.index t a b)
    | _, _ => none
  | .fieldAddr t x f => match ev e x with
    | some a => some (Instr.fieldAt t a f)
    | none => none
  | .typeAssert x t u ok => match ev e x with
    | some a => some (Instr.typeAssert a t u ok)
    | none => none
  | .makeSlice t l c => match ev e l, ev e c with
    | some a, some b => some (Instr.makeSlice t a b)
    | _, _ => none
  | .makeMap t none => some (Instr.makeMap t none)
  | .makeMap t (some x) => match ev e x with
    | some a => some (Instr.makeMap t (some a))
    | none => none
  | .mapEntry t m k => match ev e m, ev e k with
    | some a, some b => some (Instr.mapEntry t a b)
    | _, _ => none
  | .range t x => match ev e x with
    | some a => some (Instr.range t a)
    | none => none
  | .next x b => match ev e x with
    | some a => some (Instr.next a b o.type)
    | none => none
  | .entry x => match ev e x with
    | some a => some (Instr.entry a)
    | none => none
  | .buildSlice t n parts => match evP e parts.toList with
    | some ps => some (Instr.buildSlice t n ps.toArray)
    | none => none
  | .call c => match c.callee, evL e c.args.toList with
    | .builtin .append, some l => some (Builtin.append_ c.argTypes o.type l.toArray)
    | .builtin .copy, some l => some (Builtin.copy_ c.argTypes o.type l.toArray)
    | .builtin .delete, some l => some (Builtin.delete_ c.argTypes o.type l.toArray)
    | .builtin .clear, some l => some (Builtin.clear_ c.argTypes o.type l.toArray)
    | .builtin .len, some l => some (Builtin.len_ c.argTypes o.type l.toArray)
    | .builtin .cap, some l => some (Builtin.cap_ c.argTypes o.type l.toArray)
    | .builtin .min, some l => some (Builtin.min_ c.argTypes o.type l.toArray)
    | .builtin .max, some l => some (Builtin.max_ c.argTypes o.type l.toArray)
    | _, _ => none
  | _ => none

def held (s : Option (World → Prop)) (w : World) : Prop := match s with | none => True | some s => s w
def RunR (P : Program) (s : Sem Value) (w : World) (K : Value → Prop) : Prop := ∃ v, s.run P w = .ok v w ∧ K v
/-- the same, where the run asks nothing of memory -/
def RunP (P : Program) (s : Sem Value) (K : Value → Prop) : Prop := ∃ v, (∀ w, s.run P w = .ok v w) ∧ K v
def RawP (P : Program) (G : Tab) (e : Env) (o : Oper) (K : Value → Option (World → Prop) → Prop) : Prop :=
  match insV e o with
  | some s => RunP P s fun v => As (shT G 12 o.type) v fun v => K v none
  | none => False
/-- an operation whose run we are told: the fallback -/
def RawR (P : Program) (G : Tab) (e : Env) (o : Oper) (w : World) (K : Value → Option (World → Prop) → Prop) : Prop :=
  match insV e o with
  | some s => RunR P s w fun v => As (shT G 12 o.type) v fun v => K v (some fun w' => s.run P w' = .ok v w')
  | none => False

def Ld (w : World) (a : Addr) (K : Value → Prop) : Prop := ∃ v, w.cell? a = some v ∧ K v
def NilP (p : Option Addr) (K : Addr → Prop) : Prop := match p with | some a => K a | none => False
theorem NilP.out {p : Option Addr} {K : Addr → Prop} (h : NilP p K) : ∃ a, p = some a ∧ K a := by
  cases p with
  | none => exact False.elim h
  | some a => exact ⟨a, rfl, h⟩

def at0 (a : Addr) (n : Nat) : Addr := match n with | 0 => a | n + 1 => { a with off := a.off + (n + 1), spot := none }
/-- n cells from place i of a on, of these shapes -/
def ldN (w : World) (a : Addr) : List Sh → Nat → (List Value → (World → Prop) → Prop) → Prop
  | [], _, K => K [] tt
  | h :: t, i, K => Ld w (at0 a i) fun v => As h v fun v => ldN w a t (i + 1) fun vs s => K (v :: vs) fun w' => w'.cell? (at0 a i) = some v ∧ s w'

def isAggD : TypeDesc → Bool
  | .struct _ => true
  | .array _ _ => true
  | _ => false

def ld (G : Tab) (t : TypeId) (a : Addr) (w : World) (K : Value → (World → Prop) → Prop) : Prop :=
  match G.und t with
  | none => False
  | some d => match isAggD d with
    | false => Ld w a fun v => As (shT G 12 t) v fun v => K v fun w' => w'.cell? a = some v
    | true => match G.siz t with
      | none => False
      | some n => let l := shC G 12 t; match Nat.beq l.length n with
        | true => ldN w a l 0 fun vs s => K (.agg vs.toArray) s
        | false => False

/-- a part of a struct or an array that is at hand -/
def prt (G : Tab) (t : TypeId) (cs : Array Value) (off : Nat) (K : Value → Prop) : Prop :=
  match G.und t with
  | none => False
  | some d => match isAggD d with
    | true => match G.siz t with
      | none => False
      | some n => K (.agg ((cs.toList.drop off).take n).toArray)
    | false => match cs.toList[off]? with
      | some v => K v
      | none => False

/-- one bound of a reslicing -/
def bnd (x : Option Value) (dflt ub : Nat) (K : Nat → Prop) : Prop :=
  match x with
  | none => K dflt
  | some (.int _ i) => 0 ≤ i ∧ i ≤ (ub : Int) ∧ K i.toNat
  | some _ => False
def evO (e : Env) : Option Operand → Option (Option Value)
  | none => some none
  | some x => match ev e x with | some v => some (some v) | none => none

def slAddr (a : Option Addr) (l m size : Nat) : Option Addr := if m = l then a else a.map fun a => at0 a (l * size)

def slc (G : Tab) (t : TypeId) (x : Value) (lo hi : Option Value) (D : Prop) (K : Value → Prop) : Prop :=
  match G.und t, x with
  | some (.string), .string s => bnd hi s.size s.size fun h => bnd lo 0 h fun l => K (.string (s.extract l h))
  | some (.slice e), .slice a n c => match G.siz e with
    | none => False
    | some z => bnd hi n c fun h => bnd lo 0 h fun l => K (.slice (slAddr a l c z) (h - l) (c - l))
  | some (.array n e), .pointer (some a) => match G.siz e with
    | none => False
    | some z => bnd hi n n fun h => bnd lo 0 h fun l => K (.slice (slAddr (some a) l n z) (h - l) (n - l))
  | _, _ => D

def idxA (G : Tab) (t : TypeId) (x i : Value) (K : Value → Prop) : Prop :=
  match G.und t, x, i with
  | some (.slice e), .slice b n _, .int _ i => match G.siz e with
    | none => False
    | some z => NilP b fun a => 0 ≤ i ∧ i < (n : Int) ∧ K (.pointer (some (at0 a (i.toNat * z))))
  | some (.array n e), .pointer b, .int _ i => match G.siz e with
    | none => False
    | some z => NilP b fun a => 0 ≤ i ∧ i < (n : Int) ∧ K (.pointer (some (at0 a (i.toNat * z))))
  | _, _, _ => False

def fldA (G : Tab) (t : TypeId) (x : Value) (f : Nat) (D : Prop) (K : Value → Prop) : Prop :=
  match G.und t, x with
  | some (.struct fs), .pointer b => match fs.toList[f]? with
    | none => False
    | some g => match G.siz g.type with
      | some (_ + 1) => NilP b fun a => K (.pointer (some (at0 a g.offset)))
      | _ => D
  | _, _ => False

/-- what 'fill' of a build leaves, by places that are known -/
def places (G : Tab) : List Field → Option (List (Nat × Nat))
  | [] => some []
  | f :: r => match G.siz f.type, places G r with
    | some z, some l => some ((f.offset, z) :: l)
    | _, _ => none

def nilChk (v : Value) (K : Value → Prop) : Prop :=
  match v with
  | .pointer p => NilP p fun a => K (.pointer (some a))
  | .iface t v => K (.iface t v)
  | .func (.func f) a b => K (.func (.func f) a b)
  | .func (.via t p f b) x y => K (.func (.via t p f b) x y)
  | .func (.yield l) x y => K (.func (.yield l) x y)
  | _ => False

def lenV (d : Option TypeDesc) (x : Value) : Option Int :=
  match d, x with
  | some .string, .string s => some s.size
  | some (.array n _), _ => some n
  | some (.slice _), .slice _ n _ => some n
  | some (.map _ _), .map none => some 0
  | _, _ => none
def capV (d : Option TypeDesc) (x : Value) : Option Int :=
  match d, x with
  | some (.array n _), _ => some n
  | some (.slice _), .slice _ _ n => some n
  | _, _ => none

def bld (G : Tab) (t : TypeId) (ps : List (Nat × Value)) (K : Value → Prop) : Prop :=
  match G.zer t, G.und t with
    | some z, some (.struct fs) => match places G fs.toList with
      | some l => match Instr.fill (fun i => l[i]?) z.cells ps with
        | some cs => K (.agg cs)
        | none => False
      | none => False
    | some z, some (.array _ el) => match G.siz el with
      | some n => match Instr.fill (fun i => some (i * n, n)) z.cells ps with
        | some cs => K (.agg cs)
        | none => False
      | none => False
    | _, _ => False

def rd (P : Program) (G : Tab) (e : Env) (o : Oper) (w : World) (K : Value → Option (World → Prop) → Prop) : Prop :=
  match o.op with
  | .move x => match ev e x with | some v => K v none | none => False
  | .assign x => match ev e x with | some v => K v none | none => False
  | .pick c a b => match ev e c, ev e a, ev e b with
    | some (.bool t), some x, some y => match t with
      | true => K x none
      | false => K y none
    | _, _, _ => False
  | .load t a => match ev e a with
    | some (.pointer b) => NilP b fun a => ld G t a w fun v s => K v (some s)
    | _ => False
  | .nilCheck x => match ev e x with
    | some v => nilChk v fun v => K v none
    | none => False
  | .binOp op t x y _ => match ev e x, ev e y with
    | some a, some b => (bin G op t y a b).use (RawP P G e o K) fun v => K v none
    | _, _ => False
  | .unOp op _ x => match ev e x with
    | some a => (un op a).use (RawP P G e o K) fun v => K v none
    | _ => False
  | .convert s d x => match ev e x with
    | some a => (conv G s d a).use (RawP P G e o K) fun v => K v none
    | _ => False
  | .fieldAddr t x f => match ev e x with
    | some v => fldA G t v f (RawR P G e o w K) fun v => K v none
    | none => False
  | .field t x f => match G.und t, ev e x with
    | some (.struct fs), some (.agg cs) => match fs.toList[f]? with
      | some g => prt G g.type cs g.offset fun v => K v none
      | none => False
    | _, _ => False
  | .indexAddr t x i => match ev e x, ev e i with
    | some v, some i => idxA G t v i fun v => K v none
    | _, _ => False
  | .index t x i => match G.und t, ev e x, ev e i with
    | some (.string), some (.string s), some (.int _ i) => 0 ≤ i ∧ ∃ b, s[i.toNat]? = some b ∧ K (.int .u8 b.toNat) none
    | some (.array n el), some (.agg cs), some (.int _ i) => match G.und el, G.siz el with
      | some d, some z => match isAggD d with
        | false => 0 ≤ i ∧ i < (n : Int) ∧ ∃ v, cs[i.toNat * z]? = some v ∧ As (shT G 12 el) v fun v => K v none
        | true => RawP P G e o K
      | _, _ => RawP P G e o K
    | _, _, _ => RawP P G e o K
  | .slice t x lo hi none => match ev e x, evO e lo, evO e hi with
    | some v, some l, some h => slc G t v l h (RawR P G e o w K) fun v => K v none
    | _, _, _ => False
  | .extract x i => match ev e x with
    | some (.tuple vs) => match vs.toList[i]? with
      | some v => K v none
      | none => False
    | _ => False
  | .makeInterface t x => match G.und t, ev e x with
    | some (.interface _), _ => False
    | some _, some v => K (.iface t v) none
    | _, _ => False
  | .makeFunc f a b => match evL e a.toList, evL e b.toList with
    | some xs, some ys => K (.func f xs.toArray ys.toArray) none
    | _, _ => False
  | .build t parts => match evP e parts.toList with
    | some ps => bld G t ps fun v => K v none
    | none => False
  | .call c => match c.callee, c.args.toList, c.argTypes.toList with
    | .builtin .len, [x], [t] => match ev e x with
      | some v => match lenV (G.und t) v with
        | some n => K (.int .i64 n) none
        | none => RawR P G e o w K
      | none => False
    | .builtin .cap, [x], [t] => match ev e x with
      | some v => match capV (G.und t) v with
        | some n => K (.int .i64 n) none
        | none => RawR P G e o w K
      | none => False
    | .builtin .min, [x, y], _ => match ev e x, ev e y with
      | some (.int k a), some (.int _ b) => K (.int k (if b < a then b else a)) none
      | _, _ => RawR P G e o w K
    | .builtin .max, [x, y], _ => match ev e x, ev e y with
      | some (.int k a), some (.int _ b) => K (.int k (if b > a then b else a)) none
      | _, _ => RawR P G e o w K
    | _, _, _ => RawR P G e o w K
  | _ => RawR P G e o w K

/-- which operations 'rd' is for -/
def isR (G : Tab) (o : Op) : Bool :=
  match o with
  | .move _ | .assign _ | .pick .. | .load .. | .nilCheck _ | .binOp .. | .unOp .. | .fieldAddr .. | .field .. | .indexAddr .. | .index .. | .slice ..
  | .extract .. | .makeInterface .. | .lookup .. | .typeAssert .. | .makeFunc .. | .build .. => true
  | .convert s d _ => match G.und s, G.und d with
    | some (.slice _), _ => false
    | _, some (.slice _) => false
    | _, _ => true
  | .call c => match c.callee with
    | .builtin .len | .builtin .cap | .builtin .min | .builtin .max => true
    | _ => false
  | _ => false
theorem at0_add (a : Addr) (n : Nat) : at0 a n = a.add n := by
  cases n <;> simp [at0, Addr.add]
theorem evL_ok {e : Env} {nt : Nat} {a : Act} (ha : Ok nt e a) : ∀ {l : List Operand} {vs : List Value}, evL e l = some vs → l.map a.eval = vs
  | [], vs, h => by simp [evL] at h; simp [h]
  | x :: r, vs, h => by
    simp only [evL] at h
    split at h
    · rename_i v l hv hl; injection h with h; subst h; simp [ha.ev hv, evL_ok ha hl]
    · cases h
theorem evP_ok {e : Env} {nt : Nat} {a : Act} (ha : Ok nt e a) : ∀ {l : List (Nat × Operand)} {vs : List (Nat × Value)}, evP e l = some vs → l.map (fun (i, x) => (i, a.eval x)) = vs
  | [], vs, h => by simp [evP] at h; simp [h]
  | (i, x) :: r, vs, h => by
    simp only [evP] at h
    split at h
    · rename_i v l hv hl; injection h with h; subst h; simpa [ha.ev hv] using evP_ok ha hl
    · cases h

theorem under_run {t : TypeId} {d : TypeDesc} (h : P.underlying t = some d) (w : World) : (underlying t).run P w = .ok d w := by simp [underlying, h]
theorem size_run {t : TypeId} {z : Nat} (h : sizeP P t = some z) (w : World) : (sizeOf t).run P w = .ok z w := by
  unfold sizeP at h
  cases hi : P.info? t with
  | none => rw [hi] at h; cases h
  | some i => rw [hi] at h; injection h with h; subst h; simp [sizeOf, typeInfo, hi]
theorem isAgg_run {t : TypeId} {d : TypeDesc} (h : P.underlying t = some d) (w : World) : (isAgg t).run P w = .ok (isAggD d) w := by
  cases d <;> simp [isAgg, under_run h, isAggD]

theorem ldN_ok {w : World} {a : Addr} : ∀ {l : List Sh} {i : Nat} {K : List Value → (World → Prop) → Prop}, ldN w a l i K →
    ∃ vs s, K vs s ∧ s w ∧ vs.length = l.length ∧ ∀ w', s w' → ∀ acc : Array Value, (loadCellsFrom a i l.length acc).run P w' = .ok (acc ++ vs.toArray) w'
  | [], i, K, h => ⟨[], tt, h, trivial, rfl, fun w' _ acc => by simp [loadCellsFrom]⟩
  | h :: t, i, K, ⟨v, hv, hh⟩ => by
    obtain ⟨vs, s, hK, hs, hlen, hrun⟩ := ldN_ok (As.elim hh)
    refine ⟨v :: vs, _, hK, ⟨hv, hs⟩, by simp [hlen], fun w' hw acc => ?_⟩
    obtain ⟨h1, h2⟩ := hw
    rw [at0_add] at h1
    have := hrun w' h2 (acc.push v)
    simp only [List.length_cons, loadCellsFrom, Sem.run_bind, run_load, h1, Result.andThen, this]
    simp
theorem ld_ok (hG : G.Ok P) {t : TypeId} {a : Addr} {w : World} {K : Value → (World → Prop) → Prop} (h : ld G t a w K) :
    ∃ v s, K v s ∧ s w ∧ ∀ w', s w' → (loadVar t a).run P w' = .ok v w' := by
  unfold ld at h
  split at h
  · exact h.elim
  rename_i d hd
  split at h
  · rename_i hag
    obtain ⟨v, hv, hh⟩ := h
    refine ⟨v, _, As.elim hh, hv, fun w' hw => ?_⟩
    unfold loadVar
    simp [isAgg_run (hG.und _ _ hd), hag, hw]
  · rename_i hag
    split at h
    · exact h.elim
    rename_i n hn
    simp only at h
    split at h
    · rename_i hb
      have hbl := Nat.eq_of_beq_eq_true hb
      obtain ⟨vs, s, hK, hs, hlen, hrun⟩ := ldN_ok (P := P) h
      refine ⟨_, s, hK, hs, fun w' hw => ?_⟩
      unfold loadVar
      have := hrun w' hw #[]
      rw [hbl] at this
      simp [isAgg_run (hG.und _ _ hd), hag, size_run (hG.siz _ _ hn), loadCells, this]
    · exact h.elim
theorem prt_ok (hG : G.Ok P) {t : TypeId} {cs : Array Value} {off : Nat} {K : Value → Prop} (h : prt G t cs off K) :
    ∃ v, K v ∧ ∀ w, (part t cs off).run P w = .ok v w := by
  unfold prt at h
  split at h
  · exact h.elim
  rename_i d hd
  split at h
  · rename_i hag
    split at h
    · exact h.elim
    rename_i n hn
    refine ⟨_, h, fun w => ?_⟩
    simp only [part, Sem.run_bind, isAgg_run (hG.und _ _ hd), hag, Result.andThen_ok, if_true, size_run (hG.siz _ _ hn)]
    have : cs.extract off (off + n) = ((cs.toList.drop off).take n).toArray := by
      apply Array.ext'; simp [List.extract_eq_take_drop]
    simp [this]
  · rename_i hag
    split at h
    · rename_i v hv
      refine ⟨_, h, fun w => ?_⟩
      have : cs[off]? = some v := by simpa using hv
      simp [part, isAgg_run (hG.und _ _ hd), hag, this]
    · exact h.elim
theorem bnd_ok {x : Option Value} {dflt ub : Nat} {K : Nat → Prop} (h : bnd x dflt ub K) :
    ∃ n, K n ∧ (x = none ∧ n = dflt ∨ ∃ v, x = some v ∧ ∀ c w, (Instr.sliceBound v ub c).run P w = .ok n w) := by
  unfold bnd at h
  split at h
  · exact ⟨_, h, .inl ⟨rfl, rfl⟩⟩
  · rename_i k i
    obtain ⟨h0, h1, hK⟩ := h
    exact ⟨_, hK, .inr ⟨_, rfl, fun c w => by simp [Instr.sliceBound, asIntOf, h0, h1]⟩⟩
  · exact h.elim
theorem bounds_ok {b : Bool} {len cap : Nat} {lo hi : Option Value} {K : Nat → Nat → Prop}
    (h : bnd hi len cap fun h => bnd lo 0 h fun l => K l h) :
    ∃ l h, K l h ∧ ∀ w, (Instr.sliceBounds b len cap lo hi none).run P w = .ok (l, h, cap) w := by
  obtain ⟨h, hl, hh⟩ := bnd_ok (P := P) h
  obtain ⟨l, hK, hll⟩ := bnd_ok (P := P) hl
  refine ⟨l, h, hK, fun w => ?_⟩
  rcases hh with ⟨rfl, rfl⟩ | ⟨v, rfl, hv⟩ <;> rcases hll with ⟨rfl, rfl⟩ | ⟨u, rfl, hu⟩ <;> simp [Instr.sliceBounds, *]
theorem slAddr_eq (a : Option Addr) (l m z : Nat) : slAddr a l m z = if m = l then a else a.map (·.add (l * z)) := by
  unfold slAddr; congr 1; cases a <;> simp [at0_add]
theorem slc_ok (hG : G.Ok P) {t : TypeId} {x : Value} {lo hi : Option Value} {D : Prop} {K : Value → Prop} (h : slc G t x lo hi D K) :
    D ∨ ∃ v, K v ∧ ∀ w, (Instr.sliceAt t x lo hi none).run P w = .ok v w := by
  unfold slc at h
  split at h
  · rename_i s hu
    obtain ⟨l, h', hK, hr⟩ := bounds_ok (P := P) (b := false) (K := fun l h => K (.string (s.extract l h))) h
    exact .inr ⟨_, hK, fun w => by simp [Instr.sliceAt, under_run (hG.und _ _ hu), Instr.slice, hr]⟩
  · rename_i e a n c hu
    split at h
    · exact h.elim
    rename_i z hz
    obtain ⟨l, h', hK, hr⟩ := bounds_ok (P := P) (b := true) (K := fun l h => K (.slice (slAddr a l c z) (h - l) (c - l))) h
    exact .inr ⟨_, hK, fun w => by simp [Instr.sliceAt, under_run (hG.und _ _ hu), Instr.slice, hr, size_run (hG.siz _ _ hz), slAddr_eq]⟩
  · rename_i n e a hu
    split at h
    · exact h.elim
    rename_i z hz
    obtain ⟨l, h', hK, hr⟩ := bounds_ok (P := P) (b := false) (K := fun l h => K (.slice (slAddr (some a) l n z) (h - l) (n - l))) h
    refine .inr ⟨_, hK, fun w => ?_⟩
    have : slAddr (some a) l n z = some (if n = l then a else a.add (l * z)) := by rw [slAddr_eq]; split <;> rfl
    simp [Instr.sliceAt, under_run (hG.und _ _ hu), Instr.sureAddr, hr, size_run (hG.siz _ _ hz), this]
  · exact .inl h
theorem idxA_ok (hG : G.Ok P) {t : TypeId} {x i : Value} {K : Value → Prop} (h : idxA G t x i K) : ∃ v, K v ∧ ∀ w, (Instr.indexAt t x i).run P w = .ok v w := by
  unfold idxA at h
  split at h
  · rename_i e b n c k i hu
    split at h
    · exact h.elim
    rename_i z hz
    obtain ⟨a, rfl, h0, h1, hK⟩ := NilP.out h
    exact ⟨_, hK, fun w => by simp [Instr.indexAt, asIntOf, under_run (hG.und _ _ hu), size_run (hG.siz _ _ hz), h0, h1, at0_add]⟩
  · rename_i n e b k i hu
    split at h
    · exact h.elim
    rename_i z hz
    obtain ⟨a, rfl, h0, h1, hK⟩ := NilP.out h
    exact ⟨_, hK, fun w => by simp [Instr.indexAt, asIntOf, under_run (hG.und _ _ hu), size_run (hG.siz _ _ hz), h0, h1, at0_add, Instr.sureAddr]⟩
  · exact h.elim
theorem fldA_ok (hG : G.Ok P) {t : TypeId} {x : Value} {f : Nat} {D : Prop} {K : Value → Prop} (h : fldA G t x f D K) :
    D ∨ ∃ v, K v ∧ ∀ w, (Instr.fieldAt t x f).run P w = .ok v w := by
  unfold fldA at h
  split at h
  · rename_i fs b hu
    split at h
    · exact h.elim
    rename_i g hg
    split at h
    · rename_i z hz
      obtain ⟨a, rfl, hK⟩ := NilP.out h
      have hg' : fs[f]? = some g := by simpa using hg
      exact .inr ⟨_, hK, fun w => by simp [Instr.fieldAt, under_run (hG.und _ _ hu), hg', Instr.sureAddr, fieldPlace, size_run (hG.siz _ _ hz), at0_add]⟩
    · exact .inl h
  · exact h.elim
theorem nilChk_ok {x : Value} {K : Value → Prop} (h : nilChk x K) : ∃ v, K v ∧ ∀ (o : Oper) (y : Operand) (ρ : Operand → Value) w, o.op = .nilCheck y → ρ y = x → (execOp ρ o).run P w = .ok (.value v) w := by
  unfold nilChk at h
  split at h
  · obtain ⟨a, rfl, hK⟩ := NilP.out h
    exact ⟨_, hK, fun o y ρ w ho hy => by simp [execOp, ho, hy]⟩
  all_goals first
    | exact ⟨_, h, fun o y ρ w ho hy => by simp [execOp, ho, hy]⟩
    | exact h.elim
theorem lenV_ok (hG : G.Ok P) {t ty : TypeId} {x : Value} {n : Int} (h : lenV (G.und t) x = some n) (w : World) : (Builtin.len_ #[t] ty #[x]).run P w = .ok (.int .i64 n) w := by
  cases hu : G.und t with
  | none => rw [hu] at h; simp [lenV] at h
  | some d =>
    rw [hu] at h
    have hu := hG.und _ _ hu
    unfold lenV at h
    split at h <;> simp only [Option.some.injEq, reduceCtorEq] at h <;> subst h <;> rename_i hd <;> simp only [Option.some.injEq] at hd <;> subst hd <;>
      simp [Builtin.len_, under_run hu, goInt]
theorem capV_ok (hG : G.Ok P) {t ty : TypeId} {x : Value} {n : Int} (h : capV (G.und t) x = some n) (w : World) : (Builtin.cap_ #[t] ty #[x]).run P w = .ok (.int .i64 n) w := by
  cases hu : G.und t with
  | none => rw [hu] at h; simp [capV] at h
  | some d =>
    rw [hu] at h
    have hu := hG.und _ _ hu
    unfold capV at h
    split at h <;> simp only [Option.some.injEq, reduceCtorEq] at h <;> subst h <;> rename_i hd <;> simp only [Option.some.injEq] at hd <;> subst hd <;>
      simp [Builtin.cap_, under_run hu, goInt]
theorem places_ok (hG : G.Ok P) : ∀ {fs : List Field} {l : List (Nat × Nat)}, places G fs = some l → ∀ w, (fs.mapM fun f => do pure (f.offset, ← sizeOf f.type) : Sem (List (Nat × Nat))).run P w = .ok l w
  | [], l, h, w => by simp [places] at h; subst h; rfl
  | f :: r, l, h, w => by
    simp only [places] at h
    split at h
    · rename_i z l' hz hl
      injection h with h; subst h
      simp only [List.mapM_cons, Sem.run_bind, size_run (hG.siz _ _ hz), Result.andThen_ok, Sem.run_pure, places_ok hG hl w]
    · cases h
theorem zero_run {t : TypeId} {z : Value} (h : zeroP P t = some z) (w : World) : (zeroValue t).run P w = .ok z w := by
  unfold zeroP at h
  cases hi : P.info? t with
  | none => rw [hi] at h; cases h
  | some i => rw [hi] at h; simp only at h; simp [zeroValue, typeInfo, hi, h]
theorem bld_ok (hG : G.Ok P) {t : TypeId} {ps : List (Nat × Value)} {K : Value → Prop} (h : bld G t ps K) : ∃ v, K v ∧ ∀ w, (Instr.build t ps.toArray).run P w = .ok v w := by
  unfold bld at h
  split at h
  · rename_i z fs hz hu
    split at h
    · rename_i l hl
      split at h
      · rename_i cs hcs
        refine ⟨_, h, fun w => ?_⟩
        have hp := places_ok hG hl w
        simp only [Instr.build, Sem.run_bind, zero_run (hG.zer _ _ hz), Result.andThen_ok, under_run (hG.und _ _ hu)]
        rw [← Array.toArray_toList (xs := fs)] 
        simp only [List.mapM_toArray, Sem.run_map, hp, Result.andThen_ok]
        simp [hcs]
      · exact h.elim
    · exact h.elim
  · rename_i z n el hz hu
    split at h
    · rename_i n hn
      split at h
      · rename_i cs hcs
        refine ⟨_, h, fun w => ?_⟩
        simp [Instr.build, zero_run (hG.zer _ _ hz), under_run (hG.und _ _ hu), size_run (hG.siz _ _ hn), hcs]
      · exact h.elim
    · exact h.elim
  · exact h.elim

theorem PR.use_ok {r : PR} {D : Prop} {K : Value → Prop} (h : r.use D K) : D ∨ ∃ v, K v ∧ r.Holds v := by
  cases r with
  | no => exact .inl h
  | t v => exact .inr ⟨v, h, rfl⟩
  | c p v => exact .inr ⟨v, h.2, h.1, rfl⟩
  | nz b v => have h := NZ.out h; exact .inr ⟨v, h.2, h.1, rfl⟩
  | nn b v => have h := NN.out h; exact .inr ⟨v, h.2, h.1, rfl⟩

theorem insV_ok {nt : Nat} {e : Env} {o : Oper} {s : Sem Value} {a : Act} (h : insV e o = some s) (ha : Ok nt e a) :
    execOp a.eval o = (do pure (.value (← s))) := by
  unfold insV at h
  split at h <;> rename_i ho
  case h_16 t n parts =>
    split at h <;> simp only [Option.some.injEq, reduceCtorEq] at h
    rename_i ps hp; subst h
    have e1 : parts.map (fun (i, x) => (i, a.eval x)) = ps.toArray := by apply Array.ext'; simp [← evP_ok ha hp]
    simp only [execOp, ho, e1]
  case h_17 c =>
    obtain ⟨cal, args, tys⟩ := c
    simp only at h
    split at h <;> simp only [Option.some.injEq, reduceCtorEq] at h <;> rename_i l hl <;> subst h <;>
      (have e1 : args.map a.eval = l.toArray := by (apply Array.ext'; simp [← evL_ok ha hl])) <;>
      (simp only [execOp, ho, resolve, e1]; rfl)
  all_goals first
    | (cases h; done)
    | (split at h <;> simp only [Option.some.injEq, reduceCtorEq] at h <;> subst h <;> rename_i h1 h2 <;> simp only [execOp, ho, ha.ev h1, ha.ev h2, binSem] <;> done)
    | (split at h <;> simp only [Option.some.injEq, reduceCtorEq] at h <;> subst h <;> rename_i h1 <;> simp only [execOp, ho, ha.ev h1, Option.map] <;> done)
    | (injection h with h; subst h; simp only [execOp, ho, Option.map])

theorem RawR_ok {nt : Nat} {e : Env} {o : Oper} {w : World} {K : Value → Option (World → Prop) → Prop} (h : RawR P G e o w K) :
    ∃ v s, K v s ∧ held s w ∧ ∀ a w', Ok nt e a → held s w' → (execOp a.eval o).run P w' = .ok (.value v) w' := by
  unfold RawR at h
  split at h
  · rename_i s hs
    obtain ⟨v, hr, hv⟩ := h
    refine ⟨v, _, As.elim hv, hr, fun a w' ha hw => ?_⟩
    rw [insV_ok hs ha]
    have hw : s.run P w' = .ok v w' := hw
    simp [hw]
  · exact h.elim

theorem RawP_ok {nt : Nat} {e : Env} {o : Oper} {w : World} {K : Value → Option (World → Prop) → Prop} (h : RawP P G e o K) :
    ∃ v s, K v s ∧ held s w ∧ ∀ a w', Ok nt e a → held s w' → (execOp a.eval o).run P w' = .ok (.value v) w' := by
  unfold RawP at h
  split at h
  · rename_i s hs
    obtain ⟨v, hr, hv⟩ := h
    refine ⟨v, none, As.elim hv, trivial, fun a w' ha hw => ?_⟩
    rw [insV_ok hs ha]
    simp [hr w']
  · exact h.elim

theorem rd_ok (hG : G.Ok P) {nt : Nat} {e : Env} {o : Oper} {w : World} {K : Value → Option (World → Prop) → Prop} (h : rd P G e o w K) :
    ∃ v s, K v s ∧ held s w ∧ ∀ a w', Ok nt e a → held s w' → (execOp a.eval o).run P w' = .ok (.value v) w' := by
  unfold rd at h
  split at h
  · rename_i x ho
    split at h
    · rename_i v hv; exact ⟨v, none, h, trivial, fun a w' ha _ => by simp [execOp, ho, ha.ev hv]⟩
    · exact h.elim
  · rename_i x ho
    split at h
    · rename_i v hv; exact ⟨v, none, h, trivial, fun a w' ha _ => by simp [execOp, ho, ha.ev hv]⟩
    · exact h.elim
  · rename_i c x y ho
    split at h
    · rename_i t vx vy hc hx hy
      cases t with
      | true => exact ⟨vx, none, h, trivial, fun a w' ha _ => by simp [execOp, ho, ha.ev hx, ha.ev hc, asBool]⟩
      | false => exact ⟨vy, none, h, trivial, fun a w' ha _ => by simp [execOp, ho, ha.ev hy, ha.ev hc, asBool]⟩
    · exact h.elim
  · rename_i t x ho
    split at h
    · rename_i b hx
      obtain ⟨ad, rfl, hn⟩ := NilP.out h
      obtain ⟨v, s, hK, hsw, hr⟩ := ld_ok hG hn
      exact ⟨v, some s, hK, hsw, fun a w' ha hw => by simp [execOp, ho, ha.ev hx, Instr.loadAt, Instr.sureAddr, hr w' hw]⟩
    · exact h.elim
  · rename_i x ho
    split at h
    · rename_i u hx
      obtain ⟨v, hK, hr⟩ := nilChk_ok (P := P) h
      exact ⟨v, none, hK, trivial, fun a w' ha _ => hr o x a.eval w' ho (ha.ev hx)⟩
    · exact h.elim
  · rename_i op t x y yt ho
    split at h
    · rename_i u v hx hy
      rcases PR.use_ok h with h | ⟨r, hK, hr⟩
      · exact RawP_ok h
      · refine ⟨r, none, hK, trivial, fun a w' ha _ => ?_⟩
        have := bin_run hG (xo := x) (yo := y) hr (fun u hu => by subst hu; simp [ev] at hy; exact hy.symm) w'
        simp only [execOp, ho, ha.ev hx, ha.ev hy]
        show (((do eqGuard op t x y u v; binOp op t u v) >>= fun r => pure (Next.value r)) : Sem Next).run P w' = _
        rw [Sem.run_bind, this]; rfl
    · exact h.elim
  · rename_i op t x ho
    split at h
    · rename_i u hx
      rcases PR.use_ok h with h | ⟨r, hK, hr⟩
      · exact RawP_ok h
      · exact ⟨r, none, hK, trivial, fun a w' ha _ => by simp [execOp, ho, ha.ev hx, un_run hr w']⟩
    · exact h.elim
  · rename_i t1 t2 x ho
    split at h
    · rename_i u hx
      rcases PR.use_ok h with h | ⟨r, hK, hr⟩
      · exact RawP_ok h
      · exact ⟨r, none, hK, trivial, fun a w' ha _ => by simp [execOp, ho, ha.ev hx, conv_run hG hr w']⟩
    · exact h.elim
  · rename_i t x f ho
    split at h
    · rename_i u hx
      rcases fldA_ok hG h with h | ⟨r, hK, hr⟩
      · exact RawR_ok h
      · exact ⟨r, none, hK, trivial, fun a w' ha _ => by simp [execOp, ho, ha.ev hx, hr w']⟩
    · exact h.elim
  · rename_i t x f ho
    split at h
    · rename_i fs cs hu hx
      split at h
      · rename_i g hg
        obtain ⟨v, hK, hr⟩ := prt_ok hG h
        have hg' : fs[f]? = some g := by simpa using hg
        exact ⟨v, none, hK, trivial, fun a w' ha _ => by simp [execOp, ho, ha.ev hx, Instr.field, under_run (hG.und _ _ hu), hg', asAgg, hr w']⟩
      · exact h.elim
    · exact h.elim
  · rename_i t x i ho
    split at h
    · rename_i u v hx hi
      obtain ⟨r, hK, hr⟩ := idxA_ok hG h
      exact ⟨r, none, hK, trivial, fun a w' ha _ => by simp [execOp, ho, ha.ev hx, ha.ev hi, hr w']⟩
    · exact h.elim
  · rename_i t x i ho
    split at h
    · rename_i s k i' hu hx hi
      obtain ⟨h0, b, hb, hK⟩ := h
      exact ⟨_, none, hK, trivial, fun a w' ha _ => by simp [execOp, ho, ha.ev hx, ha.ev hi, Instr.index, asIntOf, under_run (hG.und _ _ hu), h0, hb]⟩
    · rename_i n el cs k i' hu hx hi
      split at h
      · rename_i d z hd hz
        split at h
        · rename_i hag
          obtain ⟨h0, h1, v, hv, hK⟩ := h
          refine ⟨v, none, As.elim hK, trivial, fun a w' ha _ => ?_⟩
          simp [execOp, ho, ha.ev hx, ha.ev hi, Instr.index, asIntOf, under_run (hG.und _ _ hu), h0, h1, size_run (hG.siz _ _ hz), part, isAgg_run (hG.und _ _ hd), hag, hv]
        · exact RawP_ok h
      · exact RawP_ok h
    · exact RawP_ok h
  · rename_i t x lo hi ho
    split at h
    · rename_i u l hh hx hl hhi
      rcases slc_ok hG h with h | ⟨r, hK, hr⟩
      · exact RawR_ok h
      · refine ⟨r, none, hK, trivial, fun a w' ha _ => ?_⟩
        have e1 : lo.map a.eval = l := by
          cases lo with
          | none => simp [evO] at hl; simp [hl]
          | some x => simp only [evO] at hl; split at hl <;> simp at hl; rename_i v hv; subst hl; simp [ha.ev hv]
        have e2 : hi.map a.eval = hh := by
          cases hi with
          | none => simp [evO] at hhi; simp [hhi]
          | some x => simp only [evO] at hhi; split at hhi <;> simp at hhi; rename_i v hv; subst hhi; simp [ha.ev hv]
        simp [execOp, ho, ha.ev hx, e1, e2, hr w']
    · exact h.elim
  · rename_i x i ho
    split at h
    · rename_i vs hx
      split at h
      · rename_i v hv
        have hv' : vs[i]? = some v := by simpa using hv
        exact ⟨v, none, h, trivial, fun a w' ha _ => by simp [execOp, ho, ha.ev hx, Instr.extract, hv']⟩
      · exact h.elim
    · exact h.elim
  · rename_i t x ho
    split at h
    · exact h.elim
    · rename_i d v hne hu hx
      refine ⟨_, none, h, trivial, fun a w' ha _ => ?_⟩
      simp [execOp, ho, ha.ev hx, Instr.makeInterface, under_run (hG.und _ _ hu)]
    · exact h.elim
  · rename_i f x y ho
    split at h
    · rename_i xs ys hx hy
      refine ⟨_, none, h, trivial, fun a w' ha _ => ?_⟩
      have e1 : x.map a.eval = xs.toArray := by apply Array.ext'; simp [← evL_ok ha hx]
      have e2 : y.map a.eval = ys.toArray := by apply Array.ext'; simp [← evL_ok ha hy]
      simp [execOp, ho, Instr.makeFunc, e1, e2]
    · exact h.elim
  · rename_i t parts ho
    split at h
    · rename_i ps hp
      obtain ⟨v, hK, hr⟩ := bld_ok hG h
      refine ⟨v, none, hK, trivial, fun a w' ha _ => ?_⟩
      have e1 : parts.map (fun (i, x) => (i, a.eval x)) = ps.toArray := by apply Array.ext'; simp [← evP_ok ha hp]
      simp only [execOp, ho, e1]
      simp [hr w']
    · exact h.elim
  · rename_i c ho
    obtain ⟨cal, args, tys⟩ := c
    simp only at h
    split at h
    · rename_i x t ha1 ht1
      have ea : args = #[x] := by apply Array.ext'; simpa using ha1
      have et : tys = #[t] := by apply Array.ext'; simpa using ht1
      subst ea et
      split at h
      · rename_i v hx
        split at h
        · rename_i n hn
          exact ⟨_, none, h, trivial, fun a w' ha _ => by simp [execOp, ho, resolve, invoke, builtin, ha.ev hx, lenV_ok hG hn w']⟩
        · exact RawR_ok h
      · exact h.elim
    · rename_i x t ha1 ht1
      have ea : args = #[x] := by apply Array.ext'; simpa using ha1
      have et : tys = #[t] := by apply Array.ext'; simpa using ht1
      subst ea et
      split at h
      · rename_i v hx
        split at h
        · rename_i n hn
          exact ⟨_, none, h, trivial, fun a w' ha _ => by simp [execOp, ho, resolve, invoke, builtin, ha.ev hx, capV_ok hG hn w']⟩
        · exact RawR_ok h
      · exact h.elim
    · rename_i x y ha1
      have ea : args = #[x, y] := by apply Array.ext'; simpa using ha1
      subst ea
      split at h
      · rename_i k n _ m hx hy
        exact ⟨_, none, h, trivial, fun a w' ha _ => by simp [execOp, ho, resolve, invoke, builtin, ha.ev hx, ha.ev hy, Builtin.min_, Builtin.min2]⟩
      · exact RawR_ok h
    · rename_i x y ha1
      have ea : args = #[x, y] := by apply Array.ext'; simpa using ha1
      subst ea
      split at h
      · rename_i k n _ m hx hy
        exact ⟨_, none, h, trivial, fun a w' ha _ => by simp [execOp, ho, resolve, invoke, builtin, ha.ev hx, ha.ev hy, Builtin.max_, Builtin.max2]⟩
      · exact RawR_ok h
    · exact RawR_ok h
  · exact RawR_ok h
end Go.Sh
