import Derived.Test.YthpodlcbikialaaDoorShT
namespace Go.Sh
variable {P : Program} {G : Tab}

/-! ## tables out of lists -/
def lookL {α : Type} : List (Nat × α) → Nat → Option α
  | [], _ => none
  | (k, v) :: r, n => match Nat.beq k n with | true => some v | false => lookL r n
def GoodU (P : Program) : List (Nat × TypeDesc) → Prop
  | [] => True
  | (k, v) :: r => P.underlying k = some v ∧ GoodU P r
def GoodS (P : Program) : List (Nat × Nat) → Prop
  | [] => True
  | (k, v) :: r => sizeP P k = some v ∧ GoodS P r
def GoodZ (P : Program) : List (Nat × Value) → Prop
  | [] => True
  | (k, v) :: r => zeroP P k = some v ∧ GoodZ P r
def GoodF (P : Program) : List Nat → Prop
  | [] => True
  | k :: r => goesIn P k = true ∧ GoodF P r
theorem lookU : ∀ {l : List (Nat × TypeDesc)} {n : Nat} {v : TypeDesc}, GoodU P l → lookL l n = some v → P.underlying n = some v
  | [], n, v, _, h => by cases h
  | (k, u) :: r, n, v, hg, h => by
    simp only [lookL] at h
    split at h
    · rename_i hk; have := Nat.eq_of_beq_eq_true hk; subst this; injection h with h; subst h; exact hg.1
    · exact lookU hg.2 h
theorem lookS : ∀ {l : List (Nat × Nat)} {n : Nat} {v : Nat}, GoodS P l → lookL l n = some v → sizeP P n = some v
  | [], n, v, _, h => by cases h
  | (k, u) :: r, n, v, hg, h => by
    simp only [lookL] at h
    split at h
    · rename_i hk; have := Nat.eq_of_beq_eq_true hk; subst this; injection h with h; subst h; exact hg.1
    · exact lookS hg.2 h
theorem lookZ : ∀ {l : List (Nat × Value)} {n : Nat} {v : Value}, GoodZ P l → lookL l n = some v → zeroP P n = some v
  | [], n, v, _, h => by cases h
  | (k, u) :: r, n, v, hg, h => by
    simp only [lookL] at h
    split at h
    · rename_i hk; have := Nat.eq_of_beq_eq_true hk; subst this; injection h with h; subst h; exact hg.1
    · exact lookZ hg.2 h
theorem lookF : ∀ {l : List Nat} {n : Nat}, GoodF P l → memN l n = true → goesIn P n = true
  | [], n, _, h => by cases h
  | k :: r, n, hg, h => by
    simp only [memN] at h
    split at h
    · rename_i hk; have := Nat.eq_of_beq_eq_true hk; subst this; exact hg.1
    · exact lookF hg.2 h
def tabOf (u : List (Nat × TypeDesc)) (s : List (Nat × Nat)) (z : List (Nat × Value)) (f : List Nat) : Tab := ⟨lookL u, lookL s, lookL z, memN f⟩
theorem tabOf_ok {u : List (Nat × TypeDesc)} {s : List (Nat × Nat)} {z : List (Nat × Value)} {f : List Nat} (hu : GoodU P u) (hs : GoodS P s) (hz : GoodZ P z) (hf : GoodF P f) : (tabOf u s z f).Ok P :=
  ⟨fun _ _ h => lookU hu h, fun _ _ h => lookS hs h, fun _ _ h => lookZ hz h, fun _ h => lookF hf h⟩

/-! ## a whole function -/
def resL (G : Tab) (e : Env) (w : World) : List ResultVar → (List Value → Prop) → Prop
  | [], K => K []
  | .tmp t :: r, K => match get e t with | some v => resL G e w r fun l => K (v :: l) | none => False
  | .cell a t :: r, K => match get e a with
    | some (.pointer b) => NilP b fun ad => ld G t ad w fun v _ => resL G e w r fun l => K (v :: l)
    | _ => False
def one (l : List Value) : Value := match l with | [v] => v | l => .tuple l.toArray
def argEnv : Nat → List Value → Env
  | _, [] => []
  | n, v :: r => (n, v) :: argEnv (n + 1) r
def fin (G : Tab) (fn : Func) (Q : Value → World → Prop) (e : Env) (w : World) : Prop := resL G e w fn.results.toList fun l => Q (one l) w
/-- what the function comes to -/
def Fn (P : Program) (G : Tab) (fn : Func) (args : List Value) (w : World) (Q : Value → World → Prop) : Prop :=
  match fn.body, Nat.ble args.length fn.ntmps with
  | some c, true => T P G fn.ntmps c (argEnv 0 args) w (fin G fn Q) (fun _ _ _ => False) (fin G fn Q)
  | _, _ => False

def resOne (tmps : Array Value) (r : ResultVar) : Sem Value :=
  match r with
  | .tmp t => pure (tmps.getD t undef)
  | .cell a t => do loadVar t (← asAddr (tmps.getD a undef))
theorem results_eq (fn : Func) (tmps : Array Value) : results fn tmps = (do let vs ← fn.results.mapM (resOne tmps); pure (if h : vs.size = 1 then vs[0] else .tuple vs)) := by
  unfold results
  have : (fun (x : ResultVar) => (match x with
    | .tmp t => pure (tmps.getD t undef)
    | .cell a t => do loadVar t (← asAddr (tmps.getD a undef)) : Sem Value)) = resOne tmps := by
    funext x; cases x <;> rfl
  rw [← this]
  rfl
theorem resL_ok (hG : G.Ok P) {nt : Nat} {e : Env} {w : World} {a : Act} (ha : Ok nt e a) : ∀ {l : List ResultVar} {K : List Value → Prop}, resL G e w l K →
    ∃ vs, K vs ∧ vs.length = l.length ∧ (l.mapM (resOne a.tmps)).run P w = .ok vs w
  | [], K, h => ⟨[], h, rfl, rfl⟩
  | .tmp t :: r, K, h => by
    simp only [resL] at h
    split at h
    · rename_i v hv
      obtain ⟨vs, hK, hlen, hr⟩ := resL_ok hG ha h
      have h1 : a.tmps.getD t undef = v := by rw [Array.getD_eq_getD_getElem?, ha.get t v hv]; rfl
      exact ⟨v :: vs, hK, by simp [hlen], by simp only [List.mapM_cons, Sem.run_bind, Sem.run_pure, Result.andThen_ok, resOne, h1, hr]⟩
    · exact h.elim
  | .cell x t :: r, K, h => by
    simp only [resL] at h
    split at h
    · rename_i b hv
      obtain ⟨ad, rfl, hn⟩ := NilP.out h
      obtain ⟨v, s, hK, hs, hl⟩ := ld_ok hG hn
      obtain ⟨vs, hK, hlen, hr⟩ := resL_ok hG ha hK
      have h1 : a.tmps.getD x undef = .pointer (some ad) := by rw [Array.getD_eq_getD_getElem?, ha.get x _ hv]; rfl
      exact ⟨v :: vs, hK, by simp [hlen], by
        have h2 : asAddr (.pointer (some ad)) = pure ad := rfl
        simp only [List.mapM_cons, Sem.run_bind, Sem.run_pure, Result.andThen_ok, resOne, h1, h2, hl w hs, hr]⟩
    · exact h.elim

theorem argEnv_get : ∀ {l : List Value} {n k : Nat} {v : Value}, get (argEnv n l) k = some v → n ≤ k ∧ l[k - n]? = some v
  | [], n, k, v, h => by cases h
  | u :: r, n, k, v, h => by
    simp only [argEnv, get] at h
    split at h
    · rename_i hk
      have : n = k := Nat.eq_of_beq_eq_true hk
      subst this
      injection h with h; subst h; simp
    · rename_i hk
      have hne : n ≠ k := Nat.ne_of_beq_eq_false hk
      obtain ⟨h1, h2⟩ := argEnv_get h
      refine ⟨by omega, ?_⟩
      have : k - n = (k - (n + 1)) + 1 := by omega
      rw [this]; simpa using h2

theorem fin_post (hG : G.Ok P) {nt : Nat} {fn : Func} {Q : Value → World → Prop} {e : Env} {a : Act} {w : World} (ha : Ok nt e a) (h : fin G fn Q e w) :
    a.defers = [] ∧ ∃ v, (results fn a.tmps).run P w = .ok v w ∧ Q v w := by
  obtain ⟨vs, hK, hlen, hr⟩ := resL_ok hG ha h
  refine ⟨ha.defers, one vs, ?_, hK⟩
  rw [results_eq, ← Array.toArray_toList (xs := fn.results)]
  simp only [List.mapM_toArray, Sem.run_bind, Sem.run_map, hr, Result.andThen_ok]
  cases vs with
  | nil => rfl
  | cons v r => cases r with
    | nil => rfl
    | cons u r => simp [one]

theorem calls_of_Fn (hG : G.Ok P) {f : FuncId} {fn : Func} {args : List Value} {w : World} {Q : Value → World → Prop} (hf : P.funcs[f]? = some fn) (hm : P.follows .mixedOrders = true)
    (h : Fn P G fn args w Q) : Calls P f args.toArray w fun e w' => ∃ v, e = .returned v ∧ Q v w' := by
  unfold Fn at h
  split at h
  · rename_i c hb hle
    have hle' : args.length ≤ fn.ntmps := by simpa using hle
    refine calls_of_wp hf hb (Code.wp_mono (fun ex a w' hp => ?_) (T_ok hG c (a := ⟨args.toArray ++ Array.replicate (fn.ntmps - args.toArray.size) undef, []⟩) ⟨rfl, by simp; omega, fun n v hn => ?_⟩ h hm))
    · cases ex with
      | normal =>
        obtain ⟨e, he, _, hN⟩ := hp
        obtain ⟨h1, v, h2, h3⟩ := fin_post hG he hN
        exact ⟨h1, v, h2, v, rfl, h3⟩
      | ret =>
        obtain ⟨e, he, hN⟩ := hp
        obtain ⟨h1, v, h2, h3⟩ := fin_post hG he hN
        exact ⟨h1, v, h2, v, rfl, h3⟩
      | exit id => obtain ⟨e, _, _, hx⟩ := hp; exact hx.elim
      | _ => exact hp.elim
    · obtain ⟨_, h2⟩ := argEnv_get hn
      have hlt : n < args.length := by
        rcases Nat.lt_or_ge n args.length with h | h
        · exact h
        · simp [h] at h2
      rw [Array.getElem?_append_left (by simpa using hlt)]
      simpa using h2
  · exact h.elim
end Go.Sh
