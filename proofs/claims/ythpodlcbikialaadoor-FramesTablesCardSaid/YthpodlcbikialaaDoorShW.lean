import Derived.Test.YthpodlcbikialaaDoorShRd2
namespace Go.Sh
variable {P : Program} {G : Tab}

/-! ## operations that write, make memory or call -/
def St (w : World) (a : Addr) (v : Value) (K : World → Prop) : Prop :=
  (∃ u, w.cell? a = some u) ∧ w.frozen? a = false ∧ v.oneCell' = true ∧ K (w.setCell a v)
def stN (a : Addr) : List Value → Nat → World → (World → Prop) → Prop
  | [], _, w, K => K w
  | v :: r, i, w, K => St w (at0 a i) v fun w' => stN a r (i + 1) w' K
def New (w : World) (cells : Array Value) (t : TypeId) (K : Addr → World → Prop) : Prop :=
  K ⟨w.heap.size, 0, none⟩ (w.alloc (.cells cells t))
def CallS (P : Program) (f : FuncId) (args : Array Value) (w : World) (K : Value → World → Prop) : Prop :=
  Calls P f args w fun e w' => ∃ v, e = .returned v ∧ K v w'
def RunV (P : Program) (s : Sem Value) (w : World) (K : Value → World → Prop) : Prop := ∃ v w', s.run P w = .ok v w' ∧ K v w'
def RunU (P : Program) (s : Sem Unit) (w : World) (K : World → Prop) : Prop := ∃ w', s.run P w = .ok () w' ∧ K w'

def wo (P : Program) (G : Tab) (e : Env) (o : Oper) (w : World) (K : Value → World → Prop) : Prop :=
  match o.op with
  | .store t a x => match ev e a, ev e x, G.siz t with
    | some (.pointer b), some v, some z => match Nat.beq v.cells.toList.length z with
      | true => NilP b fun a => stN a v.cells.toList 0 w fun w' => K undef w'
      | false => False
    | _, _, _ => False
  | .alloc t => match G.zer t with
    | some z => New w z.cells t fun a w' => K (.pointer (some a)) w'
    | none => False
  | .box t x => match ev e x with
    | some v => New w v.cells t fun a w' => K (.pointer (some a)) w'
    | none => False
  | .mapUpdate t m k x => match ev e m, ev e k, ev e x with
    | some m, some k, some x => RunU P (Instr.mapUpdate t m k x) w fun w' => K undef w'
    | _, _, _ => False
  | .insert t m k x => match ev e m, ev e k, ev e x with
    | some m, some k, some x => RunU P (Instr.mapUpdate t m k x) w fun w' => K undef w'
    | _, _, _ => False
  | .entryStore t m s x => match ev e m, ev e s, ev e x with
    | some m, some k, some x => RunU P (Instr.entryStore t m k x) w fun w' => K undef w'
    | _, _, _ => False
  | .call c => match c.callee, evL e c.args.toList with
    | .value f, some args => match ev e f with
      | some (.func (.func g) first cap) => match G.fn g with
        | true => CallS P g (first ++ args.toArray ++ cap) w fun v w' => As (shT G 12 o.type) v fun v => K v w'
        | false => False
      | _ => False
    | _, _ => match insV e o with
      | some s => RunV P s w fun v w' => As (shT G 12 o.type) v fun v => K v w'
      | none => False
  | _ => match insV e o with
    | some s => RunV P s w fun v w' => As (shT G 12 o.type) v fun v => K v w'
    | none => False

theorem stN_ok {a : Addr} : ∀ {l : List Value} {i : Nat} {w : World} {K : World → Prop}, stN a l i w K → ∃ w', K w' ∧ (storeCells a l i).run P w = .ok () w'
  | [], i, w, K, h => ⟨w, h, by simp [storeCells]⟩
  | v :: r, i, w, K, ⟨⟨u, hu⟩, hf, h1, h⟩ => by
    obtain ⟨w', hK, hr⟩ := stN_ok h
    refine ⟨w', hK, ?_⟩
    rw [at0_add] at hu hf hr
    simp only [storeCells, Sem.run_bind, run_store P _ _ _ _ h1, hu, hf, Result.andThen]
    simpa using hr

/-- what an operation that is carried out does: its value and its world, by the continuation -/
def Does (P : Program) (o : Oper) (a : Act) (w : World) (K : Value → World → Prop) : Prop :=
  ∀ (next : Act → World → Prop) (Q : Exit → Act → World → Prop), (∀ v w', K v w' → next (a.put o.dst v) w') → o.wp P a w next Q

theorem Does.of_run {o : Oper} {a : Act} {w w' : World} {v : Value} {K : Value → World → Prop} (hr : (execOp a.eval o).run P w = .ok (.value v) w') (h : K v w') : Does P o a w K :=
  fun next Q hn => by unfold Oper.wp; rw [hr]; exact hn v w' h
theorem Does.of_skip {o : Oper} {a : Act} {w w' : World} {K : Value → World → Prop} (hr : (execOp a.eval o).run P w = .ok .skip w') (h : K undef w') : Does P o a w K :=
  fun next Q hn => by unfold Oper.wp; rw [hr]; exact hn undef w' h

theorem RunV_does {nt : Nat} {e : Env} {o : Oper} {w : World} {K : Value → World → Prop} {a : Act} (ha : Ok nt e a) {s : Sem Value} (hs : insV e o = some s)
    (h : RunV P s w fun v w' => As (shT G 12 o.type) v fun v => K v w') : Does P o a w K := by
  obtain ⟨v, w', hr, hv⟩ := h
  refine Does.of_run (w' := w') (v := v) ?_ (As.elim hv)
  rw [insV_ok hs ha]; simp [hr]

theorem wo_ok (hG : G.Ok P) {nt : Nat} {e : Env} {o : Oper} {w : World} {K : Value → World → Prop} {a : Act} (ha : Ok nt e a) (h : wo P G e o w K) : Does P o a w K := by
  unfold wo at h
  split at h
  · rename_i t x y ho
    split at h
    · rename_i b v z hx hy hz
      split at h
      · rename_i hb
        obtain ⟨ad, rfl, hn⟩ := NilP.out h
        obtain ⟨w', hK, hr⟩ := stN_ok (P := P) h
        refine Does.of_skip (w' := w') ?_ hK
        have hb' : v.cells.size = z := by simpa using Nat.eq_of_beq_eq_true hb
        simp [execOp, ho, ha.ev hx, ha.ev hy, Instr.storeAt, Instr.sureAddr, storeVar, size_run (hG.siz _ _ hz), hb', hr]
      · exact h.elim
    · exact h.elim
  · rename_i t ho
    split at h
    · rename_i z hz
      refine Does.of_run ?_ h
      simp [execOp, ho, Instr.alloc, zero_run (hG.zer _ _ hz), newVar, newRow]
    · exact h.elim
  · rename_i t x ho
    split at h
    · rename_i v hx
      refine Does.of_run ?_ h
      simp [execOp, ho, ha.ev hx, Instr.box, newVar, newRow]
    · exact h.elim
  · rename_i t m k x ho
    split at h
    · rename_i vm vk vx hm hk hx
      obtain ⟨w', hr, hK⟩ := h
      exact Does.of_skip (by simp [execOp, ho, ha.ev hm, ha.ev hk, ha.ev hx, hr]) hK
    · exact h.elim
  · rename_i t m k x ho
    split at h
    · rename_i vm vk vx hm hk hx
      obtain ⟨w', hr, hK⟩ := h
      exact Does.of_skip (by simp [execOp, ho, ha.ev hm, ha.ev hk, ha.ev hx, hr]) hK
    · exact h.elim
  · rename_i t m k x ho
    split at h
    · rename_i vm vk vx hm hk hx
      obtain ⟨w', hr, hK⟩ := h
      exact Does.of_skip (by simp [execOp, ho, ha.ev hm, ha.ev hk, ha.ev hx, hr]) hK
    · exact h.elim
  · rename_i c ho
    obtain ⟨cal, args, tys⟩ := c
    simp only at h
    split at h
    · rename_i f vs hvs
      split at h
      · rename_i g first cap hf
        split at h
        · rename_i hg
          have hg := hG.fn _ hg
          unfold goesIn at hg
          split at hg
          · rename_i fn hfn
            split at hg
            · rename_i cd hbody
              split at hg
              · cases hg
              · rename_i hname
                have e1 : args.map a.eval = vs.toArray := by apply Array.ext'; simp [← evL_ok ha hvs]
                have hrun : (execOp a.eval o).run P w = .ok (.enter g (first ++ vs.toArray ++ cap)) w := by
                  have hn : (fn.name == "runtime.NumGoroutine") = false := hname
                  simp only [execOp, ho, resolve, Deferred.ofValue, ha.ev hf, e1]
                  simp only [invoke, callFunc, Sem.run_bind, Sem.run_pure, run_program, Result.andThen_ok, hfn, hn, hbody, Option.isNone]
                  simp
                intro next Q hnx
                unfold Oper.wp
                rw [hrun]
                refine Calls.mono h fun e' w'' he => ?_
                obtain ⟨v, rfl, hv⟩ := he
                exact hnx v w'' (As.elim hv)
            · cases hg
          · cases hg
        · exact h.elim
      · exact h.elim
    · split at h
      · rename_i s hs; exact RunV_does ha hs h
      · exact h.elim
  · split at h
    · rename_i s hs; exact RunV_does ha hs h
    · exact h.elim

/-! ## one operation -/
/-- carried out, whichever it is -/
def op1 (P : Program) (G : Tab) (e : Env) (o : Oper) (w : World) (K : Value → World → Prop) : Prop :=
  match isR G o.op with
  | true => rd P G e o w fun v _ => K v w
  | false => wo P G e o w K
theorem op1_ok (hG : G.Ok P) {nt : Nat} {e : Env} {o : Oper} {w : World} {K : Value → World → Prop} {a : Act} (ha : Ok nt e a) (h : op1 P G e o w K) : Does P o a w K := by
  unfold op1 at h
  split at h
  · obtain ⟨v, s, hK, hs, hr⟩ := rd_ok hG h
    exact Does.of_run (hr a w ha hs) hK
  · exact wo_ok hG ha h

/-- a Bool that decides: literal ones reduce -/
def BIf (b : Bool) (x y : Prop) : Prop := match b with | true => x | false => y
theorem BIf.elim {b : Bool} {x y : Prop} (h : BIf b x y) : (b = true ∧ x) ∨ (b = false ∧ y) := by
  cases b with
  | true => exact .inl ⟨rfl, h⟩
  | false => exact .inr ⟨rfl, h⟩
theorem BIf.intro {b : Bool} {x y : Prop} (h1 : b = true → x) (h2 : b = false → y) : BIf b x y := by
  cases b with
  | true => exact h1 rfl
  | false => exact h2 rfl

def dstOf (ops : List Oper) (j : Nat) : Option Nat := match ops[j]? with | some o => o.dst | none => none
/-- an operation with its guard: what the guard's slot holds is known behind it -/
def opG (ops : List Oper) (e : Env) (o : Oper) (yes : Env → Prop) (no : Env → Prop) : Prop :=
  match o.guard with
  | none => yes e
  | some (j, want) => match dstOf ops j with
    | none => False
    | some d => match get e d with
      | some (.bool b) => match want with
        | true => BIf b (yes ((d, .bool true) :: e)) (no ((d, .bool false) :: e))
        | false => BIf b (no ((d, .bool true) :: e)) (yes ((d, .bool false) :: e))
      | some (.tuple _) => no e
      | _ => False

theorem opG_ok {nt : Nat} {ops : Array Oper} {e : Env} {o : Oper} {yes no : Env → Prop} {a : Act} (ha : Ok nt e a) (h : opG ops.toList e o yes no) :
    ∃ e', Ok nt e' a ∧ ((Region.wanted o (yielded ops a.tmps) = true ∧ yes e') ∨ (Region.wanted o (yielded ops a.tmps) = false ∧ no e')) := by
  unfold opG at h
  split at h
  · rename_i hg; exact ⟨e, ha, .inl ⟨by simp [Region.wanted, hg], h⟩⟩
  · rename_i j want hg
    split at h
    · exact h.elim
    rename_i d hd
    have hd' : (ops[j]?).bind (·.dst) = some d := by
      unfold dstOf at hd
      split at hd
      · rename_i o' ho; have : ops[j]? = some o' := by simpa using ho
        simp [this, hd]
      · cases hd
    split at h
    · rename_i b hb
      have hv := ha.get d _ hb
      have hy : yielded ops a.tmps j = some b := by unfold yielded; rw [hd']; simp [hv]
      split at h
      · rcases h.elim with ⟨rfl, h⟩ | ⟨rfl, h⟩
        · exact ⟨_, ha.know hv, .inl ⟨by simp [Region.wanted, hg, hy], h⟩⟩
        · exact ⟨_, ha.know hv, .inr ⟨by simp [Region.wanted, hg, hy], h⟩⟩
      · rcases h.elim with ⟨rfl, h⟩ | ⟨rfl, h⟩
        · exact ⟨_, ha.know hv, .inr ⟨by simp [Region.wanted, hg, hy], h⟩⟩
        · exact ⟨_, ha.know hv, .inl ⟨by simp [Region.wanted, hg, hy], h⟩⟩
    · rename_i l hb
      have hv := ha.get d _ hb
      have hy : yielded ops a.tmps j = none := by unfold yielded; rw [hd']; simp [hv]
      exact ⟨e, ha, .inr ⟨by simp [Region.wanted, hg, hy], h⟩⟩
    · exact h.elim

/-! ## a region in the order of the text -/
/-- the environment is laid out before it is handed on -/
def force (e : Env) (K : Env → Prop) : Prop := match e with | [] => K [] | x :: r => K (x :: r)
theorem force_eq (e : Env) (K : Env → Prop) : force e K = K e := by cases e <;> rfl
def opsT (P : Program) (G : Tab) (nt : Nat) (ops : List Oper) : List Oper → Env → World → (Env → World → Prop) → Prop
  | [], e, w, N => N e w
  | o :: r, e, w, N => opG ops e o (fun e => op1 P G e o w fun v w' => force (put nt e o.dst v) fun e => opsT P G nt ops r e w' N) (fun e => force (put nt e o.dst undef) fun e => opsT P G nt ops r e w N)

/-- the exits of a piece of code, by environments -/
def Post (nt : Nat) (N : Env → World → Prop) (X : Nat → Env → World → Prop) (R : Env → World → Prop) : Exit → Act → World → Prop
  | .normal, a, w => ∃ e, Ok nt e a ∧ N e w
  | .exit id, a, w => ∃ e, Ok nt e a ∧ X id e w
  | .ret, a, w => ∃ e, Ok nt e a ∧ R e w
  | _, _, _ => False

theorem opsT_ok (hG : G.Ok P) {nt : Nat} {ops : Array Oper} {N : Env → World → Prop} {X : Nat → Env → World → Prop} {R : Env → World → Prop} : ∀ {l : List Oper} {e : Env} {w : World} {a : Act},
    Ok nt e a → opsT P G nt ops.toList l e w N → wpList P ops (Post nt N X R) l a w
  | [], e, w, a, ha, h => ⟨e, ha, h⟩
  | o :: r, e, w, a, ha, h => by
    obtain ⟨e', ha', ⟨hw, h⟩ | ⟨hw, h⟩⟩ := opG_ok ha h
    · refine wpList_step fun K hK => ?_
      rw [if_pos hw]
      exact op1_ok hG ha' h _ _ fun v w' hv => hK _ _ (opsT_ok hG (ha'.put o.dst v) (by rwa [force_eq] at hv))
    · refine wpList_step fun K hK => ?_
      rw [hw]
      exact hK _ _ (opsT_ok hG (ha'.put o.dst undef) (by rwa [force_eq] at h))
end Go.Sh
