import Derived.WalkKit
import Derived.CallsIn
import Derived.TacticsIn
import Derived.RangeFuncLeaves
import Derived.RangeFuncRecord
import Derived.OrdersHeld
import Derived.OrdersIn
import Derived.Test.YtmgjicnipgdjhaaGreatDoorProg
import Derived.Lib.TrailingZeros
import Derived.IntWalk
set_option linter.unusedVariables false
set_option linter.unusedSimpArgs false
namespace Go.Sh
abbrev Env:=List (Nat×Value)
def get:Env→Nat→Option Value
 | [],_=>none
 | (k,v) :: r,n=>match Nat.beq k n with|true=>some v|false=>get r n
def put (nt:Nat) (e:Env) (d:Option Nat) (v:Value):Env :=
 match d with
 | none=>e
 | some d=>match Nat.blt d nt with|true=>(d,v) :: e|false=>e
def ev (e:Env):Operand→Option Value
 | .tmp t=>get e t
 | .const v=>some v
 | .global g=>some (.pointer (some ⟨g,0,none⟩))
 | .func f=>some (.func (.func f) #[] #[])
structure Ok (M:List Deferred) (nt:Nat) (e:Env) (a:Act):Prop where
 defers:a.defers=M
 size:a.tmps.size=nt
 get:∀n v,get e n=some v→a.tmps[n]?=some v
variable {M:List Deferred}
theorem Ok.ev {nt:Nat} {e:Env} {a:Act} (h:Ok M nt e a) {x:Operand} {v:Value} (hx:ev e x=some v):a.eval x=v:=by
 cases x with
 | tmp t=>have:=h.get t v hx;simp only [Act.eval,Array.getD_eq_getD_getElem?,this];rfl
 | const c=>simpa [Sh.ev,Act.eval] using hx
 | global g=>simpa [Sh.ev,Act.eval] using hx
 | func f=>simpa [Sh.ev,Act.eval] using hx
theorem Ok.put {nt:Nat} {e:Env} {a:Act} (h:Ok M nt e a) (d:Option Nat) (v:Value):Ok M nt (put nt e d v) (a.put d v):=by
 cases d with
 | none=>exact h
 | some d =>
  have hput:a.put (some d) v={ a with tmps:=a.tmps.setIfInBounds d v }:=rfl;rw [hput];refine⟨h.defers,by simpa using h.size,?_⟩;intro n u hn;simp only [Sh.put] at hn;cases hb:Nat.blt d nt with
  | true =>
   rw [hb] at hn;have hd:d<nt:=by simpa [Nat.blt_eq] using hb
   simp only [Sh.get] at hn;cases hk:Nat.beq d n with
   | true =>
    rw [hk] at hn;have:d=n:=Nat.eq_of_beq_eq_true hk;subst this;simp only [Option.some.injEq] at hn;subst hn;simp [h.size,hd]
   | false =>
    rw [hk] at hn;have hne:d≠n:=Nat.ne_of_beq_eq_false hk;simp only [Array.getElem?_setIfInBounds_ne hne];exact h.get n u hn
  | false =>
   rw [hb] at hn;have hd:¬d<nt:=by intro hlt;rw [←Nat.blt_eq] at hlt;rw [hlt] at hb;cases hb
   have:a.tmps.setIfInBounds d v=a.tmps:=by
    apply Array.setIfInBounds_eq_of_size_le;rw [h.size];omega
   simp only [this];exact h.get n u hn
theorem Ok.know {nt:Nat} {e:Env} {a:Act} (h:Ok M nt e a) {d:Nat} {v:Value} (hv:a.tmps[d]?=some v):Ok M nt ((d,v) :: e) a:=by
 refine⟨h.defers,h.size,fun n u hn=>?_⟩;simp only [Sh.get] at hn;cases hk:Nat.beq d n with
 | true=>rw [hk] at hn;have:d=n:=Nat.eq_of_beq_eq_true hk;subst this;simp only [Option.some.injEq] at hn;subst hn;exact hv
 | false=>rw [hk] at hn;exact h.get n u hn
structure Fr (S:Nat→Prop) (w w':World):Prop where
 os:w'.os=w.os
 output:w'.output=w.output
 tape:w'.tape=w.tape
 size:w.heap.size≤w'.heap.size
 block:∀b,b<w.heap.size→¬S b→w'.heap[b]?=w.heap[b]?
inductive Sh where
 | i (k:IntKind)|b|s|p|sl|m|agg (l:List Sh)|tup (l:List Sh)|raw
 deriving Inhabited
def AsI (k:IntKind) (v:Value) (K:Int→Prop):Prop:=∃x,v=.int k x∧K x
def AsB (v:Value) (K:Bool→Prop):Prop:=∃x,v=.bool x∧K x
def AsS (v:Value) (K:ByteArray→Prop):Prop:=∃x,v=.string x∧K x
def AsP (v:Value) (K:Option Addr→Prop):Prop:=∃x,v=.pointer x∧K x
def t_ (v:Value) (K:Option Addr→Nat→Nat→Prop):Prop:=∃a n c,v=.slice a n c∧K a n c
def AsM (v:Value) (K:Option Nat→Prop):Prop:=∃x,v=.map x∧K x
def UnC (s:List Value) (K:Value→List Value→Prop):Prop:=∃v s',s=v :: s'∧K v s'
def UnN (s:List Value) (K:Prop):Prop:=s=[]∧K
def V_ (v:Value) (K:List Value→Prop):Prop:=∃l:List Value,v=.agg l.toArray∧K l
def I_ (v:Value) (K:List Value→Prop):Prop:=∃l:List Value,v=.tuple l.toArray∧K l
mutual
def As:Sh→Value→(Value→Prop)→Prop
 | .i k,v,K=>AsI k v fun x=>K (.int k x)
 | .b,v,K=>AsB v fun x=>K (.bool x)
 | .s,v,K=>AsS v fun x=>K (.string x)
 | .p,v,K=>AsP v fun x=>K (.pointer x)
 | .sl,v,K=>t_ v fun a n c=>K (.slice a n c)
 | .m,v,K=>AsM v fun x=>K (.map x)
 | .agg l,v,K=>V_ v fun s=>AsAll l s fun s'=>K (.agg s'.toArray)
 | .tup l,v,K=>I_ v fun s=>AsAll l s fun s'=>K (.tuple s'.toArray)
 | .raw,v,K=>K v
def AsAll:List Sh→List Value→(List Value→Prop)→Prop
 | [],s,K=>UnN s (K [])
 | h :: t,s,K=>UnC s fun v s'=>As h v fun v'=>AsAll t s' fun r=>K (v' :: r)
end
mutual
theorem As.elim:∀{h:Sh} {v:Value} {K:Value→Prop},As h v K→K v
 | .i _,_,_,⟨_,rfl,h⟩=>h
 | .b,_,_,⟨_,rfl,h⟩=>h
 | .s,_,_,⟨_,rfl,h⟩=>h
 | .p,_,_,⟨_,rfl,h⟩=>h
 | .sl,_,_,⟨_,_,_,rfl,h⟩=>h
 | .m,_,_,⟨_,rfl,h⟩=>h
 | .agg _,_,_,⟨_,rfl,h⟩=>AsAll.elim h
 | .tup _,_,_,⟨_,rfl,h⟩=>AsAll.elim h
 | .raw,_,_,h=>h
theorem AsAll.elim:∀{l:List Sh} {s:List Value} {K:List Value→Prop},AsAll l s K→K s
 | [],_,_,⟨rfl,h⟩=>h
 | _ :: t,_,K,⟨v,s',rfl,h⟩=>AsAll.elim (l:=t) (s:=s') (K:=fun r=>K (v :: r)) (As.elim (K:=fun v'=>AsAll t s' fun r=>K (v' :: r)) h)
end
structure Tab where
 und:Nat→Option TypeDesc
 siz:Nat→Option Nat
 zer:Nat→Option Value
 fn:Nat→Bool
 ext:List (Nat×Nat×TypeId):=[]
mutual
def shT (G:Tab):Nat→TypeId→Sh
 | 0,_=>.raw
 | n+1,t=>match G.und t with
  | some (.int k)=>.i k
  | some .bool=>.b
  | some .string=>.s
  | some (.pointer _)=>.p
  | some (.slice _)=>.sl
  | some (.map _ _)=>.m
  | some (.struct fs)=>.agg (fs.toList.flatMap fun f=>shC G n f.type)
  | some (.array k e)=>match Nat.ble (k*(shC G n e).length) 64 with
   | true=>.agg (List.replicate k (shC G n e)).flatten
   | false=>.raw
  | some (.tuple ts)=>.tup (ts.toList.map fun t=>shT G n t)
  | _=>.raw
def shC (G:Tab):Nat→TypeId→List Sh
 | 0,_=>[.raw]
 | n+1,t=>match G.und t with
  | some (.struct fs)=>fs.toList.flatMap fun f=>shC G n f.type
  | some (.array k e)=>match Nat.ble (k*(shC G n e).length) 64 with
   | true=>(List.replicate k (shC G n e)).flatten
   | false=>List.replicate k .raw
  | _=>[shT G n t]
end
end Go.Sh
namespace Go.Sh
open Go.IntKind (i64 u64 u32)
def tt:World→Prop:=fun _=>True
inductive PR where
 | no|t (v:Value)|c (p:Prop) (v:Value)|nz (b:Int) (v:Value)|nn (b:Int) (v:Value)
def l_ (k:IntKind) (a b:Int):Int:=k.wrap (a*2^(min b.toNat k.bits))
def W_ (k:IntKind) (a b:Int):Int:=a.fdiv (2^(min b.toNat k.bits))
def Q_ (k:IntKind) (a b:Int):Int:=k.wrap (BitVec.ofInt k.bits a &&& BitVec.ofInt k.bits b).toNat
def orI (k:IntKind) (a b:Int):Int:=k.wrap (BitVec.ofInt k.bits a ||| BitVec.ofInt k.bits b).toNat
def O_j (k:IntKind) (a b:Int):Int:=k.wrap (BitVec.ofInt k.bits a ^^^ BitVec.ofInt k.bits b).toNat
def n_ (k:IntKind) (a b:Int):Int:=k.wrap (BitVec.ofInt k.bits a &&& ~~~ BitVec.ofInt k.bits b).toNat
def notI (k:IntKind) (a:Int):Int:=O_j k (if k.signed then -1 else k.max) a
def sameK (k k':IntKind):Bool:=match decEq k k' with|isTrue _=>true|isFalse _=>false
def binI (op:BinOp) (k:IntKind) (a b:Int):PR :=
 match op with
 | .add=>.t (.int k (k.wrap (a+b)))
 | .sub=>.t (.int k (k.wrap (a-b)))
 | .mul=>.t (.int k (k.wrap (a*b)))
 | .quo=>.nz b (.int k (k.wrap (a.tdiv b)))
 | .rem=>.nz b (.int k (a.tmod b))
 | .and=>.t (.int k (Q_ k a b))
 | .or=>.t (.int k (orI k a b))
 | .xor=>.t (.int k (O_j k a b))
 | .andNot=>.t (.int k (n_ k a b))
 | .eql=>.t (.bool (a==b))
 | .neq=>.t (.bool (a != b))
 | .lss=>.t (.bool (decide (a<b)))
 | .leq=>.t (.bool (decide (a≤b)))
 | .gtr=>.t (.bool (decide (a>b)))
 | .geq=>.t (.bool (decide (a≥b)))
 | _=>.no
def binS (op:BinOp) (a b:ByteArray):PR :=
 match op with
 | .add=>.c (((a.size+b.size:Nat):Int)≤i64.max) (.string (a++b))
 | .eql=>.t (.bool (a.toList==b.toList))
 | .neq=>.t (.bool (!(a.toList==b.toList)))
 | .lss=>.t (.bool (Op.bytesLess a.toList b.toList))
 | .leq=>.t (.bool (Op.bytesLess a.toList b.toList || a.toList==b.toList))
 | .gtr=>.t (.bool (!(Op.bytesLess a.toList b.toList || a.toList==b.toList)))
 | .geq=>.t (.bool (!(Op.bytesLess a.toList b.toList)))
 | _=>.no
def isI (v:Value):Bool:=match v with | .iface _ _=>true | .nilIface=>true|_=>false
def x_g (v:Value):Bool:=match v with | .nilIface=>true|_=>false
def isF (v:Value):Bool:=match v with | .func _ _ _=>true | .nilFunc=>true|_=>false
def Q_i (v:Value):Bool:=match v with | .nilFunc=>true|_=>false
inductive NR where
 | no|t (b:Bool)|c (p:Bool) (b:Bool)
def eqV (d:Option TypeDesc) (yo:Operand) (x y:Value):NR :=
 match d with
 | some .bool=>match x,y with | .bool a,.bool b=>.t (a==b)|_,_=>.no
 | some (.pointer _)=>match yo with | .const (.pointer none)=>(match x with | .pointer p=>.t p.isNone|_=>.no)|_=>.no
 | some (.slice _)=>match yo with | .const (.slice none _ _)=>(match x with | .slice p _ _=>.t p.isNone|_=>.no)|_=>.no
 | some (.map _ _)=>match yo with | .const (.map none)=>(match x with | .map p=>.t p.isNone|_=>.no)|_=>.no
 | some (.interface _)=>match yo with | .const .nilIface=>.c (isI x) (x_g x)|_=>.no
 | some (.func _ _ _)=>match yo with | .const .nilFunc=>.c (isF x) (Q_i x)|_=>.no
 | _=>.no
def NR.pr (r:NR) (f:Bool→Bool):PR:=match r with | .no=>.no | .t b=>.t (.bool (f b)) | .c p b=>.c (p=true) (.bool (f b))
def numT (d:Option TypeDesc):Bool:=match d with|some (.int _)=>true|some .string=>true|_=>false
def bin (G:Tab) (op:BinOp) (t:TypeId) (yo:Operand) (x y:Value):PR :=
 match numT (G.und t) with
 | true=>match x with
  | .int k a=>match y with
   | .int k' b=>match op with
    | .shl=>.nn b (.int k (l_ k a b))
    | .shr=>.nn b (.int k (W_ k a b))
    | _=>match sameK k k' with
     | true=>binI op k a b
     | false=>.no
   | _=>.no
  | .string a=>match y with
   | .string b=>binS op a b
   | _=>.no
  | _=>.no
 | false=>match op with
  | .eql=>(eqV (G.und t) yo x y).pr (fun b=>b)
  | .neq=>(eqV (G.und t) yo x y).pr (fun b=>!b)
  | _=>.no
def un (op:UnOp) (x:Value):PR :=
 match op,x with
 | .not,.bool b=>.t (.bool (!b))
 | .neg,.int k n=>.t (.int k (k.wrap (0-n)))
 | .xor,.int k n=>.t (.int k (notI k n))
 | _,_=>.no
def conv (G:Tab) (s d:TypeId) (x:Value):PR :=
 match G.und s,G.und d,x with
 | some _,some (.int k),.int _ n=>.t (.int k (k.wrap n))
 | some _,some .string,.string s=>.t (.string s)
 | _,_,_=>.no
def NZ (b:Int) (K:Prop):Prop:=match decide (b=0) with|true=>False|false=>K
def NN (b:Int) (K:Prop):Prop:=match decide (0≤b) with|true=>K|false=>False
theorem NZ.out {b:Int} {K:Prop} (h:NZ b K):b≠0∧K:=by
 unfold NZ at h;split at h
 ·exact h.elim
 ·rename_i hd;exact⟨by simpa using hd,h⟩
theorem NZ.mk {b:Int} {K:Prop} (h:b≠0) (k:K):NZ b K:=by
 unfold NZ;rw [decide_eq_false h];exact k
theorem NN.out {b:Int} {K:Prop} (h:NN b K):0≤b∧K:=by
 unfold NN at h;split at h
 ·rename_i hd;exact⟨by simpa using hd,h⟩
 ·exact h.elim
theorem NN.mk {b:Int} {K:Prop} (h:0≤b) (k:K):NN b K:=by
 unfold NN;rw [decide_eq_true h];exact k
def PR.Holds (r:PR) (v:Value):Prop:=match r with | .no=>False | .t u=>v=u | .c p u=>p∧v=u | .nz b u=>b≠0∧v=u | .nn b u=>0≤b∧v=u
def PR.use (r:PR) (D:Prop) (K:Value→Prop):Prop:=match r with | .no=>D | .t v=>K v | .c p v=>p∧K v | .nz b v=>NZ b (K v) | .nn b v=>NN b (K v)
theorem sameK_eq {k k':IntKind} (h:sameK k k'=true):k=k':=by
 unfold sameK at h;split at h
 ·assumption
 ·cases h
variable {P:Program} {G:Tab}
def k_c (P:Program) (t:TypeId):Option Nat:=match P.info? t with|some i=>some i.size|none=>none
def d_e (P:Program) (t:TypeId):Option Value:=match P.info? t with|some i=>i.zero|none=>none
def G_c (P:Program) (g:FuncId):Bool :=
 match P.funcs[g]? with
 | some fn=>match fn.body with
  | some _ => match fn.name == "runtime.NumGoroutine" with | true => false | false => true
  | none=>false
 | none=>false
structure Tab.Ok (G:Tab) (P:Program):Prop where
 und:∀t d,G.und t=some d→P.underlying t=some d
 siz:∀t n,G.siz t=some n→k_c P t=some n
 zer:∀t v,G.zer t=some v→d_e P t=some v
 fn:∀g,G.fn g=true→G_c P g=true
def NR.Holds (r:NR) (b:Bool):Prop:=match r with | .no=>False | .t u=>b=u | .c p u=>p=true∧b=u
theorem NR.pr_holds {r:NR} {f:Bool→Bool} {v:Value} (h:(r.pr f).Holds v):∃b,r.Holds b∧v=.bool (f b):=by
 cases r with
 | no=>exact h.elim
 | t b=>exact⟨b,rfl,h⟩
 | c p b=>exact⟨b,⟨h.1,rfl⟩,h.2⟩
theorem f_a {t:TypeId} {d:TypeDesc} (h:P.underlying t=some d) (w:World):(underlying t).run P w=.ok d w:=by simp [underlying,h]
theorem eqV_ok (hG:G.Ok P) {d:Nat} {t:TypeId} {xo yo:Operand} {x y:Value} {b:Bool} (h:(eqV (G.und t) yo x y).Holds b) (hf:∀u,yo=.const u→y=u) (w:World) :
  (Op.equalIn (d+1) t x y).run P w=.ok b w∧eqGuard .eql t xo yo x y=pure ()∧eqGuard .neq t xo yo x y=pure () ∧
   binOp .eql t x y=(do pure (.bool (←Op.equal t x y)))∧binOp .neq t x y=(do pure (.bool (!(←Op.equal t x y)))):=by
 unfold eqV at h;split at h
 ·rename_i hd;have hd:=hG.und _ _ hd;split at h
  ·simp only [NR.Holds] at h;subst h;exact⟨by simp [Op.equalIn,f_a hd],rfl,rfl,rfl,rfl⟩
  ·exact h.elim
 ·rename_i hd;have hd:=hG.und _ _ hd;split at h
  ·have:=hf _ rfl;subst this;split at h
   ·rename_i p;simp only [NR.Holds] at h;subst h;cases p<;>exact⟨by simp [Op.equalIn,f_a hd],rfl,rfl,rfl,rfl⟩
   ·exact h.elim
  ·exact h.elim
 ·rename_i hd;have hd:=hG.und _ _ hd;split at h
  ·have:=hf _ rfl;subst this;split at h
   ·rename_i p _ _;simp only [NR.Holds] at h;subst h;cases p<;>exact⟨by simp [Op.equalIn,f_a hd],rfl,rfl,rfl,rfl⟩
   ·exact h.elim
  ·exact h.elim
 ·rename_i hd;have hd:=hG.und _ _ hd;split at h
  ·have:=hf _ rfl;subst this;split at h
   ·rename_i p;simp only [NR.Holds] at h;subst h;cases p<;>exact⟨by simp [Op.equalIn,f_a hd],rfl,rfl,rfl,rfl⟩
   ·exact h.elim
  ·exact h.elim
 ·rename_i hd;have hd:=hG.und _ _ hd;split at h
  ·have:=hf _ rfl;subst this;obtain⟨h1,h2⟩:=h;subst h2;unfold isI at h1;split at h1<;>first|(cases h1;done)|exact⟨by simp [Op.equalIn,f_a hd,x_g],rfl,rfl,rfl,rfl⟩|exact⟨by simp [Op.equalIn,f_a hd,x_g],by simp [eqGuard],by simp [eqGuard],rfl,rfl⟩
  ·exact h.elim
 ·rename_i hd;have hd:=hG.und _ _ hd;split at h
  ·have:=hf _ rfl;subst this;obtain⟨h1,h2⟩:=h;subst h2;unfold isF at h1;split at h1<;>first|(cases h1;done)|exact⟨by simp [Op.equalIn,f_a hd,Q_i],rfl,rfl,rfl,rfl⟩
  ·exact h.elim
 ·exact h.elim
theorem bin_run (hG:G.Ok P) {op:BinOp} {t:TypeId} {xo yo:Operand} {x y v:Value} (h:(bin G op t yo x y).Holds v) (hf:∀u,yo=.const u→y=u) (w:World) :
  (do eqGuard op t xo yo x y;binOp op t x y:Sem Value).run P w=.ok v w:=by
 unfold bin at h;split at h
 ·split at h
  ·rename_i k a;split at h
   ·rename_i k' b;have hg:eqGuard op t xo yo (.int k a) (.int k' b)=pure ():=by
     cases op<;>rfl
    rw [hg];cases op<;>simp only at h
    case shl|shr =>
     obtain⟨h0,rfl⟩:=h;simp [go_sem,binOp,Op.shift,l_,W_];omega
    all_goals
     cases hk:sameK k k' with
     | false=>rw [hk] at h;exact h.elim
     | true =>
      rw [hk] at h;have:=sameK_eq hk;subst this;simp only [binI,PR.Holds] at h
      first
       | (obtain⟨h0,rfl⟩:=h;simp [go_sem,binOp,Op.intDiv,h0];done)
       | (subst h;simp [go_sem,binOp,Op.intArith,Op.intBits,Op.intCmp,Q_,orI,O_j,n_];done)
       | exact h.elim
   ·exact h.elim
  ·rename_i a;split at h
   ·rename_i b;have hg:eqGuard op t xo yo (.string a) (.string b)=pure ():=by
     cases op<;>rfl
    rw [hg];cases op<;>simp only [binS,PR.Holds] at h
    case add =>
     obtain⟨h0,rfl⟩:=h;have h1:¬((a.size+b.size:Nat):Int)>i64.max:=by omega
     show (Op.stringOp .add a b).run P w=_;unfold Op.stringOp;simp only [if_neg h1];rfl
    all_goals first|exact h.elim|(subst h;simp [go_sem,binOp,Op.stringOp];done)
   ·exact h.elim
  ·exact h.elim
 ·cases op
  case eql =>
   obtain⟨b,hb,rfl⟩:=NR.pr_holds h;obtain⟨hr,h1,_,h2,_⟩:=eqV_ok hG (d:=9999) (xo:=xo) hb hf w;have hr:(Op.equal t x y).run P w=.ok b w:=hr;rw [h1,h2];simp [go_sem,hr]
  case neq =>
   obtain⟨b,hb,rfl⟩:=NR.pr_holds h;obtain⟨hr,_,h1,_,h2⟩:=eqV_ok hG (d:=9999) (xo:=xo) hb hf w;have hr:(Op.equal t x y).run P w=.ok b w:=hr;rw [h1,h2];simp [go_sem,hr]
  all_goals exact h.elim
theorem un_run {op:UnOp} {x v:Value} (h:(un op x).Holds v) (w:World):(Op.unary op x).run P w=.ok v w:=by
 unfold un at h;split at h
 ·subst h;simp [Op.unary,go_sem]
 ·subst h;simp [Op.unary,Op.intArith,go_sem]
 ·subst h;simp [Op.unary,Op.intBits,notI,O_j,go_sem]
 ·exact h.elim
theorem conv_run (hG:G.Ok P) {s d:TypeId} {x v:Value} (h:(conv G s d x).Holds v) (w:World):(convert s d x).run P w=.ok v w:=by
 unfold conv at h;split at h
 ·rename_i a b hs hd;have hs:=hG.und _ _ hs;have hd:=hG.und _ _ hd;subst h;simp [convert,underlying,hs,hd,Conv.intToInt,go_sem]
 ·rename_i a b hs hd;have hs:=hG.und _ _ hs;have hd:=hG.und _ _ hd;subst h;simp [convert,underlying,hs,hd,go_sem]
 ·exact h.elim
end Go.Sh
namespace Go.Sh
variable {P:Program} {G:Tab} {M:List Deferred}
def evL (e:Env):List Operand→Option (List Value)
 | []=>some []
 | x :: r=>match ev e x,evL e r with
  | some v,some l=>some (v :: l)
  | _,_=>none
def evP (e:Env):List (Nat×Operand)→Option (List (Nat×Value))
 | []=>some []
 | (i,x) :: r=>match ev e x,evP e r with
  | some v,some l=>some ((i,v) :: l)
  | _,_=>none
def v_ (op:BinOp) (t:TypeId) (x y:Operand) (a b:Value):Sem Value:=do eqGuard op t x y a b;binOp op t a b
def evO (e:Env):Option Operand→Option (Option Value)
 | none=>some none
 | some x=>match ev e x with|some v=>some (some v)|none=>none
def insV (e:Env) (o:Oper):Option (Sem Value) :=
 match o.op with
 | .binOp op t x y _=>match ev e x,ev e y with
  | some a,some b=>some (v_ op t x y a b)
  | _,_=>none
 | .unOp op _ x=>match ev e x with
  | some a=>some (Op.unary op a)
  | none=>none
 | .convert s d x=>match ev e x with
  | some a=>some (convert s d a)
  | none=>none
 | .sliceToArrayPointer t x=>match ev e x with
  | some a=>some (Instr.arrayAt t a)
  | none=>none
 | .lookup t x i ok=>match ev e x,ev e i with
  | some a,some b=>some (Instr.lookup t a b ok)
  | _,_=>none
 | .index t x i=>match ev e x,ev e i with
  | some a,some b=>some (Instr.index t a b)
  | _,_=>none
 | .fieldAddr t x f=>match ev e x with
  | some a=>some (Instr.fieldAt t a f)
  | none=>none
 | .typeAssert x t u ok=>match ev e x with
  | some a=>some (Instr.typeAssert a t u ok)
  | none=>none
 | .makeSlice t l c=>match ev e l,ev e c with
  | some a,some b=>some (Instr.makeSlice t a b)
  | _,_=>none
 | .makeMap t none=>some (Instr.makeMap t none)
 | .makeMap t (some x)=>match ev e x with
  | some a=>some (Instr.makeMap t (some a))
  | none=>none
 | .mapEntry t m k=>match ev e m,ev e k with
  | some a,some b=>some (Instr.mapEntry t a b)
  | _,_=>none
 | .range t x=>match ev e x with
  | some a=>some (Instr.range t a)
  | none=>none
 | .next x b=>match ev e x with
  | some a=>some (Instr.next a b o.type)
  | none=>none
 | .entry x=>match ev e x with
  | some a=>some (Instr.entry a)
  | none=>none
 | .buildSlice t n parts=>match evP e parts.toList with
  | some ps=>some (Instr.buildSlice t n ps.toArray)
  | none=>none
 | .call c=>match c.callee,evL e c.args.toList with
  | .builtin .append,some l=>some (Builtin.append_ c.argTypes o.type l.toArray)
  | .builtin .copy,some l=>some (Builtin.copy_ c.argTypes o.type l.toArray)
  | .builtin .delete,some l=>some (Builtin.delete_ c.argTypes o.type l.toArray)
  | .builtin .clear,some l=>some (Builtin.clear_ c.argTypes o.type l.toArray)
  | .builtin .len,some l=>some (Builtin.len_ c.argTypes o.type l.toArray)
  | .builtin .cap,some l=>some (Builtin.cap_ c.argTypes o.type l.toArray)
  | .builtin .min,some l=>some (Builtin.min_ c.argTypes o.type l.toArray)
  | .builtin .max,some l=>some (Builtin.max_ c.argTypes o.type l.toArray)
  | _,_=>none
 | .slice t x lo hi (some m)=>match ev e x,evO e lo,evO e hi,ev e m with
  | some a,some l,some h,some m=>some (Instr.sliceAt t a l h (some m))
  | _,_,_,_=>none
 | .build t parts=>match evP e parts.toList with
  | some ps=>some (Instr.build t ps.toArray)
  | none=>none
 | _=>none
def held (s:Option (World→Prop)) (w:World):Prop:=match s with|none=>True|some s=>s w
def q_f (P:Program) (s:Sem Value) (w:World) (K:Value→Prop):Prop:=∃v,s.run P w=.ok v w∧K v
def RunP (P:Program) (s:Sem Value) (K:Value→Prop):Prop:=∃v,(∀w,s.run P w=.ok v w)∧K v
def RawP (P:Program) (G:Tab) (e:Env) (o:Oper) (K:Value→Option (World→Prop)→Prop):Prop :=
 match insV e o with
 | some s=>RunP P s fun v=>As (shT G 12 o.type) v fun v=>K v none
 | none=>False
def RawR (P:Program) (G:Tab) (e:Env) (o:Oper) (w:World) (K:Value→Option (World→Prop)→Prop):Prop :=
 match insV e o with
 | some s=>q_f P s w fun v=>As (shT G 12 o.type) v fun v=>K v (some fun w'=>s.run P w'=.ok v w')
 | none=>False
def Ld (w:World) (a:Addr) (K:Value→Prop):Prop:=∃v,w.cell? a=some v∧K v
def NilP (p:Option Addr) (K:Addr→Prop):Prop:=match p with|some a=>K a|none=>False
theorem NilP.out {p:Option Addr} {K:Addr→Prop} (h:NilP p K):∃a,p=some a∧K a:=by
 cases p with
 | none=>exact False.elim h
 | some a=>exact⟨a,rfl,h⟩
def at0 (a:Addr) (n:Nat):Addr:=match n with|0=>a|n+1=>{ a with off:=a.off+(n+1),spot:=none }
def ldN (w:World) (a:Addr):List Sh→Nat→(List Value→(World→Prop)→Prop)→Prop
 | [],_,K=>K [] tt
 | h :: t,i,K=>Ld w (at0 a i) fun v=>As h v fun v=>ldN w a t (i+1) fun vs s=>K (v :: vs) fun w'=>w'.cell? (at0 a i)=some v∧s w'
def y_g:TypeDesc→Bool
 | .struct _=>true
 | .array _ _=>true
 | _=>false
def t_h (a:Addr) (vs:List Value) (w:World):Prop:=∀i v,vs[i]?=some v→w.cell? (at0 a i)=some v
def LdR (w:World) (a:Addr) (n:Nat) (K:List Value→Prop):Prop:=∃vs:List Value,vs.length=n∧t_h a vs w∧K vs
def ld (G:Tab) (t:TypeId) (a:Addr) (w:World) (K:Value→(World→Prop)→Prop):Prop :=
 match G.und t with
 | none=>False
 | some d=>match y_g d with
  | false=>Ld w a fun v=>As (shT G 12 t) v fun v=>K v fun w'=>w'.cell? a=some v
  | true=>match G.siz t with
   | none=>False
   | some n=>let l:=shC G 12 t;match Nat.beq l.length n with
    | true=>ldN w a l 0 fun vs s=>K (.agg vs.toArray) s
    | false=>LdR w a n fun vs=>K (.agg vs.toArray) (t_h a vs)
def prt (G:Tab) (t:TypeId) (cs:Array Value) (off:Nat) (K:Value→Prop):Prop :=
 match G.und t with
 | none=>False
 | some d=>match y_g d with
  | true=>match G.siz t with
   | none=>False
   | some n=>K (.agg ((cs.toList.drop off).take n).toArray)
  | false=>match cs.toList[off]? with
   | some v=>K v
   | none=>False
def bnd (x:Option Value) (dflt ub:Nat) (K:Nat→Prop):Prop :=
 match x with
 | none=>K dflt
 | some (.int _ i)=>0≤i∧i≤(ub:Int)∧K i.toNat
 | some _=>False
def S_ (a:Option Addr) (l m size:Nat):Option Addr:=if m=l then a else a.map fun a=>at0 a (l*size)
def slc (G:Tab) (t:TypeId) (x:Value) (lo hi:Option Value) (D:Prop) (K:Value→Prop):Prop :=
 match G.und t,x with
 | some (.string),.string s=>bnd hi s.size s.size fun h=>bnd lo 0 h fun l=>K (.string (s.extract l h))
 | some (.slice e),.slice a n c=>match G.siz e with
  | none=>False
  | some z=>bnd hi n c fun h=>bnd lo 0 h fun l=>K (.slice (S_ a l c z) (h-l) (c-l))
 | some (.array n e),.pointer (some a)=>match G.siz e with
  | none=>False
  | some z=>bnd hi n n fun h=>bnd lo 0 h fun l=>K (.slice (S_ (some a) l n z) (h-l) (n-l))
 | _,_=>D
def idxA (G:Tab) (t:TypeId) (x i:Value) (K:Value→Prop):Prop :=
 match G.und t,x,i with
 | some (.slice e),.slice b n _,.int _ i=>match G.siz e with
  | none=>False
  | some z=>NilP b fun a=>0≤i∧i<(n:Int)∧K (.pointer (some (at0 a (i.toNat*z))))
 | some (.array n e),.pointer b,.int _ i=>match G.siz e with
  | none=>False
  | some z=>NilP b fun a=>0≤i∧i<(n:Int)∧K (.pointer (some (at0 a (i.toNat*z))))
 | _,_,_=>False
def fldA (G:Tab) (t:TypeId) (x:Value) (f:Nat) (D:Prop) (K:Value→Prop):Prop :=
 match G.und t,x with
 | some (.struct fs),.pointer b=>match fs.toList[f]? with
  | none=>False
  | some g=>match G.siz g.type with
   | some (_+1)=>NilP b fun a=>K (.pointer (some (at0 a g.offset)))
   | _=>D
 | _,_=>False
def r_g (G:Tab):List Field→Option (List (Nat×Nat))
 | []=>some []
 | f :: r=>match G.siz f.type,r_g G r with
  | some z,some l=>some ((f.offset,z) :: l)
  | _,_=>none
def I_k (v:Value) (K:Value→Prop):Prop :=
 match v with
 | .pointer p=>NilP p fun a=>K (.pointer (some a))
 | .iface t v=>K (.iface t v)
 | .func (.func f) a b=>K (.func (.func f) a b)
 | .func (.via t p f b) x y=>K (.func (.via t p f b) x y)
 | .func (.yield l) x y=>K (.func (.yield l) x y)
 | _=>False
def lenV (d:Option TypeDesc) (x:Value):Option Int :=
 match d,x with
 | some .string,.string s=>some s.size
 | some (.array n _),_=>some n
 | some (.slice _),.slice _ n _=>some n
 | some (.map _ _),.map none=>some 0
 | _,_=>none
def capV (d:Option TypeDesc) (x:Value):Option Int :=
 match d,x with
 | some (.array n _),_=>some n
 | some (.slice _),.slice _ _ n=>some n
 | _,_=>none
def bld (G:Tab) (t:TypeId) (ps:List (Nat×Value)) (K:Value→Prop):Prop :=
 match G.zer t,G.und t with
  | some z,some (.struct fs)=>match r_g G fs.toList with
   | some l=>match Instr.fill (fun i=>l[i]?) z.cells ps with
    | some cs=>K (.agg cs)
    | none=>False
   | none=>False
  | some z,some (.array _ el)=>match G.siz el with
   | some n=>match Instr.fill (fun i=>some (i*n,n)) z.cells ps with
    | some cs=>K (.agg cs)
    | none=>False
   | none=>False
  | _,_=>False
def isRaw:Sh→Bool | .raw=>true|_=>false
def hasRaw (G:Tab) (t:TypeId):List (Nat×Operand)→Bool
 | []=>match G.zer t with|some _=>false|none=>true
 | (i,_) :: r=>match G.und t with
  | some (.struct fs)=>match fs.toList[i]? with
   | some f=>match isRaw (shT G 12 f.type) with|true=>true|false=>hasRaw G t r
   | none=>false
  | _=>false
def rd (P:Program) (G:Tab) (e:Env) (o:Oper) (w:World) (K:Value→Option (World→Prop)→Prop):Prop :=
 match o.op with
 | .move x=>match ev e x with|some v=>K v none|none=>False
 | .assign x=>match ev e x with|some v=>K v none|none=>False
 | .pick c a b=>match ev e c,ev e a,ev e b with
  | some (.bool t),some x,some y=>match t with
   | true=>K x none
   | false=>K y none
  | _,_,_=>False
 | .load t a=>match ev e a with
  | some (.pointer b)=>NilP b fun a=>ld G t a w fun v s=>K v (some s)
  | _=>False
 | .nilCheck x=>match ev e x with
  | some v=>I_k v fun v=>K v none
  | none=>False
 | .binOp op t x y _=>match ev e x,ev e y with
  | some a,some b=>(bin G op t y a b).use (RawP P G e o K) fun v=>K v none
  | _,_=>False
 | .unOp op _ x=>match ev e x with
  | some a=>(un op a).use (RawP P G e o K) fun v=>K v none
  | _=>False
 | .convert s d x=>match ev e x with
  | some a=>(conv G s d a).use (RawP P G e o K) fun v=>K v none
  | _=>False
 | .fieldAddr t x f=>match ev e x with
  | some v=>fldA G t v f (RawR P G e o w K) fun v=>K v none
  | none=>False
 | .field t x f=>match G.und t,ev e x with
  | some (.struct fs),some (.agg cs)=>match fs.toList[f]? with
   | some g=>prt G g.type cs g.offset fun v=>K v none
   | none=>False
  | _,_=>False
 | .indexAddr t x i=>match ev e x,ev e i with
  | some v,some i=>idxA G t v i fun v=>K v none
  | _,_=>False
 | .index t x i=>match G.und t,ev e x,ev e i with
  | some (.string),some (.string s),some (.int _ i)=>0≤i∧∃b,s[i.toNat]?=some b∧K (.int .u8 b.toNat) none
  | some (.array n el),some (.agg cs),some (.int _ i)=>match G.und el,G.siz el with
   | some d,some z=>match y_g d with
    | false=>0≤i∧i<(n:Int)∧∃v,cs[i.toNat*z]?=some v∧As (shT G 12 el) v fun v=>K v none
    | true=>RawP P G e o K
   | _,_=>RawP P G e o K
  | _,_,_=>RawP P G e o K
 | .slice t x lo hi none=>match ev e x,evO e lo,evO e hi with
  | some v,some l,some h=>slc G t v l h (RawR P G e o w K) fun v=>K v none
  | _,_,_=>False
 | .extract x i=>match ev e x with
  | some (.tuple vs)=>match vs.toList[i]? with
   | some v=>K v none
   | none=>False
  | _=>False
 | .makeInterface t x=>match G.und t,ev e x with
  | some (.interface _),_=>False
  | some _,some v=>K (.iface t v) none
  | _,_=>False
 | .makeFunc f a b=>match evL e a.toList,evL e b.toList with
  | some xs,some ys=>K (.func f xs.toArray ys.toArray) none
  | _,_=>False
 | .build t parts=>match hasRaw G t parts.toList with
  | true=>RawP P G e o K
  | false=>match evP e parts.toList with
   | some ps=>bld G t ps fun v=>K v none
   | none=>False
 | .call c=>match c.callee,c.args.toList,c.argTypes.toList with
  | .builtin .len,[x],[t]=>match ev e x with
   | some v=>match lenV (G.und t) v with
    | some n=>K (.int .i64 n) none
    | none=>RawR P G e o w K
   | none=>False
  | .builtin .cap,[x],[t]=>match ev e x with
   | some v=>match capV (G.und t) v with
    | some n=>K (.int .i64 n) none
    | none=>RawR P G e o w K
   | none=>False
  | .builtin .min,[x,y],_=>match ev e x,ev e y with
   | some (.int k a),some (.int _ b)=>K (.int k (if b<a then b else a)) none
   | _,_=>RawR P G e o w K
  | .builtin .max,[x,y],_=>match ev e x,ev e y with
   | some (.int k a),some (.int _ b)=>K (.int k (if b>a then b else a)) none
   | _,_=>RawR P G e o w K
  | _,_,_=>RawR P G e o w K
 | _=>RawR P G e o w K
def isR (G:Tab) (o:Op):Bool :=
 match o with
 | .move _ | .assign _ | .pick .. | .load .. | .nilCheck _ | .binOp .. | .unOp .. | .fieldAddr .. | .field .. | .indexAddr .. | .index .. | .slice ..
 | .extract .. | .makeInterface .. | .lookup .. | .typeAssert .. | .makeFunc .. | .build ..=>true
 | .convert s d _=>match G.und s,G.und d with
  | some (.slice _),_=>false
  | _,some (.slice _)=>false
  | _,_=>true
 | .call c=>match c.callee with
  | .builtin .len | .builtin .cap | .builtin .min | .builtin .max=>true
  | _=>false
 | _=>false
theorem n_a (a:Addr) (n:Nat):at0 a n=a.add n:=by
 cases n<;>simp [at0,Addr.add]
theorem J_e {e:Env} {nt:Nat} {a:Act} (ha:Ok M nt e a):∀{l:List Operand} {vs:List Value},evL e l=some vs→l.map a.eval=vs
 | [],vs,h=>by simp [evL] at h;simp [h]
 | x :: r,vs,h=>by
  simp only [evL] at h;split at h
  ·rename_i v l hv hl;injection h with h;subst h;simp [ha.ev hv,J_e ha hl]
  ·cases h
theorem Y_i {e:Env} {nt:Nat} {a:Act} (ha:Ok M nt e a):∀{l:List (Nat×Operand)} {vs:List (Nat×Value)},evP e l=some vs→l.map (fun (i,x)=>(i,a.eval x))=vs
 | [],vs,h=>by simp [evP] at h;simp [h]
 | (i,x) :: r,vs,h=>by
  simp only [evP] at h;split at h
  ·rename_i v l hv hl;injection h with h;subst h;simpa [ha.ev hv] using Y_i ha hl
  ·cases h
theorem N_ {t:TypeId} {d:TypeDesc} (h:P.underlying t=some d) (w:World):(underlying t).run P w=.ok d w:=by simp [underlying,h]
theorem o_ {t:TypeId} {z:Nat} (h:k_c P t=some z) (w:World):(sizeOf t).run P w=.ok z w:=by
 unfold k_c at h;cases hi:P.info? t with
 | none=>rw [hi] at h;cases h
 | some i=>rw [hi] at h;injection h with h;subst h;simp [sizeOf,typeInfo,hi]
theorem b_b {t:TypeId} {d:TypeDesc} (h:P.underlying t=some d) (w:World):(isAgg t).run P w=.ok (y_g d) w:=by
 cases d<;>simp [isAgg,N_ h,y_g]
theorem ldN_ok {w:World} {a:Addr}:∀{l:List Sh} {i:Nat} {K:List Value→(World→Prop)→Prop},ldN w a l i K →
  ∃vs s,K vs s∧s w∧vs.length=l.length∧∀w',s w'→∀acc:Array Value,(loadCellsFrom a i l.length acc).run P w'=.ok (acc++vs.toArray) w'
 | [],i,K,h=>⟨[],tt,h,trivial,rfl,fun w' _ acc=>by simp [loadCellsFrom]⟩
 | h :: t,i,K,⟨v,hv,hh⟩=>by
  obtain⟨vs,s,hK,hs,hlen,hrun⟩:=ldN_ok (As.elim hh);refine⟨v :: vs,_,hK,⟨hv,hs⟩,by simp [hlen],fun w' hw acc=>?_⟩;obtain⟨h1,h2⟩:=hw;rw [n_a] at h1;have:=hrun w' h2 (acc.push v);simp only [List.length_cons,loadCellsFrom,Sem.run_bind,run_load,h1,Result.andThen,this];simp
theorem ld_ok (hG:G.Ok P) {t:TypeId} {a:Addr} {w:World} {K:Value→(World→Prop)→Prop} (h:ld G t a w K) :
  ∃v s,K v s∧s w∧∀w',s w'→(loadVar t a).run P w'=.ok v w':=by
 unfold ld at h;split at h
 ·exact h.elim
 rename_i d hd;split at h
 ·rename_i hag;obtain⟨v,hv,hh⟩:=h;refine⟨v,_,As.elim hh,hv,fun w' hw=>?_⟩;unfold loadVar;simp [b_b (hG.und _ _ hd),hag,hw]
 ·rename_i hag;split at h
  ·exact h.elim
  rename_i n hn;simp only at h;split at h
  ·rename_i hb;have hbl:=Nat.eq_of_beq_eq_true hb;obtain⟨vs,s,hK,hs,hlen,hrun⟩:=ldN_ok (P:=P) h;refine⟨_,s,hK,hs,fun w' hw=>?_⟩;unfold loadVar;have:=hrun w' hw #[];rw [hbl] at this;simp [b_b (hG.und _ _ hd),hag,o_ (hG.siz _ _ hn),loadCells,this]
  ·obtain⟨vs,hlen,hc,hK⟩:=h;refine⟨_,_,hK,hc,fun w' hw=>?_⟩;have hr:=run_loadCells_list (P:=P) w' a vs (fun j v hj=>by rw [←n_a];exact hw j v hj);rw [hlen] at hr;unfold loadVar;simp [b_b (hG.und _ _ hd),hag,o_ (hG.siz _ _ hn),hr]
theorem prt_ok (hG:G.Ok P) {t:TypeId} {cs:Array Value} {off:Nat} {K:Value→Prop} (h:prt G t cs off K) :
  ∃v,K v∧∀w,(part t cs off).run P w=.ok v w:=by
 unfold prt at h;split at h
 ·exact h.elim
 rename_i d hd;split at h
 ·rename_i hag;split at h
  ·exact h.elim
  rename_i n hn;refine⟨_,h,fun w=>?_⟩;simp only [part,Sem.run_bind,b_b (hG.und _ _ hd),hag,Result.andThen_ok,if_true,o_ (hG.siz _ _ hn)];have:cs.extract off (off+n)=((cs.toList.drop off).take n).toArray:=by
   apply Array.ext';simp [List.extract_eq_take_drop]
  simp [this]
 ·rename_i hag;split at h
  ·rename_i v hv;refine⟨_,h,fun w=>?_⟩;have:cs[off]?=some v:=by simpa using hv
   simp [part,b_b (hG.und _ _ hd),hag,this]
  ·exact h.elim
theorem bnd_ok {x:Option Value} {dflt ub:Nat} {K:Nat→Prop} (h:bnd x dflt ub K) :
  ∃n,K n∧(x=none∧n=dflt∨∃v,x=some v∧∀c w,(Instr.sliceBound v ub c).run P w=.ok n w):=by
 unfold bnd at h;split at h
 ·exact⟨_,h,.inl ⟨rfl,rfl⟩⟩
 ·rename_i k i;obtain⟨h0,h1,hK⟩:=h;exact⟨_,hK,.inr ⟨_,rfl,fun c w=>by simp [Instr.sliceBound,asIntOf,h0,h1]⟩⟩
 ·exact h.elim
theorem E_f {b:Bool} {len cap:Nat} {lo hi:Option Value} {K:Nat→Nat→Prop}
  (h:bnd hi len cap fun h=>bnd lo 0 h fun l=>K l h) :
  ∃l h,K l h∧∀w,(Instr.sliceBounds b len cap lo hi none).run P w=.ok (l,h,cap) w:=by
 obtain⟨h,hl,hh⟩:=bnd_ok (P:=P) h;obtain⟨l,hK,hll⟩:=bnd_ok (P:=P) hl;refine⟨l,h,hK,fun w=>?_⟩;rcases hh with ⟨rfl,rfl⟩|⟨v,rfl,hv⟩<;>rcases hll with ⟨rfl,rfl⟩|⟨u,rfl,hu⟩<;>simp [Instr.sliceBounds, *]
theorem h_g (a:Option Addr) (l m z:Nat):S_ a l m z=if m=l then a else a.map (·.add (l*z)):=by
 unfold S_;congr 1;cases a<;>simp [n_a]
theorem slc_ok (hG:G.Ok P) {t:TypeId} {x:Value} {lo hi:Option Value} {D:Prop} {K:Value→Prop} (h:slc G t x lo hi D K) :
  D∨∃v,K v∧∀w,(Instr.sliceAt t x lo hi none).run P w=.ok v w:=by
 unfold slc at h;split at h
 ·rename_i s hu;obtain⟨l,h',hK,hr⟩:=E_f (P:=P) (b:=false) (K:=fun l h=>K (.string (s.extract l h))) h;exact .inr ⟨_,hK,fun w=>by simp [Instr.sliceAt,N_ (hG.und _ _ hu),Instr.slice,hr]⟩
 ·rename_i e a n c hu;split at h
  ·exact h.elim
  rename_i z hz;obtain⟨l,h',hK,hr⟩:=E_f (P:=P) (b:=true) (K:=fun l h=>K (.slice (S_ a l c z) (h-l) (c-l))) h;exact .inr ⟨_,hK,fun w=>by simp [Instr.sliceAt,N_ (hG.und _ _ hu),Instr.slice,hr,o_ (hG.siz _ _ hz),h_g]⟩
 ·rename_i n e a hu;split at h
  ·exact h.elim
  rename_i z hz;obtain⟨l,h',hK,hr⟩:=E_f (P:=P) (b:=false) (K:=fun l h=>K (.slice (S_ (some a) l n z) (h-l) (n-l))) h;refine .inr ⟨_,hK,fun w=>?_⟩;have:S_ (some a) l n z=some (if n=l then a else a.add (l*z)):=by rw [h_g];split<;>rfl
  simp [Instr.sliceAt,N_ (hG.und _ _ hu),Instr.sureAddr,hr,o_ (hG.siz _ _ hz),this]
 ·exact .inl h
theorem idxA_ok (hG:G.Ok P) {t:TypeId} {x i:Value} {K:Value→Prop} (h:idxA G t x i K):∃v,K v∧∀w,(Instr.indexAt t x i).run P w=.ok v w:=by
 unfold idxA at h;split at h
 ·rename_i e b n c k i hu;split at h
  ·exact h.elim
  rename_i z hz;obtain⟨a,rfl,h0,h1,hK⟩:=NilP.out h;exact⟨_,hK,fun w=>by simp [Instr.indexAt,asIntOf,N_ (hG.und _ _ hu),o_ (hG.siz _ _ hz),h0,h1,n_a]⟩
 ·rename_i n e b k i hu;split at h
  ·exact h.elim
  rename_i z hz;obtain⟨a,rfl,h0,h1,hK⟩:=NilP.out h;exact⟨_,hK,fun w=>by simp [Instr.indexAt,asIntOf,N_ (hG.und _ _ hu),o_ (hG.siz _ _ hz),h0,h1,n_a,Instr.sureAddr]⟩
 ·exact h.elim
theorem fldA_ok (hG:G.Ok P) {t:TypeId} {x:Value} {f:Nat} {D:Prop} {K:Value→Prop} (h:fldA G t x f D K) :
  D∨∃v,K v∧∀w,(Instr.fieldAt t x f).run P w=.ok v w:=by
 unfold fldA at h;split at h
 ·rename_i fs b hu;split at h
  ·exact h.elim
  rename_i g hg;split at h
  ·rename_i z hz;obtain⟨a,rfl,hK⟩:=NilP.out h;have hg':fs[f]?=some g:=by simpa using hg
   exact .inr ⟨_,hK,fun w=>by simp [Instr.fieldAt,N_ (hG.und _ _ hu),hg',Instr.sureAddr,fieldPlace,o_ (hG.siz _ _ hz),n_a]⟩
  ·exact .inl h
 ·exact h.elim
theorem H_k {x:Value} {K:Value→Prop} (h:I_k x K):∃v,K v∧∀(o:Oper) (y:Operand) (ρ:Operand→Value) w,o.op=.nilCheck y→ρ y=x→(execOp ρ o).run P w=.ok (.value v) w:=by
 unfold I_k at h;split at h
 ·obtain⟨a,rfl,hK⟩:=NilP.out h;exact⟨_,hK,fun o y ρ w ho hy=>by simp [execOp,ho,hy]⟩
 all_goals first
  | exact⟨_,h,fun o y ρ w ho hy=>by simp [execOp,ho,hy]⟩
  | exact h.elim
theorem lenV_ok (hG:G.Ok P) {t ty:TypeId} {x:Value} {n:Int} (h:lenV (G.und t) x=some n) (w:World):(Builtin.len_ #[t] ty #[x]).run P w=.ok (.int .i64 n) w:=by
 cases hu:G.und t with
 | none=>rw [hu] at h;simp [lenV] at h
 | some d =>
  rw [hu] at h;have hu:=hG.und _ _ hu;unfold lenV at h;split at h<;>simp only [Option.some.injEq,reduceCtorEq] at h<;>subst h<;>rename_i hd<;>simp only [Option.some.injEq] at hd<;>subst hd <;>
   simp [Builtin.len_,N_ hu,goInt]
theorem capV_ok (hG:G.Ok P) {t ty:TypeId} {x:Value} {n:Int} (h:capV (G.und t) x=some n) (w:World):(Builtin.cap_ #[t] ty #[x]).run P w=.ok (.int .i64 n) w:=by
 cases hu:G.und t with
 | none=>rw [hu] at h;simp [capV] at h
 | some d =>
  rw [hu] at h;have hu:=hG.und _ _ hu;unfold capV at h;split at h<;>simp only [Option.some.injEq,reduceCtorEq] at h<;>subst h<;>rename_i hd<;>simp only [Option.some.injEq] at hd<;>subst hd <;>
   simp [Builtin.cap_,N_ hu,goInt]
theorem q_g (hG:G.Ok P):∀{fs:List Field} {l:List (Nat×Nat)},r_g G fs=some l→∀w,(fs.mapM fun f=>do pure (f.offset,←sizeOf f.type):Sem (List (Nat×Nat))).run P w=.ok l w
 | [],l,h,w=>by simp [r_g] at h;subst h;rfl
 | f :: r,l,h,w=>by
  simp only [r_g] at h;split at h
  ·rename_i z l' hz hl;injection h with h;subst h
   simp only [List.mapM_cons,Sem.run_bind,o_ (hG.siz _ _ hz),Result.andThen_ok,Sem.run_pure,q_g hG hl w]
  ·cases h
theorem M_b {t:TypeId} {z:Value} (h:d_e P t=some z) (w:World):(zeroValue t).run P w=.ok z w:=by
 unfold d_e at h;cases hi:P.info? t with
 | none=>rw [hi] at h;cases h
 | some i=>rw [hi] at h;simp only at h;simp [zeroValue,typeInfo,hi,h]
theorem bld_ok (hG:G.Ok P) {t:TypeId} {ps:List (Nat×Value)} {K:Value→Prop} (h:bld G t ps K):∃v,K v∧∀w,(Instr.build t ps.toArray).run P w=.ok v w:=by
 unfold bld at h;split at h
 ·rename_i z fs hz hu;split at h
  ·rename_i l hl;split at h
   ·rename_i cs hcs;refine⟨_,h,fun w=>?_⟩;have hp:=q_g hG hl w;simp only [Instr.build,Sem.run_bind,M_b (hG.zer _ _ hz),Result.andThen_ok,N_ (hG.und _ _ hu)];rw [←Array.toArray_toList (xs:=fs)];simp only [List.mapM_toArray,Sem.run_map,hp,Result.andThen_ok];simp [hcs]
   ·exact h.elim
  ·exact h.elim
 ·rename_i z n el hz hu;split at h
  ·rename_i n hn;split at h
   ·rename_i cs hcs;refine⟨_,h,fun w=>?_⟩;simp [Instr.build,M_b (hG.zer _ _ hz),N_ (hG.und _ _ hu),o_ (hG.siz _ _ hn),hcs]
   ·exact h.elim
  ·exact h.elim
 ·exact h.elim
theorem PR.use_ok {r:PR} {D:Prop} {K:Value→Prop} (h:r.use D K):D∨∃v,K v∧r.Holds v:=by
 cases r with
 | no=>exact .inl h
 | t v=>exact .inr ⟨v,h,rfl⟩
 | c p v=>exact .inr ⟨v,h.2,h.1,rfl⟩
 | nz b v=>have h:=NZ.out h;exact .inr ⟨v,h.2,h.1,rfl⟩
 | nn b v=>have h:=NN.out h;exact .inr ⟨v,h.2,h.1,rfl⟩
theorem evO_ok {e:Env} {nt:Nat} {a:Act} (ha:Ok M nt e a) {x:Option Operand} {v:Option Value} (h:evO e x=some v):x.map a.eval=v:=by
 cases x with
 | none=>simp only [evO,Option.some.injEq] at h;subst h;rfl
 | some x =>
  simp only [evO] at h;split at h
  ·rename_i u hu;injection h with h;subst h;simp [ha.ev hu]
  ·cases h
theorem h_h {nt:Nat} {e:Env} {o:Oper} {s:Sem Value} {a:Act} (h:insV e o=some s) (ha:Ok M nt e a) :
  execOp a.eval o=(do pure (.value (←s))):=by
 unfold insV at h;split at h<;>rename_i ho
 case h_16 t n parts =>
  split at h<;>simp only [Option.some.injEq,reduceCtorEq] at h;rename_i ps hp;subst h;have e1:parts.map (fun (i,x)=>(i,a.eval x))=ps.toArray:=by apply Array.ext';simp [←Y_i ha hp]
  simp only [execOp,ho,e1]
 case h_17 c =>
  obtain⟨cal,args,tys⟩:=c;simp only at h;split at h<;>simp only [Option.some.injEq,reduceCtorEq] at h<;>rename_i l hl<;>subst h <;>
   (have e1:args.map a.eval=l.toArray:=by (apply Array.ext';simp [←J_e ha hl])) <;>
   (simp only [execOp,ho,resolve,e1];rfl)
 case h_18 t x lo hi m =>
  split at h<;>simp only [Option.some.injEq,reduceCtorEq] at h;rename_i h1 h2 h3 h4;subst h;simp only [execOp,ho,ha.ev h1,evO_ok ha h2,evO_ok ha h3,ha.ev h4,Option.map_some]
 case h_19 t parts =>
  split at h<;>simp only [Option.some.injEq,reduceCtorEq] at h;rename_i ps hp;subst h;have e1:parts.map (fun (i,x)=>(i,a.eval x))=ps.toArray:=by apply Array.ext';simp [←Y_i ha hp]
  simp only [execOp,ho,e1]
 all_goals first
  | (cases h;done)
  | (split at h<;>simp only [Option.some.injEq,reduceCtorEq] at h<;>subst h<;>rename_i h1 h2<;>simp only [execOp,ho,ha.ev h1,ha.ev h2,v_]<;>done)
  | (split at h<;>simp only [Option.some.injEq,reduceCtorEq] at h<;>subst h<;>rename_i h1<;>simp only [execOp,ho,ha.ev h1,Option.map]<;>done)
  | (injection h with h;subst h;simp only [execOp,ho,Option.map])
theorem P_c {nt:Nat} {e:Env} {o:Oper} {w:World} {K:Value→Option (World→Prop)→Prop} (h:RawR P G e o w K) :
  ∃v s,K v s∧held s w∧∀a w',Ok M nt e a→held s w'→(execOp a.eval o).run P w'=.ok (.value v) w':=by
 unfold RawR at h;split at h
 ·rename_i s hs;obtain⟨v,hr,hv⟩:=h;refine⟨v,_,As.elim hv,hr,fun a w' ha hw=>?_⟩;rw [h_h hs ha];have hw:s.run P w'=.ok v w':=hw;simp [hw]
 ·exact h.elim
theorem s_c {nt:Nat} {e:Env} {o:Oper} {w:World} {K:Value→Option (World→Prop)→Prop} (h:RawP P G e o K) :
  ∃v s,K v s∧held s w∧∀a w',Ok M nt e a→held s w'→(execOp a.eval o).run P w'=.ok (.value v) w':=by
 unfold RawP at h;split at h
 ·rename_i s hs;obtain⟨v,hr,hv⟩:=h;refine⟨v,none,As.elim hv,trivial,fun a w' ha hw=>?_⟩;rw [h_h hs ha];simp [hr w']
 ·exact h.elim
theorem rd_ok (hG:G.Ok P) {nt:Nat} {e:Env} {o:Oper} {w:World} {K:Value→Option (World→Prop)→Prop} (h:rd P G e o w K) :
  ∃v s,K v s∧held s w∧∀a w',Ok M nt e a→held s w'→(execOp a.eval o).run P w'=.ok (.value v) w':=by
 unfold rd at h;split at h
 ·rename_i x ho;split at h
  ·rename_i v hv;exact⟨v,none,h,trivial,fun a w' ha _=>by simp [execOp,ho,ha.ev hv]⟩
  ·exact h.elim
 ·rename_i x ho;split at h
  ·rename_i v hv;exact⟨v,none,h,trivial,fun a w' ha _=>by simp [execOp,ho,ha.ev hv]⟩
  ·exact h.elim
 ·rename_i c x y ho;split at h
  ·rename_i t vx vy hc hx hy;cases t with
   | true=>exact⟨vx,none,h,trivial,fun a w' ha _=>by simp [execOp,ho,ha.ev hx,ha.ev hc,asBool]⟩
   | false=>exact⟨vy,none,h,trivial,fun a w' ha _=>by simp [execOp,ho,ha.ev hy,ha.ev hc,asBool]⟩
  ·exact h.elim
 ·rename_i t x ho;split at h
  ·rename_i b hx;obtain⟨ad,rfl,hn⟩:=NilP.out h;obtain⟨v,s,hK,hsw,hr⟩:=ld_ok hG hn;exact⟨v,some s,hK,hsw,fun a w' ha hw=>by simp [execOp,ho,ha.ev hx,Instr.loadAt,Instr.sureAddr,hr w' hw]⟩
  ·exact h.elim
 ·rename_i x ho;split at h
  ·rename_i u hx;obtain⟨v,hK,hr⟩:=H_k (P:=P) h;exact⟨v,none,hK,trivial,fun a w' ha _=>hr o x a.eval w' ho (ha.ev hx)⟩
  ·exact h.elim
 ·rename_i op t x y yt ho;split at h
  ·rename_i u v hx hy;rcases PR.use_ok h with h|⟨r,hK,hr⟩
   ·exact s_c h
   ·refine⟨r,none,hK,trivial,fun a w' ha _=>?_⟩;have:=bin_run hG (xo:=x) (yo:=y) hr (fun u hu=>by subst hu;simp [ev] at hy;exact hy.symm) w';simp only [execOp,ho,ha.ev hx,ha.ev hy];show (((do eqGuard op t x y u v;binOp op t u v) >>= fun r=>pure (Next.value r)):Sem Next).run P w'=_;rw [Sem.run_bind,this];rfl
  ·exact h.elim
 ·rename_i op t x ho;split at h
  ·rename_i u hx;rcases PR.use_ok h with h|⟨r,hK,hr⟩
   ·exact s_c h
   ·exact⟨r,none,hK,trivial,fun a w' ha _=>by simp [execOp,ho,ha.ev hx,un_run hr w']⟩
  ·exact h.elim
 ·rename_i t1 t2 x ho;split at h
  ·rename_i u hx;rcases PR.use_ok h with h|⟨r,hK,hr⟩
   ·exact s_c h
   ·exact⟨r,none,hK,trivial,fun a w' ha _=>by simp [execOp,ho,ha.ev hx,conv_run hG hr w']⟩
  ·exact h.elim
 ·rename_i t x f ho;split at h
  ·rename_i u hx;rcases fldA_ok hG h with h|⟨r,hK,hr⟩
   ·exact P_c h
   ·exact⟨r,none,hK,trivial,fun a w' ha _=>by simp [execOp,ho,ha.ev hx,hr w']⟩
  ·exact h.elim
 ·rename_i t x f ho;split at h
  ·rename_i fs cs hu hx;split at h
   ·rename_i g hg;obtain⟨v,hK,hr⟩:=prt_ok hG h;have hg':fs[f]?=some g:=by simpa using hg
    exact⟨v,none,hK,trivial,fun a w' ha _=>by simp [execOp,ho,ha.ev hx,Instr.field,N_ (hG.und _ _ hu),hg',asAgg,hr w']⟩
   ·exact h.elim
  ·exact h.elim
 ·rename_i t x i ho;split at h
  ·rename_i u v hx hi;obtain⟨r,hK,hr⟩:=idxA_ok hG h;exact⟨r,none,hK,trivial,fun a w' ha _=>by simp [execOp,ho,ha.ev hx,ha.ev hi,hr w']⟩
  ·exact h.elim
 ·rename_i t x i ho;split at h
  ·rename_i s k i' hu hx hi;obtain⟨h0,b,hb,hK⟩:=h;exact⟨_,none,hK,trivial,fun a w' ha _=>by simp [execOp,ho,ha.ev hx,ha.ev hi,Instr.index,asIntOf,N_ (hG.und _ _ hu),h0,hb]⟩
  ·rename_i n el cs k i' hu hx hi;split at h
   ·rename_i d z hd hz;split at h
    ·rename_i hag;obtain⟨h0,h1,v,hv,hK⟩:=h;refine⟨v,none,As.elim hK,trivial,fun a w' ha _=>?_⟩;simp [execOp,ho,ha.ev hx,ha.ev hi,Instr.index,asIntOf,N_ (hG.und _ _ hu),h0,h1,o_ (hG.siz _ _ hz),part,b_b (hG.und _ _ hd),hag,hv]
    ·exact s_c h
   ·exact s_c h
  ·exact s_c h
 ·rename_i t x lo hi ho;split at h
  ·rename_i u l hh hx hl hhi;rcases slc_ok hG h with h|⟨r,hK,hr⟩
   ·exact P_c h
   ·refine⟨r,none,hK,trivial,fun a w' ha _=>?_⟩;have e1:lo.map a.eval=l:=by
     cases lo with
     | none=>simp [evO] at hl;simp [hl]
     | some x=>simp only [evO] at hl;split at hl<;>simp at hl;rename_i v hv;subst hl;simp [ha.ev hv]
    have e2:hi.map a.eval=hh:=by
     cases hi with
     | none=>simp [evO] at hhi;simp [hhi]
     | some x=>simp only [evO] at hhi;split at hhi<;>simp at hhi;rename_i v hv;subst hhi;simp [ha.ev hv]
    simp [execOp,ho,ha.ev hx,e1,e2,hr w']
  ·exact h.elim
 ·rename_i x i ho;split at h
  ·rename_i vs hx;split at h
   ·rename_i v hv;have hv':vs[i]?=some v:=by simpa using hv
    exact⟨v,none,h,trivial,fun a w' ha _=>by simp [execOp,ho,ha.ev hx,Instr.extract,hv']⟩
   ·exact h.elim
  ·exact h.elim
 ·rename_i t x ho;split at h
  ·exact h.elim
  ·rename_i d v hne hu hx;refine⟨_,none,h,trivial,fun a w' ha _=>?_⟩;simp [execOp,ho,ha.ev hx,Instr.makeInterface,N_ (hG.und _ _ hu)]
  ·exact h.elim
 ·rename_i f x y ho;split at h
  ·rename_i xs ys hx hy;refine⟨_,none,h,trivial,fun a w' ha _=>?_⟩;have e1:x.map a.eval=xs.toArray:=by apply Array.ext';simp [←J_e ha hx]
   have e2:y.map a.eval=ys.toArray:=by apply Array.ext';simp [←J_e ha hy]
   simp [execOp,ho,Instr.makeFunc,e1,e2]
  ·exact h.elim
 ·rename_i t parts ho;split at h
  ·exact s_c h
  ·split at h
   ·rename_i ps hp;obtain⟨v,hK,hr⟩:=bld_ok hG h;refine⟨v,none,hK,trivial,fun a w' ha _=>?_⟩;have e1:parts.map (fun (i,x)=>(i,a.eval x))=ps.toArray:=by apply Array.ext';simp [←Y_i ha hp]
    simp only [execOp,ho,e1];simp [hr w']
   ·exact h.elim
 ·rename_i c ho;obtain⟨cal,args,tys⟩:=c;simp only at h;split at h
  ·rename_i x t ha1 ht1;have ea:args=#[x]:=by apply Array.ext';simpa using ha1
   have et:tys=#[t]:=by apply Array.ext';simpa using ht1
   subst ea et;split at h
   ·rename_i v hx;split at h
    ·rename_i n hn;exact⟨_,none,h,trivial,fun a w' ha _=>by simp [execOp,ho,resolve,invoke,builtin,ha.ev hx,lenV_ok hG hn w']⟩
    ·exact P_c h
   ·exact h.elim
  ·rename_i x t ha1 ht1;have ea:args=#[x]:=by apply Array.ext';simpa using ha1
   have et:tys=#[t]:=by apply Array.ext';simpa using ht1
   subst ea et;split at h
   ·rename_i v hx;split at h
    ·rename_i n hn;exact⟨_,none,h,trivial,fun a w' ha _=>by simp [execOp,ho,resolve,invoke,builtin,ha.ev hx,capV_ok hG hn w']⟩
    ·exact P_c h
   ·exact h.elim
  ·rename_i x y ha1;have ea:args=#[x,y]:=by apply Array.ext';simpa using ha1
   subst ea;split at h
   ·rename_i k n _ m hx hy;exact⟨_,none,h,trivial,fun a w' ha _=>by simp [execOp,ho,resolve,invoke,builtin,ha.ev hx,ha.ev hy,Builtin.min_,Builtin.min2]⟩
   ·exact P_c h
  ·rename_i x y ha1;have ea:args=#[x,y]:=by apply Array.ext';simpa using ha1
   subst ea;split at h
   ·rename_i k n _ m hx hy;exact⟨_,none,h,trivial,fun a w' ha _=>by simp [execOp,ho,resolve,invoke,builtin,ha.ev hx,ha.ev hy,Builtin.max_,Builtin.max2]⟩
   ·exact P_c h
  ·exact P_c h
 ·exact P_c h
end Go.Sh
namespace Go.Sh
variable {P:Program} {G:Tab} {M:List Deferred}
def St (w:World) (a:Addr) (v:Value) (K:World→Prop):Prop :=
 (∃u,w.cell? a=some u)∧w.frozen? a=false∧v.oneCell'=true∧K (w.setCell a v)
def stN (a:Addr):List Value→Nat→World→(World→Prop)→Prop
 | [],_,w,K=>K w
 | v :: r,i,w,K=>St w (at0 a i) v fun w'=>stN a r (i+1) w' K
def New (w:World) (cells:Array Value) (t:TypeId) (K:Addr→World→Prop):Prop :=
 K ⟨w.heap.size,0,none⟩ (w.alloc (.cells cells t))
def A_ (P:Program) (f:FuncId) (args:Array Value) (w:World) (K:Value→World→Prop):Prop :=
 Calls P f args w fun e w'=>∃v,e=.returned v∧K v w'
def RunV (P:Program) (s:Sem Value) (w:World) (K:Value→World→Prop):Prop:=∃v w',s.run P w=.ok v w'∧K v w'
def H_j (P:Program) (s:Sem Unit) (w:World) (K:World→Prop):Prop:=∃w',s.run P w=.ok () w'∧K w'
def NewZ (P:Program) (w:World) (t:TypeId) (K:Addr→World→Prop):Prop:=∃z,d_e P t=some z∧New w z.cells t K
def ExtV (P:Program) (g:FuncId) (args:Array Value) (w:World) (K:Value→World→Prop):Prop:=∃v w',(callFunc g args).run P w=.ok (.value v) w'∧K v w'
def FnV (P:Program) (v:Value) (args:List Value) (w:World) (K:Value→World→Prop):Prop :=
 ∃g first cap,v=.func (.func g) first cap∧G_c P g=true∧A_ P g (first++args.toArray++cap) w K
def InvV (P:Program) (v:Value) (m:String) (args:List Value) (w:World) (K:Value→World→Prop):Prop :=
 ∃g az,(callMethod v m args.toArray).run P w=.ok (.enter g az) w∧A_ P g az w K
def N_j (v:Value) (K:Nat→Prop):Prop:=∃r,v=.pointer (some ⟨r,0,none⟩)∧K r
def J_j (v:Value) (K0:Prop) (K1:Value→Value→Prop):Prop:=(v=.tuple #[.bool false]∧K0)∨∃k u,v=.tuple #[.bool true,k,u]∧K1 k u
def NextS (h1 h2:Sh) (v:Value) (K:Value→Prop):Prop :=
 J_j v (K (.tuple #[.bool false])) fun k u=>As h1 k fun k=>As h2 u fun u=>K (.tuple #[.bool true,k,u])
theorem NextS.elim {h1 h2:Sh} {v:Value} {K:Value→Prop} (h:NextS h1 h2 v K):K v:=by
 rcases h with ⟨rfl,h⟩|⟨k,u,rfl,h⟩
 ·exact h
 ·exact As.elim (K:=fun u=>K (.tuple #[.bool true,k,u])) (As.elim (K:=fun k=>As h2 u fun u=>K (.tuple #[.bool true,k,u])) h)
def I_j (v:Value) (K:Value→Value→Prop):Prop:=∃a b,v=.tuple #[a,b]∧K a b
def PairS (h1 h2:Sh) (v:Value) (K:Value→Prop):Prop:=I_j v fun a b=>As h1 a fun a=>As h2 b fun b=>K (.tuple #[a,b])
theorem PairS.elim {h1 h2:Sh} {v:Value} {K:Value→Prop} (h:PairS h1 h2 v K):K v:=by
 obtain⟨a,b,rfl,h⟩:=h;exact As.elim (K:=fun b=>K (.tuple #[a,b])) (As.elim (K:=fun a=>As h2 b fun b=>K (.tuple #[a,b])) h)
def extT:List (Nat×Nat×TypeId)→Nat→Nat→Option TypeId
 | [],_,_=>none
 | (a,b,t) :: r,d,i=>match Nat.beq a d,Nat.beq b i with|true,true=>some t|_,_=>extT r d i
def B_j (G:Tab) (o:Oper) (i:Nat):Sh:=match o.dst with
 | some d=>match extT G.ext d i with|some t=>shT G 12 t|none=>.raw
 | none=>.raw
def wo (P:Program) (G:Tab) (e:Env) (o:Oper) (w:World) (K:Value→World→Prop):Prop :=
 match o.op with
 | .store t a x=>match ev e a,ev e x,G.siz t with
  | some (.pointer b),some v,some z=>match Nat.beq v.cells.toList.length z with
   | true=>NilP b fun a=>stN a v.cells.toList 0 w fun w'=>K undef w'
   | false=>False
  | _,_,_=>False
 | .alloc t=>match G.zer t with
  | some z=>New w z.cells t fun a w'=>K (.pointer (some a)) w'
  | none=>NewZ P w t fun a w'=>K (.pointer (some a)) w'
 | .box t x=>match ev e x with
  | some v=>New w v.cells t fun a w'=>K (.pointer (some a)) w'
  | none=>False
 | .mapUpdate t m k x=>match ev e m,ev e k,ev e x with
  | some m,some k,some x=>H_j P (Instr.mapUpdate t m k x) w fun w'=>K undef w'
  | _,_,_=>False
 | .insert t m k x=>match ev e m,ev e k,ev e x with
  | some m,some k,some x=>H_j P (Instr.mapUpdate t m k x) w fun w'=>K undef w'
  | _,_,_=>False
 | .entryStore t m s x=>match ev e m,ev e s,ev e x with
  | some m,some k,some x=>H_j P (Instr.entryStore t m k x) w fun w'=>K undef w'
  | _,_,_=>False
 | .range t x=>match ev e x with
  | some v=>RunV P (Instr.range t v) w fun v w'=>N_j v fun r=>K (.pointer (some ⟨r,0,none⟩)) w'
  | none=>False
 | .next x false=>match ev e x with
  | some v=>RunV P (Instr.next v false o.type) w fun v w'=>NextS (B_j G o 1) (B_j G o 2) v fun v=>K v w'
  | none=>False
 | .entry x=>match ev e x with
  | some v=>RunV P (Instr.entry v) w fun v w'=>PairS (B_j G o 0) (B_j G o 1) v fun v=>K v w'
  | none=>False
 | .mapEntry t m k=>match ev e m,ev e k with
  | some m,some k=>RunV P (Instr.mapEntry t m k) w fun v w'=>PairS (B_j G o 0) (B_j G o 1) v fun v=>K v w'
  | _,_=>False
 | .call c=>match c.callee,evL e c.args.toList with
  | .value (.tmp t),some args=>match ev e (.tmp t) with
   | some v=>FnV P v args w fun v w'=>As (shT G 12 o.type) v fun v=>K v w'
   | none=>False
  | .invoke r m,some args=>match ev e r with
   | some v=>InvV P v m args w fun v w'=>As (shT G 12 o.type) v fun v=>K v w'
   | none=>False
  | .value f,some args=>match ev e f with
   | some (.func (.func g) first cap)=>match G.fn g with
    | true=>A_ P g (first++args.toArray++cap) w fun v w'=>As (shT G 12 o.type) v fun v=>K v w'
    | false=>ExtV P g (first++args.toArray++cap) w fun v w'=>As (shT G 12 o.type) v fun v=>K v w'
   | _=>False
  | _,_=>match insV e o with
   | some s=>RunV P s w fun v w'=>As (shT G 12 o.type) v fun v=>K v w'
   | none=>False
 | _=>match insV e o with
  | some s=>RunV P s w fun v w'=>As (shT G 12 o.type) v fun v=>K v w'
  | none=>False
theorem stN_ok {a:Addr}:∀{l:List Value} {i:Nat} {w:World} {K:World→Prop},stN a l i w K→∃w',K w'∧(storeCells a l i).run P w=.ok () w'
 | [],i,w,K,h=>⟨w,h,by simp [storeCells]⟩
 | v :: r,i,w,K,⟨⟨u,hu⟩,hf,h1,h⟩=>by
  obtain⟨w',hK,hr⟩:=stN_ok h;refine⟨w',hK,?_⟩;rw [n_a] at hu hf hr;simp only [storeCells,Sem.run_bind,run_store P _ _ _ _ h1,hu,hf,Result.andThen];simpa using hr
def Does (P:Program) (o:Oper) (a:Act) (w:World) (K:Value→World→Prop):Prop :=
 ∀(next:Act→World→Prop) (Q:Exit→Act→World→Prop),(∀v w',K v w'→next (a.put o.dst v) w')→o.wp P a w next Q
theorem Does.of_run {o:Oper} {a:Act} {w w':World} {v:Value} {K:Value→World→Prop} (hr:(execOp a.eval o).run P w=.ok (.value v) w') (h:K v w'):Does P o a w K :=
 fun next Q hn=>by unfold Oper.wp;rw [hr];exact hn v w' h
theorem Does.of_skip {o:Oper} {a:Act} {w w':World} {K:Value→World→Prop} (hr:(execOp a.eval o).run P w=.ok .skip w') (h:K undef w'):Does P o a w K :=
 fun next Q hn=>by unfold Oper.wp;rw [hr];exact hn undef w' h
theorem P_h {nt:Nat} {e:Env} {o:Oper} {w:World} {K:Value→World→Prop} {a:Act} (ha:Ok M nt e a) {s:Sem Value} (hs:insV e o=some s)
  (h:RunV P s w fun v w'=>As (shT G 12 o.type) v fun v=>K v w'):Does P o a w K:=by
 obtain⟨v,w',hr,hv⟩:=h;refine Does.of_run (w':=w') (v:=v) ?_ (As.elim hv);rw [h_h hs ha];simp [hr]
theorem C_f {nt:Nat} {e:Env} {o:Oper} {c:Call} {w:World} {K:Value→World→Prop} {a:Act} (ha:Ok M nt e a) (ho:o.op=.call c) {f:Operand} (hc:c.callee=.value f) {vs:List Value} (hvs:evL e c.args.toList=some vs)
  {g:Nat} {first cap:Array Value} (hf:ev e f=some (.func (.func g) first cap)) (hg:G_c P g=true) (h:A_ P g (first++vs.toArray++cap) w fun v w'=>As (shT G 12 o.type) v fun v=>K v w'):Does P o a w K:=by
 obtain⟨cal,args,tys⟩:=c;simp only at hc hvs;subst hc;unfold G_c at hg;split at hg
 ·rename_i fn hfn;split at hg
  ·rename_i cd hbody;split at hg
   ·cases hg
   ·rename_i hname;have e1:args.map a.eval=vs.toArray:=by apply Array.ext';simp [←J_e ha hvs]
    have hrun:(execOp a.eval o).run P w=.ok (.enter g (first++vs.toArray++cap)) w:=by
     have hn : (fn.name == "runtime.NumGoroutine") = false := hname
     simp only [execOp,ho,resolve,Deferred.ofValue,ha.ev hf,e1];simp only [invoke,callFunc,Sem.run_bind,Sem.run_pure,run_program,Result.andThen_ok,hfn,hn,hbody,Option.isNone];simp
    intro next Q hnx;unfold Oper.wp;rw [hrun];refine Calls.mono h fun e' w'' he=>?_;obtain⟨v,rfl,hv⟩:=he;exact hnx v w'' (As.elim hv)
  ·cases hg
 ·cases hg
theorem ext_does {nt:Nat} {e:Env} {o:Oper} {c:Call} {w:World} {K:Value→World→Prop} {a:Act} (ha:Ok M nt e a) (ho:o.op=.call c) {f:Operand} (hc:c.callee=.value f) {vs:List Value} (hvs:evL e c.args.toList=some vs)
  {g:Nat} {first cap:Array Value} (hf:ev e f=some (.func (.func g) first cap)) (h:ExtV P g (first++vs.toArray++cap) w fun v w'=>As (shT G 12 o.type) v fun v=>K v w'):Does P o a w K:=by
 obtain⟨cal,args,tys⟩:=c;simp only at hc hvs;subst hc;obtain⟨v,w',hr,hv⟩:=h;have e1:args.map a.eval=vs.toArray:=by apply Array.ext';simp [←J_e ha hvs]
 have hrun:(execOp a.eval o).run P w=.ok (.value v) w':=by
  simp only [execOp,ho,resolve,Deferred.ofValue,ha.ev hf,e1];simp only [invoke,Sem.run_bind,Sem.run_pure,Result.andThen_ok];exact hr
 exact Does.of_run hrun (As.elim hv)
theorem inv_does {nt:Nat} {e:Env} {o:Oper} {c:Call} {w:World} {K:Value→World→Prop} {a:Act} (ha:Ok M nt e a) (ho:o.op=.call c) {r:Operand} {m:String} (hc:c.callee=.invoke r m) {vs:List Value} (hvs:evL e c.args.toList=some vs)
  {v:Value} (hv:ev e r=some v) (h:InvV P v m vs w fun v w'=>As (shT G 12 o.type) v fun v=>K v w'):Does P o a w K:=by
 obtain⟨cal,args,tys⟩:=c;simp only at hc hvs;subst hc;obtain⟨g,az,hr,h⟩:=h;have e1:args.map a.eval=vs.toArray:=by apply Array.ext';simp [←J_e ha hvs]
 have hrun:(execOp a.eval o).run P w=.ok (.enter g az) w:=by
  simp only [execOp,ho,resolve,ha.ev hv,e1];simp only [invoke,Sem.run_bind,Sem.run_pure,Result.andThen_ok];have e2:(#[v]++vs.toArray)[0]?=some v:=by simp
  have e3:(#[v]++vs.toArray).extract 1 (#[v]++vs.toArray).size=vs.toArray:=by apply Array.ext';simp
  simp only [e2,e3];exact hr
 intro next Q hnx;unfold Oper.wp;rw [hrun];refine Calls.mono h fun e' w'' he=>?_;obtain⟨v,rfl,hv⟩:=he;exact hnx v w'' (As.elim hv)
theorem wo_ok (hG:G.Ok P) {nt:Nat} {e:Env} {o:Oper} {w:World} {K:Value→World→Prop} {a:Act} (ha:Ok M nt e a) (h:wo P G e o w K):Does P o a w K:=by
 unfold wo at h;split at h
 ·rename_i t x y ho;split at h
  ·rename_i b v z hx hy hz;split at h
   ·rename_i hb;obtain⟨ad,rfl,hn⟩:=NilP.out h;obtain⟨w',hK,hr⟩:=stN_ok (P:=P) h;refine Does.of_skip (w':=w') ?_ hK;have hb':v.cells.size=z:=by simpa using Nat.eq_of_beq_eq_true hb
    simp [execOp,ho,ha.ev hx,ha.ev hy,Instr.storeAt,Instr.sureAddr,storeVar,o_ (hG.siz _ _ hz),hb',hr]
   ·exact h.elim
  ·exact h.elim
 ·rename_i t ho;split at h
  ·rename_i z hz;refine Does.of_run ?_ h;simp [execOp,ho,Instr.alloc,M_b (hG.zer _ _ hz),newVar,newRow]
  ·obtain⟨z,hz,h⟩:=h;refine Does.of_run ?_ h;simp [execOp,ho,Instr.alloc,M_b hz,newVar,newRow]
 ·rename_i t x ho;split at h
  ·rename_i v hx;refine Does.of_run ?_ h;simp [execOp,ho,ha.ev hx,Instr.box,newVar,newRow]
  ·exact h.elim
 ·rename_i t m k x ho;split at h
  ·rename_i vm vk vx hm hk hx;obtain⟨w',hr,hK⟩:=h;exact Does.of_skip (by simp [execOp,ho,ha.ev hm,ha.ev hk,ha.ev hx,hr]) hK
  ·exact h.elim
 ·rename_i t m k x ho;split at h
  ·rename_i vm vk vx hm hk hx;obtain⟨w',hr,hK⟩:=h;exact Does.of_skip (by simp [execOp,ho,ha.ev hm,ha.ev hk,ha.ev hx,hr]) hK
  ·exact h.elim
 ·rename_i t m k x ho;split at h
  ·rename_i vm vk vx hm hk hx;obtain⟨w',hr,hK⟩:=h;exact Does.of_skip (by simp [execOp,ho,ha.ev hm,ha.ev hk,ha.ev hx,hr]) hK
  ·exact h.elim
 ·rename_i t x ho;split at h
  ·rename_i v hx;obtain⟨v',w',hr,r,rfl,hK⟩:=h;exact Does.of_run (by simp [execOp,ho,ha.ev hx,hr]) hK
  ·exact h.elim
 ·rename_i x ho;split at h
  ·rename_i v hx;obtain⟨v',w',hr,hn⟩:=h;exact Does.of_run (by simp [execOp,ho,ha.ev hx,hr]) hn.elim
  ·exact h.elim
 ·rename_i x ho;split at h
  ·rename_i v hx;obtain⟨v',w',hr,hn⟩:=h;exact Does.of_run (by simp [execOp,ho,ha.ev hx,hr]) hn.elim
  ·exact h.elim
 ·rename_i t m k ho;split at h
  ·rename_i vm vk hm hk;obtain⟨v',w',hr,hn⟩:=h;exact Does.of_run (by simp [execOp,ho,ha.ev hm,ha.ev hk,hr]) hn.elim
  ·exact h.elim
 ·rename_i c ho;split at h
  ·rename_i t vs hcal hvs;split at h
   ·rename_i v hv;obtain⟨g,first,cap,rfl,hg,h⟩:=h;exact C_f ha ho hcal hvs hv hg h
   ·exact h.elim
  ·rename_i r m vs hcal hvs;split at h
   ·rename_i v hv;exact inv_does ha ho hcal hvs hv h
   ·exact h.elim
  ·rename_i f vs _ hcal hvs;split at h
   ·rename_i g first cap hf
    split at h
    ·rename_i hg;exact C_f ha ho hcal hvs hf (hG.fn _ hg) h
    ·exact ext_does ha ho hcal hvs hf h
   ·exact h.elim
  ·split at h
   ·rename_i s hs;exact P_h ha hs h
   ·exact h.elim
 ·split at h
  ·rename_i s hs;exact P_h ha hs h
  ·exact h.elim
def op1 (P:Program) (G:Tab) (e:Env) (o:Oper) (w:World) (K:Value→World→Prop):Prop :=
 match isR G o.op with
 | true=>rd P G e o w fun v _=>K v w
 | false=>wo P G e o w K
theorem op1_ok (hG:G.Ok P) {nt:Nat} {e:Env} {o:Oper} {w:World} {K:Value→World→Prop} {a:Act} (ha:Ok M nt e a) (h:op1 P G e o w K):Does P o a w K:=by
 unfold op1 at h;split at h
 ·obtain⟨v,s,hK,hs,hr⟩:=rd_ok hG h;exact Does.of_run (hr a w ha hs) hK
 ·exact wo_ok hG ha h
def FW (ro:Option Nat):Fence:={ Fence.wide with round:=ro }
def DoesIn (P:Program) (ro:Option Nat) (o:Oper) (a:Act) (w:World) (K:Value→World→Prop):Prop :=
 ∀(n:Nat) (next:Act→World→Prop) (Q:Exit→Act→World→Prop),(∀v w',K v w'→next (a.put o.dst v) w')→o.wpIn (FW ro) n P a w next Q
theorem M_g {ro:Option Nat} {n:Nat} {f:FuncId} {args:Array Value} {w:World} {R:Ending→World→Prop} (h:Calls P f args w R):CallsIn (FW ro) n P f args w R :=
 let k:=callsIn_wide (n:=n).2 h
 ⟨trivial,fun cs _=>k.2 cs (room_wide _)⟩
theorem p_j {ro:Option Nat} {n:Nat} {row:String} {args:Array Value} {w:World} {R:Value→World→Prop} (h:Rows P row args w R):RowsIn (FW ro) n P row args w R :=
 fun c cs _=>let ⟨v,w',r,s⟩:=h c cs;⟨v,w',r,(stepsIn_wide (P:=P)).2 s⟩
theorem V_c {a:Act} {d:Option Nat} {v:Value}:(a.put d v).defers=a.defers:=by cases d<;>rfl
theorem Does.in_ {ro:Option Nat} {o:Oper} {a:Act} {w:World} {K:Value→World→Prop} (h:Does P o a w K):DoesIn P ro o a w K:=by
 intro n next Q hn;have h0:=h (fun a' w'=>∃v,a'=a.put o.dst v∧K v w') (fun _ _ _=>False) (fun v w' hv=>⟨v,rfl,hv⟩);have hk:∀v w',(∃u,a.put o.dst v=a.put o.dst u∧K u w')→next (a.put o.dst v) w':=by
  rintro v w' ⟨u,he,hu⟩;rw [he];exact hn u w' hu
 unfold Oper.wp at h0;unfold Oper.wpIn;refine⟨fun _ _=>trivial,?_⟩;have hdef:∀c,o.op≠.defer c:=by
  intro c hc;have hex:execOp a.eval o=(do let d ←resolve a.eval c o.type;pure (.defer d)):=by simp only [execOp,hc]
  rw [hex] at h0;simp only [Sem.run_bind] at h0;cases hr:(resolve a.eval c o.type).run P w with
  | ok d w' =>
   rw [hr] at h0;simp only [Result.andThen_ok,Sem.run_pure,Oper.upon] at h0;obtain⟨v,he,_⟩:=h0;have:=congrArg Act.defers he;rw [V_c,V_c] at this;have:=congrArg List.length this;simp at this
  | halt x w' =>
   rw [hr] at h0;simp only [Result.andThen] at h0;cases x<;>exact h0.elim
 have hsem:o.semAt ro a.eval=execOp a.eval o:=by
  unfold Oper.semAt;split
  ·rename_i l c hc;exact absurd hc (hdef c)
  ·rfl
 show Oper.uponIn (FW ro) n P o a next Q ((o.semAt ro a.eval).run P w);rw [hsem];unfold Oper.upon at h0;unfold Oper.uponIn;split at h0
 ·rename_i v w' hr;rw [hr];exact hk _ _ h0
 ·rename_i w' hr;rw [hr];exact hk _ _ h0
 ·rename_i d w' hr;obtain⟨v,he,_⟩:=h0;have:=congrArg Act.defers he;rw [V_c,V_c] at this;have:=congrArg List.length this;simp at this
 ·rename_i f args w' hr;rw [hr];refine⟨fun h=>(by cases h),M_g (Calls.mono h0 fun e w'' he=>?_)⟩;cases e with
  | returned v=>exact hk _ _ he
  | panicked c=>exact he.elim
  | outgrown=>obtain⟨_,_,hx⟩:=he;exact hx.elim
 ·rename_i row args w' hr;rw [hr];exact⟨fun h=>(by cases h),p_j (Rows.mono h0 fun v w'' he=>hk _ _ he)⟩
 ·exact h0.elim
 ·exact h0.elim
def YieldC (P:Program) (v:Value) (args:List Value) (w:World) (K:Value→World→Prop):Prop :=
 ∃l f tmps assign body,v=.func (.yield l) #[] #[]∧(Instr.yield l args.toArray).run P w=.ok (.round l f tmps assign body) w ∧
  RoundIn Fence.wide 0 P l f tmps assign body w fun e w'=>∃u,e=.returned u∧K u w'
def FnY (P:Program) (v:Value) (args:List Value) (w:World) (K:Value→World→Prop):Prop:=FnV P v args w K∨YieldC P v args w K
def op1Y (P:Program) (G:Tab) (e:Env) (o:Oper) (w:World) (K:Value→World→Prop):Prop :=
 match o.op with
 | .call c=>match c.callee,evL e c.args.toList with
  | .value (.tmp t),some args=>match ev e (.tmp t) with
   | some v=>FnY P v args w fun v w'=>As (shT G 12 o.type) v fun v=>K v w'
   | none=>False
  | _,_=>op1 P G e o w K
 | _=>op1 P G e o w K
theorem op1Y_ok (hG:G.Ok P) {ro:Option Nat} {nt:Nat} {e:Env} {o:Oper} {w:World} {K:Value→World→Prop} {a:Act} (ha:Ok M nt e a) (h:op1Y P G e o w K):DoesIn P ro o a w K:=by
 unfold op1Y at h;split at h
 ·rename_i c ho;split at h
  ·rename_i t vs hcal hvs;split at h
   ·rename_i v hv;rcases h with ⟨g,first,cap,rfl,hg,h⟩|⟨l,f,tmps,assign,body,rfl,hy,hR⟩
    ·exact (C_f ha ho hcal hvs hv hg h).in_
    ·intro n next Q hn;obtain⟨cal,args,tys⟩:=c;simp only at hcal hvs;subst hcal;unfold Oper.wpIn;refine⟨fun _ _=>trivial,?_⟩;have e1:args.map a.eval=vs.toArray:=by apply Array.ext';simp [←J_e ha hvs]
     have hsem:o.semAt ro a.eval=execOp a.eval o:=by
      unfold Oper.semAt;split
      ·rename_i l c hc;rw [ho] at hc;cases hc
      ·rfl
     have hrun:(execOp a.eval o).run P w=.ok (.round l f tmps assign body) w:=by
      simp only [execOp,ho,resolve,Deferred.ofValue,ha.ev hv,e1];simp only [invoke,Sem.run_bind,Sem.run_pure,Result.andThen_ok];simpa using hy
     show Oper.uponIn (FW ro) n P o a next Q ((o.semAt ro a.eval).run P w);rw [hsem,hrun];refine⟨fun h=>(by cases h),trivial,fun c cs _=>?_⟩;obtain⟨e',w',⟨u,rfl,hu⟩,hs⟩:=hR.2 c cs (room_wide _);exact⟨.returned u,w',hn u w' (As.elim hu),hs⟩
   ·exact h.elim
  ·exact (op1_ok hG ha h).in_
 ·exact (op1_ok hG ha h).in_
def BIf (b:Bool) (x y:Prop):Prop:=match b with|true=>x|false=>y
theorem BIf.elim {b:Bool} {x y:Prop} (h:BIf b x y):(b=true∧x)∨(b=false∧y):=by
 cases b with
 | true=>exact .inl ⟨rfl,h⟩
 | false=>exact .inr ⟨rfl,h⟩
def dstOf (ops:List Oper) (j:Nat):Option Nat:=match ops[j]? with|some o=>o.dst|none=>none
def opG (ops:List Oper) (e:Env) (o:Oper) (yes:Env→Prop) (no:Env→Prop):Prop :=
 match o.guard with
 | none=>yes e
 | some (j,want)=>match dstOf ops j with
  | none=>False
  | some d=>match get e d with
   | some (.bool b)=>match want with
    | true=>BIf b (yes ((d,.bool true) :: e)) (no ((d,.bool false) :: e))
    | false=>BIf b (no ((d,.bool true) :: e)) (yes ((d,.bool false) :: e))
   | some (.tuple _)=>no e
   | _=>False
def j_h (e:Env) (K:Env→Prop):Prop:=match e with | []=>K [] | x :: r=>K (x :: r)
theorem a_c (e:Env) (K:Env→Prop):j_h e K=K e:=by cases e<;>rfl
def opsT (P:Program) (G:Tab) (nt:Nat) (ops:List Oper):List Oper→Env→World→(Env→World→Prop)→Prop
 | [],e,w,N=>N e w
 | o :: r,e,w,N=>opG ops e o (fun e=>op1Y P G e o w fun v w'=>j_h (put nt e o.dst v) fun e=>opsT P G nt ops r e w' N) (fun e=>j_h (put nt e o.dst undef) fun e=>opsT P G nt ops r e w N)
def Post (M:List Deferred) (nt:Nat) (N:Env→World→Prop) (X:Nat→Env→World→Prop) (R:Env→World→Prop):Exit→Act→World→Prop
 | .normal,a,w=>∃e,Ok M nt e a∧N e w
 | .exit id,a,w=>∃e,Ok M nt e a∧X id e w
 | .ret,a,w=>∃e,Ok M nt e a∧R e w
 | _,_,_=>False
end Go.Sh
namespace Go.Sh
variable {P:Program} {G:Tab} {M:List Deferred}
abbrev Chk:=List (Nat×(World→Prop))
def L_c (e:Edge):Bool:=Region.binds .any e
def N_f (l:List Nat) (n:Nat):Bool:=match l with | []=>false|x :: r=>match Nat.beq x n with|true=>true|false=>N_f r n
def f_e (k:Nat):List Edge→Bool
 | []=>false
 | e :: r=>match L_c e with
  | true=>match Nat.beq e.on k with|true=>true|false=>f_e k r
  | false=>f_e k r
def X_d (ops:List Oper) (k:Nat):List Nat→Bool
 | []=>false
 | s :: r=>match ops[s]? with
  | some o=>match f_e k o.after.toList with|true=>true|false=>X_d ops k r
  | none=>X_d ops k r
def v_k (ops:List Oper):Nat→List Nat→List Nat→List Nat
 | 0,_,acc=>acc
 | k+1,S,acc=>match X_d ops k S with
  | true=>v_k ops k (k :: S) (k :: acc)
  | false=>v_k ops k S acc
def anc (ops:List Oper) (j:Nat):List Nat:=v_k ops j [j] []
def S_b (A:List Nat) (C:Chk) (w:World):Prop :=
 match C with
 | []=>True
 | (i,s) :: r=>match N_f A i with|true=>S_b A r w|false=>s w∧S_b A r w
def isW (G:Tab) (ops:List Oper) (j:Nat):Bool:=match ops[j]? with|some o=>!isR G o.op|none=>false
def anyC (P:Program) (G:Tab) (ops:Array Oper) (Q:Exit→Act→World→Prop):Nat→Array Bool→Chk→Act→World→Prop
 | 0,listed,_,a,w=>Region.ready .any ops listed=[]∧Q .normal a w
 | fuel+1,listed,C,a,w =>
  (Region.ready .any ops listed=[]→Q .normal a w) ∧
  ∀i∈Region.ready .any ops listed,wpOp P ops Q i (fun a' w'=>(if isW G ops.toList i=true then S_b (anc ops.toList i) C w' else w'=w) ∧
   anyC P G ops Q fuel (listed.setIfInBounds i true) C a' w') a w
section
variable {ops:Array Oper} {Q:Exit→Act→World→Prop}
theorem P_g:∀{fuel:Nat} {listed:Array Bool} {C:Chk} {a:Act} {w:World},anyC P G ops Q fuel listed C a w→wpAny P .any ops Q fuel listed a w
 | 0,_,_,_,_,h=>h
 | _+1,_,_,_,_,h=>⟨h.1,fun i hi=>wpOp_mono (fun _ _ h'=>P_g h'.2) (h.2 i hi)⟩
theorem z_d {A:List Nat} {i:Nat} {s:World→Prop} {C:Chk} {w:World} (h:S_b A ((i,s) :: C) w):S_b A C w:=by
 simp only [S_b] at h;split at h
 ·exact h
 ·exact h.2
theorem N_h {i:Nat} {s:World→Prop}:∀{fuel:Nat} {listed:Array Bool} {C:Chk} {a:Act} {w:World},anyC P G ops Q fuel listed ((i,s) :: C) a w→anyC P G ops Q fuel listed C a w
 | 0,_,_,_,_,h=>h
 | _+1,_,_,_,_,h=>⟨h.1,fun i hi=>wpOp_mono (fun a' w' h'=>by
   refine⟨?_,N_h h'.2⟩;have:=h'.1;split at this
   ·rename_i hw;rw [if_pos hw];exact z_d this
   ·rename_i hw;rw [if_neg hw];exact this) (h.2 i hi)⟩
def Closed (ops:List Oper) (listed:Array Bool):Prop :=
 ∀(k:Nat) (o:Oper),ops[k]?=some o→listed.getD k false=true→∀e∈o.after.toList,L_c e=true→listed.getD e.on false=true
theorem W_b {k:Nat}:∀{l:List Edge},f_e k l=true→∃e∈l,L_c e=true∧e.on=k
 | [],h=>by cases h
 | e :: r,h=>by
  simp only [f_e] at h;split at h
  ·rename_i hb;split at h
   ·rename_i hk;exact⟨e,by simp,hb,Nat.eq_of_beq_eq_true hk⟩
   ·obtain⟨e',h1,h2⟩:=W_b h;exact⟨e',by simp [h1],h2⟩
  ·obtain⟨e',h1,h2⟩:=W_b h;exact⟨e',by simp [h1],h2⟩
theorem M_c {ops:List Oper} {k:Nat}:∀{S:List Nat},X_d ops k S=true→∃s∈S,∃o,ops[s]?=some o∧∃e∈o.after.toList,L_c e=true∧e.on=k
 | [],h=>by cases h
 | s :: r,h=>by
  simp only [X_d] at h;split at h
  ·rename_i o ho;split at h
   ·rename_i hw;obtain⟨e,h1,h2⟩:=W_b hw;exact⟨s,by simp,o,ho,e,h1,h2⟩
   ·obtain⟨s',h1,h2⟩:=M_c h;exact⟨s',by simp [h1],h2⟩
  ·obtain⟨s',h1,h2⟩:=M_c h;exact⟨s',by simp [h1],h2⟩
theorem N_c {l:List Oper} {listed:Array Bool} (hc:Closed l listed) {j:Nat} (hj:∀o,l[j]?=some o→∀e∈o.after.toList,L_c e=true→listed.getD e.on false=true) :
  ∀(n:Nat) (S acc:List Nat),(∀s∈S,s=j∨listed.getD s false=true)→(∀x∈acc,listed.getD x false=true)→∀x∈v_k l n S acc,listed.getD x false=true
 | 0,_,_,_,ha,x,hx=>ha x hx
 | k+1,S,acc,hS,ha,x,hx=>by
  simp only [v_k] at hx;split at hx
  ·rename_i hw;obtain⟨s,hs,o,ho,e,he,hb,hk⟩:=M_c hw;have hkl:listed.getD k false=true:=by
    rcases hS s hs with rfl|h1
    ·rw [←hk];exact hj o ho e he hb
    ·rw [←hk];exact hc s o ho h1 e he hb
   refine N_c hc hj k (k :: S) (k :: acc) (fun s' hs'=>?_) (fun x' hx'=>?_) x hx
   ·rcases List.mem_cons.1 hs' with rfl|hs'
    ·exact .inr hkl
    ·exact hS s' hs'
   ·rcases List.mem_cons.1 hx' with rfl|hx'
    ·exact hkl
    ·exact ha x' hx'
  ·exact N_c hc hj k S acc hS ha x hx
theorem F_j {l:List Oper} {listed:Array Bool} (hc:Closed l listed) (j:Nat) (o:Oper) (ho:l[j]?=some o)
  (h:∀e∈o.after.toList,L_c e=true→listed.getD e.on false=true):∀x∈anc l j,listed.getD x false=true :=
 N_c hc (fun o' ho'=>by rw [ho] at ho';injection ho' with e;subst e;exact h) j [j] [] (fun s hs=>by simp at hs;exact .inl hs) (fun x hx=>by cases hx)
theorem memN_iff {l:List Nat} {n:Nat}:N_f l n=true↔n∈l:=by
 induction l with
 | nil=>simp [N_f]
 | cons x r ih =>
  simp only [N_f,List.mem_cons];cases h:Nat.beq x n with
  | true=>have:x=n:=Nat.eq_of_beq_eq_true h;simp [this]
  | false=>have:x≠n:=Nat.ne_of_beq_eq_false h;simp [ih,Ne.symm this]
theorem Closed.set {listed:Array Bool} (hc:Closed ops.toList listed) {j:Nat} (hj:j∈Region.ready .any ops listed):Closed ops.toList (listed.setIfInBounds j true):=by
 intro k o ho hk e he hb;obtain⟨hun,oj,hoj,hall⟩:=mem_ready.1 hj;by_cases hkj:k=j
 ·subst hkj;have:oj=o:=by
   have h1:ops[k]?=some o:=by simpa using ho
   rw [h1] at hoj;injection hoj with h;exact h.symm
  subst this;exact getD_set_true (hall e (by simpa using he) hb)
 ·rw [getD_set_ne false (Ne.symm hkj)] at hk;exact getD_set_true (hc k o ho hk e he hb)
theorem n_f {i:Nat} {oi:Oper} {v:Value} {s:World→Prop} (hi:ops[i]?=some oi) (hsel:∀(j:Nat) (o:Oper) cs b,ops[j]?=some o→o.op≠.select cs b)
  (hQ:∀c a w,Q (.panic c) (a.put oi.dst v) w→Q (.panic c) a w) (hR:isW G ops.toList i=false) :
  ∀(fuel:Nat) (listed:Array Bool) (C:Chk) (a:Act) (w:World),listed.size=ops.size→Closed ops.toList listed →
   (∀j oj,ops[j]?=some oj→j≠i→listed.getD j true=false→(∀e∈oj.after,Region.binds .any e=true→e.on≠i)→oi.apart ops oj=true) →
   i∈Region.ready .any ops listed→YieldsIf P ops s oi v a→s w →
   anyC P G ops Q fuel (listed.setIfInBounds i true) ((i,s) :: C) (a.put oi.dst v) w→anyC P G ops Q (fuel+1) listed C a w:=by
 intro fuel
 induction fuel with
 | zero =>
  intro listed C a w _ _ _ hr hy hS H;refine⟨fun h=>(by rw [h] at hr;cases hr),fun j hj=>?_⟩;by_cases hji:j=i
  ·subst hji;exact hy.wpOp hi hS ⟨by rw [hR];simp,H⟩
  ·have:=ready_mono hj hji;rw [H.1] at this;cases this
 | succ fuel ih =>
  intro listed C a w hsz hcl hfree hr hy hS H;refine⟨fun h=>(by rw [h] at hr;cases hr),fun j hj=>?_⟩;by_cases hji:j=i
  ·subst hji;exact hy.wpOp hi hS ⟨by rw [hR];simp,N_h H⟩
  ·have h1:=H.2 j (ready_mono hj hji);obtain⟨hjun,oj,hoj,hall⟩:=mem_ready.1 hj;have hnot:∀e∈oj.after,Region.binds .any e=true→e.on≠i:=fun e he hb heq=>by
    have h1:=hall e he hb;have h0:=(mem_ready.1 hr).1;rw [heq] at h1;rcases Nat.lt_or_ge i listed.size with h' | h'
    ·simp [h'] at h0 h1;rw [h0] at h1;cases h1
    ·simp [Array.getElem?_eq_none h'] at h1
   have hnanc:N_f (anc ops.toList j) i=false:=by
    cases hm:N_f (anc ops.toList j) i with
    | false=>rfl
    | true =>
     have hx:=F_j hcl j oj (by simpa using hoj) (fun e he hb=>hall e (by simpa using he) hb) i (memN_iff.1 hm);have h0:=(mem_ready.1 hr).1;rcases Nat.lt_or_ge i listed.size with h' | h'
     ·simp [h'] at h0 hx;rw [h0] at hx;cases hx
     ·simp [Array.getElem?_eq_none h'] at hx
   have h2:=wpOp_putIf hoj (hfree j oj hoj hji hjun hnot) (fun cs b=>hsel i oi cs b hi) (fun cs b=>hsel j oj cs b hoj) hQ hy h1;have hfree':∀k ok,ops[k]?=some ok→k≠i→(listed.setIfInBounds j true).getD k true=false →
     (∀e∈ok.after,Region.binds .any e=true→e.on≠i)→oi.apart ops ok=true:=fun k ok hk hki hun hno=>by
    refine hfree k ok hk hki ?_ hno;by_cases hjk:j=k
    ·subst hjk;exact hjun
    ·rw [getD_set_ne true hjk] at hun;exact hun
   refine wpOp_mono (fun a' w' h3=>?_) h2;obtain⟨hy',hchk,hrest⟩:=h3;have hS':s w':=by
    split at hchk
    ·simp only [S_b,hnanc] at hchk;exact hchk.1
    ·rw [hchk];exact hS
   refine⟨?_,ih (listed.setIfInBounds j true) C a' w' (by simpa using hsz) (hcl.set hj) hfree' (ready_mono hr (Ne.symm hji)) hy' hS' ?_⟩
   ·split at hchk
    ·rename_i hw;rw [if_pos hw];exact z_d hchk
    ·rename_i hw;rw [if_neg hw];exact hchk
   ·rw [Array.setIfInBounds_comm _ _ hji];exact hrest
end
def chkK (A:List Nat) (C:Chk) (w:World) (K:Prop):Prop :=
 match C with
 | []=>K
 | (i,s) :: r=>match N_f A i with|true=>chkK A r w K|false=>s w∧chkK A r w K
theorem a_e:∀{A:List Nat} {C:Chk} {w:World} {K:Prop},chkK A C w K→S_b A C w∧K
 | A,[],w,K,h=>⟨trivial,h⟩
 | A,(i,s) :: r,w,K,h=>by
  simp only [chkK] at h;simp only [S_b];split at h
  ·exact a_e h
  ·have:=a_e h.2;exact⟨⟨h.1,this.1⟩,this.2⟩
def allOf:List Nat→(Nat→Prop)→Prop
 | [],_=>True
 | [i],p=>p i
 | i :: r,p=>p i∧allOf r p
def addChk (i:Nat) (s:Option (World→Prop)) (C:Chk):Chk:=match s with|none=>C|some s=>(i,s) :: C
def okE (done:List Nat):List Edge→Bool
 | []=>true
 | e :: r=>match L_c e with
  | true=>match N_f done e.on with|true=>okE done r|false=>false
  | false=>okE done r
abbrev S_e:=List (Nat×Oper)
def f_g (G:Tab) (done:List Nat):S_e→Option ((Nat×Oper)×S_e)
 | []=>none
 | (i,o) :: r=>match isR G o.op with
  | true=>match okE done o.after.toList with
   | true=>some ((i,o),r)
   | false=>match f_g G done r with|some (x,r')=>some (x,(i,o) :: r')|none=>none
  | false=>match f_g G done r with|some (x,r')=>some (x,(i,o) :: r')|none=>none
def k_e (done:List Nat):S_e→List (Nat×Oper)
 | []=>[]
 | (i,o) :: r=>match okE done o.after.toList with|true=>(i,o) :: k_e done r|false=>k_e done r
def E_h (i:Nat):S_e→S_e
 | []=>[]
 | (j,o) :: r=>match Nat.beq i j with|true=>r|false=>(j,o) :: E_h i r
def w_k:List (Nat×Oper)→(Nat×Oper→Prop)→Prop
 | [],_=>True
 | [i],p=>p i
 | i :: r,p=>p i∧w_k r p
theorem o_f:∀{l:List (Nat×Oper)} {p:Nat×Oper→Prop},w_k l p→∀i∈l,p i
 | [],_,_,i,hi=>by cases hi
 | [j],_,h,i,hi=>by simp at hi;subst hi;exact h
 | j :: k :: r,p,h,i,hi=>by
  rcases List.mem_cons.1 hi with rfl|hi
  ·exact h.1
  ·exact o_f (l:=k :: r) h.2 i hi
def O_e (ops:Array Oper) (i:Nat) (x:Oper):S_e→Bool
 | []=>true
 | (j,y) :: r=>match Nat.beq i j with
  | true=>O_e ops i x r
  | false=>match f_e i y.after.toList with
   | true=>O_e ops i x r
   | false=>match f_e j x.after.toList with
    | true=>O_e ops i x r
    | false=>match x.apart ops y with|true=>O_e ops i x r|false=>false
def d_c (ops:Array Oper) (all:S_e):S_e→Bool
 | []=>true
 | (i,x) :: r=>match O_e ops i x all with|true=>d_c ops all r|false=>false
def num:Nat→List Oper→S_e
 | _,[]=>[]
 | n,o :: r=>(n,o) :: num (n+1) r
def opsD (P:Program) (G:Tab) (nt:Nat) (ops:List Oper):Nat→S_e→List Nat→Chk→Env→World→(Env→World→Prop)→Prop
 | 0,todo,_,_,e,w,N=>match todo with | []=>N e w|_ :: _=>False
 | fuel+1,todo,done,C,e,w,N =>
  match f_g G done todo with
  | some ((i,o),r)=>opG ops e o
    (fun e=>rd P G e o w fun v s=>j_h (put nt e o.dst v) fun e=>opsD P G nt ops fuel r (i :: done) (addChk i s C) e w N)
    (fun e=>j_h (put nt e o.dst undef) fun e=>opsD P G nt ops fuel r (i :: done) C e w N)
  | none=>match todo with
   | []=>N e w
   | _ :: _=>match k_e done todo with
    | []=>False
    | x :: xs=>w_k (x :: xs) fun (j,o)=>opG ops e o
     (fun e=>wo P G e o w fun v w'=>chkK (anc ops j) C w' (j_h (put nt e o.dst v) fun e=>opsD P G nt ops fuel (E_h j todo) (j :: done) C e w' N))
     (fun e=>chkK (anc ops j) C w (j_h (put nt e o.dst undef) fun e=>opsD P G nt ops fuel (E_h j todo) (j :: done) C e w N))
theorem J_f {ops:Array Oper} {Q:Exit→Act→World→Prop} {i:Nat} {s:Option (World→Prop)} :
  ∀{fuel:Nat} {listed:Array Bool} {C:Chk} {a:Act} {w:World},anyC P G ops Q fuel listed (addChk i s C) a w→anyC P G ops Q fuel listed ((i,held s) :: C) a w:=by
 cases s with
 | some s=>exact fun h=>h
 | none =>
  intro fuel
  induction fuel with
  | zero=>exact fun h=>h
  | succ fuel ih =>
   intro listed C a w h;refine⟨h.1,fun j hj=>wpOp_mono (fun a' w' h'=>⟨?_,ih h'.2⟩) (h.2 j hj)⟩;have:=h'.1;split at this
   ·rename_i hw;rw [if_pos hw];simp only [S_b];split
    ·exact this
    ·exact⟨trivial,this⟩
   ·rename_i hw;rw [if_neg hw];exact this
structure Lists (ops:Array Oper) (todo:S_e) (done:List Nat) (listed:Array Bool):Prop where
 size:listed.size=ops.size
 isOp:∀x∈todo,ops[x.1]?=some x.2
 open_:∀x∈todo,listed.getD x.1 true=false
 all:∀i o,ops[i]?=some o→listed.getD i true=false→(i,o)∈todo
 done_:∀i,N_f done i=true→listed.getD i false=true
 nodup:(todo.map (·.1)).Nodup
theorem W_e {done:List Nat} {listed:Array Bool} (hd:∀i,N_f done i=true→listed.getD i false=true):∀{l:List Edge},okE done l=true→∀e∈l,L_c e=true→listed.getD e.on false=true
 | [],_,e,he,_=>by cases he
 | x :: r,h,e,he,hb=>by
  simp only [okE] at h;split at h
  ·split at h
   ·rename_i hm;rcases List.mem_cons.1 he with rfl|he
    ·exact hd _ hm
    ·exact W_e hd h e he hb
   ·cases h
  ·rename_i hx;rcases List.mem_cons.1 he with rfl|he
   ·rw [hx] at hb;cases hb
   ·exact W_e hd h e he hb
def Took (G:Tab) (done:List Nat) (todo:S_e) (x:Nat×Oper) (r:S_e):Prop :=
  x∈todo∧isR G x.2.op=true∧okE done x.2.after.toList=true∧(∀y,y∈r→y∈todo)∧(∀y∈todo,y.1≠x.1→y∈r)∧((todo.map (·.1)).Nodup→(r.map (·.1)).Nodup∧∀y∈r,y.1≠x.1)
theorem Y_f {done:List Nat}:∀{todo:S_e} {x:Nat×Oper} {r:S_e},f_g G done todo=some (x,r)→Took G done todo x r
 | [],x,r,h=>by cases h
 | (i,o) :: t,x,r,h=>by
  have rec_:∀r',f_g G done t=some (x,r')→r=(i,o) :: r'→Took G done ((i,o) :: t) x r:=fun r' h1 h2=>by
   obtain⟨a1,a2,a3,a4,a5,a6⟩:=Y_f h1;subst h2;refine⟨?_,a2,a3,?_,?_,?_⟩
   ·exact List.mem_cons_of_mem _ a1
   ·intro y hy;rcases List.mem_cons.1 hy with rfl|hy
    ·simp
    ·exact List.mem_cons_of_mem _ (a4 y hy)
   ·intro y hy hne;rcases List.mem_cons.1 hy with rfl|hy
    ·simp
    ·exact List.mem_cons_of_mem _ (a5 y hy hne)
   ·intro hn;simp only [List.map_cons,List.nodup_cons] at hn ⊢;obtain⟨b1,b2⟩:=a6 hn.2;refine⟨⟨fun hm=>hn.1 ?_,b1⟩,fun y hy=>?_⟩
    ·obtain⟨z,hz,he⟩:=List.mem_map.1 hm;exact List.mem_map.2 ⟨z,a4 z hz,he⟩
    ·rcases List.mem_cons.1 hy with rfl|hy
     ·intro he;exact hn.1 (List.mem_map.2 ⟨x,a1,he.symm⟩)
     ·exact b2 y hy
  simp only [f_g] at h;split at h
  ·rename_i hr;split at h
   ·rename_i hok;injection h with h;injection h with h1 h2;subst h1 h2
    refine⟨by simp,hr,hok,fun y hy=>by simp [hy],?_,?_⟩
    ·intro y hy hne;rcases List.mem_cons.1 hy with rfl|hy
     ·exact absurd rfl hne
     ·exact hy
    ·intro hn;simp only [List.map_cons,List.nodup_cons] at hn;exact⟨hn.2,fun y hy he=>hn.1 (List.mem_map.2 ⟨y,hy,he⟩)⟩
   ·split at h
    ·rename_i x' r' h1;injection h with h;injection h with h2 h3;subst h2;exact rec_ r' h1 h3.symm
    ·cases h
  ·split at h
   ·rename_i x' r' h1;injection h with h;injection h with h2 h3;subst h2;exact rec_ r' h1 h3.symm
   ·cases h
theorem c_d {done:List Nat}:∀{todo:S_e},f_g G done todo=none→∀x∈todo,okE done x.2.after.toList=true→isR G x.2.op=false
 | [],_,x,hx,_=>by cases hx
 | (i,o) :: t,h,x,hx,hok=>by
  simp only [f_g] at h;split at h
  ·rename_i hr;split at h
   ·cases h
   ·rename_i hno;split at h
    ·cases h
    ·rename_i h1;rcases List.mem_cons.1 hx with rfl|hx
     ·rw [hok] at hno;cases hno
     ·exact c_d h1 x hx hok
  ·rename_i hr;split at h
   ·cases h
   ·rename_i h1;rcases List.mem_cons.1 hx with rfl|hx
    ·exact hr
    ·exact c_d h1 x hx hok
theorem readyW_mem {done:List Nat}:∀{todo:S_e} {x:Nat×Oper},x∈k_e done todo↔x∈todo∧okE done x.2.after.toList=true
 | [],x=>by simp [k_e]
 | (i,o) :: t,x=>by
  simp only [k_e];split
  ·rename_i h;simp only [List.mem_cons,readyW_mem];constructor
   ·rintro (rfl|⟨h1,h2⟩)
    ·exact⟨.inl rfl,h⟩
    ·exact⟨.inr h1,h2⟩
   ·rintro ⟨rfl|h1,h2⟩
    ·exact .inl rfl
    ·exact .inr ⟨h1,h2⟩
  ·rename_i h;simp only [List.mem_cons,readyW_mem];constructor
   ·rintro ⟨h1,h2⟩;exact⟨.inr h1,h2⟩
   ·rintro ⟨rfl|h1,h2⟩
    ·simp only at h2;rw [h2] at h;cases h
    ·exact⟨h1,h2⟩
theorem D_h {i:Nat}:∀{todo:S_e},(todo.map (·.1)).Nodup→(∀y,y∈E_h i todo↔y∈todo∧y.1≠i)∧((E_h i todo).map (·.1)).Nodup
 | [],_=>by simp [E_h]
 | (j,o) :: t,hn=>by
  simp only [List.map_cons,List.nodup_cons] at hn;obtain⟨h1,h2⟩:=D_h (i:=i) hn.2;simp only [E_h];split
  ·rename_i hk;have:i=j:=Nat.eq_of_beq_eq_true hk;subst this;refine⟨fun y=>⟨fun hy=>⟨by simp [hy],fun he=>hn.1 (List.mem_map.2 ⟨y,hy,he⟩)⟩,fun ⟨hy,hne⟩=>?_⟩,hn.2⟩;rcases List.mem_cons.1 hy with rfl|hy
   ·exact absurd rfl hne
   ·exact hy
  ·rename_i hk;have hne:i≠j:=Nat.ne_of_beq_eq_false hk;refine⟨fun y=>?_,?_⟩
   ·simp only [List.mem_cons,h1];constructor
    ·rintro (rfl|⟨a,b⟩)
     ·exact⟨.inl rfl,Ne.symm hne⟩
     ·exact⟨.inr a,b⟩
    ·rintro ⟨rfl|a,b⟩
     ·exact .inl rfl
     ·exact .inr ⟨a,b⟩
   ·simp only [List.map_cons,List.nodup_cons];exact⟨fun hm=>by obtain⟨z,hz,he⟩:=List.mem_map.1 hm;exact hn.1 (List.mem_map.2 ⟨z,((h1 z).1 hz).1,he⟩),h2⟩
section
variable {ops:Array Oper}
theorem Lists.step {todo r:S_e} {done:List Nat} {listed:Array Bool} {i:Nat} {o:Oper} (h:Lists ops todo done listed) (hi:(i,o)∈todo)
  (h1:∀y,y∈r→y∈todo∧y.1≠i) (h2:∀y∈todo,y.1≠i→y∈r) (h3:(r.map (·.1)).Nodup):Lists ops r (i :: done) (listed.setIfInBounds i true):=by
 have hio:=h.isOp _ hi;have hlt:i<listed.size:=by rw [h.size];exact (Array.getElem?_eq_some_iff.1 hio).1
 refine⟨by simpa using h.size,fun x hx=>h.isOp x (h1 x hx).1,fun x hx=>?_,fun j oj hj hun=>?_,fun j hj=>?_,h3⟩
 ·rw [getD_set_ne true (Ne.symm (h1 x hx).2)];exact h.open_ x (h1 x hx).1
 ·by_cases hji:j=i
  ·subst hji;rw [Array.getD_eq_getD_getElem?] at hun;simp [hlt] at hun
  ·rw [getD_set_ne true (Ne.symm hji)] at hun;exact h2 _ (h.all j oj hj hun) hji
 ·simp only [N_f] at hj;split at hj
  ·rename_i hk;have:i=j:=Nat.eq_of_beq_eq_true hk;subst this;rw [Array.getD_eq_getD_getElem?];simp [hlt]
  ·exact getD_set_true (h.done_ j hj)
theorem Lists.ready {todo:S_e} {done:List Nat} {listed:Array Bool} {i:Nat} {o:Oper} (h:Lists ops todo done listed) (hi:(i,o)∈todo) (hok:okE done o.after.toList=true) :
  i∈Region.ready .any ops listed :=
 mem_ready.2 ⟨h.open_ _ hi,o,h.isOp _ hi,fun e he hb=>W_e h.done_ hok e (by simpa using he) hb⟩
theorem Lists.ready_ok {todo:S_e} {done:List Nat} {listed:Array Bool} {i:Nat} (h:Lists ops todo done listed) (hdl:∀k,listed.getD k false=true→N_f done k=true) (hi:i∈Region.ready .any ops listed) :
  ∃o,(i,o)∈todo∧okE done o.after.toList=true:=by
 obtain⟨hun,o,ho,hall⟩:=mem_ready.1 hi;refine⟨o,h.all i o ho hun,?_⟩;have go:∀(l:List Edge),(∀e∈l,L_c e=true→listed.getD e.on false=true)→okE done l=true:=by
  intro l
  induction l with
  | nil=>intro _;rfl
  | cons e r ih =>
   intro hl;simp only [okE];split
   ·rename_i hb;have:=hdl _ (hl e (by simp) hb);rw [this];exact ih fun e' he'=>hl e' (by simp [he'])
   ·exact ih fun e' he'=>hl e' (by simp [he'])
 exact go _ fun e he hb=>hall e (by simpa using he) hb
end
theorem K_b {ops:Array Oper} {i:Nat} {x:Oper}:∀{l:S_e},O_e ops i x l=true→∀y∈l,y.1≠i→(¬∃e∈y.2.after.toList,L_c e=true∧e.on=i)→(¬∃e∈x.after.toList,L_c e=true∧e.on=y.1)→x.apart ops y.2=true
 | [],_,y,hy,_,_,_=>by cases hy
 | (j,z) :: r,h,y,hy,hne,h1,h2=>by
  simp only [O_e] at h;split at h
  ·rename_i hk;have:i=j:=Nat.eq_of_beq_eq_true hk;subst this;rcases List.mem_cons.1 hy with rfl|hy
   ·exact absurd rfl hne
   ·exact K_b h y hy hne h1 h2
  ·split at h
   ·rename_i hw;rcases List.mem_cons.1 hy with rfl|hy
    ·exact absurd (W_b hw) h1
    ·exact K_b h y hy hne h1 h2
   ·split at h
    ·rename_i hw;rcases List.mem_cons.1 hy with rfl|hy
     ·exact absurd (W_b hw) h2
     ·exact K_b h y hy hne h1 h2
    ·split at h
     ·rename_i ha;rcases List.mem_cons.1 hy with rfl|hy
      ·exact ha
      ·exact K_b h y hy hne h1 h2
     ·cases h
theorem Y_d {ops:Array Oper} {all:S_e}:∀{l:S_e},d_c ops all l=true→∀x∈l,O_e ops x.1 x.2 all=true
 | [],_,x,hx=>by cases hx
 | (i,z) :: r,h,x,hx=>by
  simp only [d_c] at h;split at h
  ·rename_i ha;rcases List.mem_cons.1 hx with rfl|hx
   ·exact ha
   ·exact Y_d h x hx
  ·cases h
theorem num_mem:∀{l:List Oper} {n:Nat} {x:Nat×Oper},x∈num n l↔n≤x.1∧l[x.1-n]?=some x.2
 | [],n,x=>by simp [num]
 | o :: r,n,x=>by
  obtain⟨i,y⟩:=x;simp only [num,List.mem_cons,num_mem,Prod.mk.injEq];constructor
  ·rintro (⟨rfl,rfl⟩|⟨h1,h2⟩)
   ·simp
   ·refine⟨by omega,?_⟩;have:i-n=(i-(n+1))+1:=by omega
    rw [this];simpa using h2
  ·rintro ⟨h1,h2⟩;by_cases h:i=n
   ·subst h;left;simp at h2;exact⟨rfl,h2.symm⟩
   ·right
    refine⟨by omega,?_⟩;have:i-n=(i-(n+1))+1:=by omega
    rw [this] at h2;simpa using h2
theorem s_g:∀{l:List Oper} {n:Nat},((num n l).map (·.1)).Nodup
 | [],n=>by simp [num]
 | o :: r,n=>by
  simp only [num,List.map_cons,List.nodup_cons];refine⟨fun h=>?_,s_g⟩;obtain⟨x,hx,he⟩:=List.mem_map.1 h;have:=(num_mem.1 hx).1;omega
theorem Lists.start (ops:Array Oper):Lists ops (num 0 ops.toList) [] (Array.replicate ops.size false):=by
 refine⟨by simp,fun x hx=>?_,fun x hx=>?_,fun i o ho _=>?_,fun i hi=>(by cases hi),s_g⟩
 ·have:=(num_mem.1 hx).2;simpa using this
 ·have h:=(num_mem.1 hx).2;have hlt:x.1<ops.size:=by
   have:ops[x.1]?=some x.2:=by simpa using h
   exact (Array.getElem?_eq_some_iff.1 this).1
  rw [Array.getD_eq_getD_getElem?];simp [hlt]
 ·exact num_mem.2 ⟨Nat.zero_le _,by simpa using ho⟩
theorem Closed.start (ops:Array Oper):Closed ops.toList (Array.replicate ops.size false):=by
 intro k o _ hk;have:(Array.replicate ops.size false).getD k false=false:=by
  simp only [Array.getD_eq_getD_getElem?,Array.getElem?_replicate];split<;>rfl
 rw [this] at hk;cases hk
end Go.Sh
namespace Go.Sh
variable {P:Program} {G:Tab} {M:List Deferred}
def K_g:List Oper→List (Nat×TypeId)→List (Nat×TypeId)
 | [],acc=>acc
 | o :: r,acc=>match o.dst with
  | none=>K_g r acc
  | some d=>K_g r ((d,o.type) :: acc)
def Y_a:Code→List (Nat×TypeId)→List (Nat×TypeId)
 | .region _ ops _,acc=>K_g ops.toList acc
 | .seq a b,acc=>Y_a a (Y_a b acc)
 | .cond _ a b,acc=>Y_a a (Y_a b acc)
 | .block _ c,acc=>Y_a c acc
 | .loop c,acc=>Y_a c acc
 | .scope c,acc=>Y_a c acc
 | _,acc=>acc
def B_e:List (Nat×TypeId)→Nat→Option TypeId
 | [],_=>none
 | (d,t) :: r,n=>match Nat.beq d n with|true=>some t|false=>B_e r n
def M_a (D:List (Nat×TypeId)):Env→Env
 | []=>[]
 | (k,v) :: r=>match B_e D k with|some _=>M_a D r|none=>(k,v) :: M_a D r
def C_a (D:List (Nat×TypeId)):Env→List Nat→List (Nat×TypeId)
 | [],_=>[]
 | (k,_) :: r,seen=>match N_f seen k with
  | true=>C_a D r seen
  | false=>match B_e D k with
   | some t=>(k,t) :: C_a D r (k :: seen)
   | none=>C_a D r (k :: seen)
def h_:List (Nat×TypeId)→List Value→Env→Env
 | (k,_) :: r,v :: vs,e=>(k,v) :: h_ r vs e
 | _,_,e=>e
def T_b (e:Env):List (Nat×TypeId)→Option (List Value)
 | []=>some []
 | (k,_) :: r=>match get e k,T_b e r with
  | some v,some l=>some (v :: l)
  | _,_=>none
def pk:List Oper→Nat
 | []=>0
 | [o]=>match o.op with
  | .pick _ _ (.const (.bool false))=>1
  | .pick _ (.const (.bool true)) _=>2
  | _=>0
 | _ :: r=>pk r
def S_k:Code→Nat
 | .region _ ops _=>pk ops.toList
 | .seq _ b=>S_k b
 | _=>0
def wgt (k x y:Nat):Nat:=match k with|1=>x+2*y|2=>2*x+y|_=>x+y
def x_e (id:Nat):Code→Nat
 | .seq a (.cond _ x y)=>x_e id a+wgt (S_k a) (x_e id x) (x_e id y)
 | .seq a b=>x_e id a+x_e id b
 | .cond _ a b=>x_e id a+x_e id b
 | .block _ c=>x_e id c
 | .loop c=>x_e id c
 | .scope c=>x_e id c
 | .exit i=>match Nat.beq i id with|true=>1|false=>0
 | _=>0
def S_j:Code→Nat
 | .skip=>1
 | .region ..=>1
 | .seq a (.cond _ x y)=>match S_j a with|0=>0|_+1=>wgt (S_k a) (S_j x) (S_j y)
 | .seq a b=>match S_j a with|0=>0|_+1=>S_j b
 | .cond _ a b=>S_j a+S_j b
 | .block id c=>S_j c+x_e id c
 | .loop _=>0
 | .scope c=>S_j c
 | .label _=>1
 | .rangeFunc ..=>1
 | _=>0
def Join (R:List Value→World→Prop) (B:(List Value→World→Prop)→Prop):Prop:=∃J:List Value→World→Prop,(∀s w,J s w→R s w)∧B J
theorem Join.triv {R:List Value→World→Prop} {B:(List Value→World→Prop)→Prop} (h:B R):Join R B:=⟨R,fun _ _ h=>h,h⟩
theorem Join.at {R:List Value→World→Prop} {B:(List Value→World→Prop)→Prop} (J:List Value→World→Prop) (h:B J) (hR:∀s w,J s w→R s w):Join R B:=⟨J,hR,h⟩
def Loop (s0:List Value) (w0:World) (B:(List Value→World→Prop)→List Value→World→Prop):Prop :=
 ∃(I:List Value→World→Prop) (μ:List Value→World→Nat),I s0 w0∧∀s w,I s w→B (fun s' w'=>I s' w'∧μ s' w'<μ s w) s w
theorem Loop.by {s0:List Value} {w0:World} {B:(List Value→World→Prop)→List Value→World→Prop} (I:List Value→World→Prop) (μ:List Value→World→Nat)
  (h0:I s0 w0) (h:∀s w,I s w→B (fun s' w'=>I s' w'∧μ s' w'<μ s w) s w):Loop s0 w0 B:=⟨I,μ,h0,h⟩
def A_e (G:Tab) (L:List (Nat×TypeId)) (s:List Value) (K:List Value→Prop):Prop:=AsAll (L.map fun (_,t)=>shT G 12 t) s K
def useO:List Operand→List Nat→List Nat
 | [],acc=>acc
 | .tmp t :: r,acc=>useO r (t :: acc)
 | _ :: r,acc=>useO r acc
def Y_j:List Oper→List Nat→List Nat
 | [],acc=>acc
 | o :: r,acc=>Y_j r (useO o.op.operands.toList acc)
def b_d:Code→List Nat→List Nat
 | .region _ ops _,acc=>Y_j ops.toList acc
 | .seq a b,acc=>b_d a (b_d b acc)
 | .cond c a b,acc=>useO [c] (b_d a (b_d b acc))
 | .block _ c,acc=>b_d c acc
 | .loop c,acc=>b_d c acc
 | .scope c,acc=>b_d c acc
 | .rangeFunc g _ a b,acc=>useO [g] (b_d a (b_d b acc))
 | _,acc=>acc
def Q_j (e:Env) (U:List Nat) (DB:List (Nat×TypeId)):List (Nat×TypeId)→List Nat→List (Nat×TypeId)
 | [],_=>[]
 | (k,t) :: r,seen=>match N_f seen k with
  | true=>Q_j e U DB r seen
  | false=>match N_f U k with
   | false=>Q_j e U DB r seen
   | true=>match B_e DB k with
    | some _=>Q_j e U DB r seen
    | none=>match get e k with
     | some _=>Q_j e U DB r seen
     | none=>(k,t) :: Q_j e U DB r (k :: seen)
def appL:List (Nat×TypeId)→List (Nat×TypeId)→List (Nat×TypeId)
 | [],l=>l
 | x :: r,l=>x :: appL r l
def wt:Code→Nat
 | .region ..=>1
 | .seq a b=>wt a+wt b
 | .cond _ a b=>wt a+wt b+1
 | .block _ c=>wt c
 | .loop c=>wt c+10
 | .scope c=>wt c
 | .rangeFunc ..=>10
 | _=>0
def smallB (b:Code):Bool:=match Nat.ble (S_j b) 0 with|true=>Nat.ble (wt b) 2|false=>false
def u_a:Code→Bool
 | .rangeFunc ..=>true
 | .seq a b=>match u_a a with|true=>true|false=>u_a b
 | .cond _ a b=>match u_a a with|true=>true|false=>u_a b
 | .block _ c=>u_a c
 | .loop c=>u_a c
 | .scope c=>u_a c
 | _=>false
def mks (ms:List Nat):List Deferred:=ms.map fun D=>{ target:=.collected D,args:=#[] }
def tgt (d:Deferred):Nat:=match d.target with | .collected r=>r|_=>0
theorem u_f (ms:List Nat):(mks ms).map tgt=ms:=by
 unfold mks;rw [List.map_map];induction ms with
 | nil=>rfl
 | cons a r ih=>simp only [List.map_cons,ih];rfl
def mkV (ms:List Nat):Value:=.tuple (ms.map fun (m:Nat)=>Value.int .i64 (m:Int)).toArray
theorem z_f {a b:List Nat} (h:mkV a=mkV b):a=b:=by
 unfold mkV at h;injection h with h
 have h2:=congrArg Array.toList h;clear h;have h:a.map (fun (m:Nat)=>Value.int .i64 (m:Int))=b.map (fun (m:Nat)=>Value.int .i64 (m:Int)):=h2;clear h2
 induction a generalizing b with
 | nil=>cases b with|nil=>rfl|cons y r=>cases h
 | cons x r ih=>cases b with
  | nil=>cases h
  | cons y s =>
   simp only [List.map_cons,List.cons.injEq] at h;obtain⟨h1,h2⟩:=h;injection h1 with _ h1
   rw [ih h2];congr 1;omega
def UnM (s:List Value) (K:List Nat→List Value→Prop):Prop:=∃ms s',s=mkV ms :: s'∧K ms s'
def L_f (P:Program) (v:Value) (w:World) (B:List Value→World→(World→(World→Prop)→Prop)→(World→Prop)→Prop) (K:Nat→World→Prop):Prop :=
 ∃g first cap,v=.func (.func g) first cap∧G_c P g=true∧∀(y:Value) (L:Nat) (Rdy Bsy:World→Prop),L=w.heap.size+1 →
  (∀(S:Nat→Prop) (W W':World),Fr S W W'→¬S L→Rdy W→Rdy W')→(∀(S:Nat→Prop) (W W':World),Fr S W W'→¬S L→Bsy W→Bsy W') →
  (∀(args:List Value) (W:World) (K':Value→World→Prop),Rdy W →
   B args W (fun w1 k=>Rdy w1∧∀w2,Bsy w2→Fr (·=L) w1 w2→w2.heap.size=w1.heap.size→k w2) (fun w3=>Bsy w3∧∀w4,Rdy w4→Fr (·=L) w3 w4→w4.heap.size=w3.heap.size→K' (.bool true) w4) →
   YieldC P y args W K') →
  ∀w1,Fr (fun _=>False) w w1→w1.heap.size=w.heap.size+2→w1.heap[w.heap.size]?=some (.deferred (some []))→Rdy w1 →
   A_ P g (first++#[y]++cap) w1 fun _ w2=>Rdy w2∧∀w3,Fr (·=L) w2 w3→w3.heap.size=w2.heap.size→K w.heap.size w3
def c_f (p:Nat):List Oper→Option TypeId
 | []=>none
 | o :: r=>match o.op with
  | .assign (.tmp q)=>match Nat.beq p q with|true=>some o.type|false=>c_f p r
  | .move (.tmp q)=>match Nat.beq p q with|true=>some o.type|false=>c_f p r
  | .store t _ (.tmp q)=>match Nat.beq p q with|true=>some t|false=>c_f p r
  | .box t (.tmp q)=>match Nat.beq p q with|true=>some t|false=>c_f p r
  | _=>c_f p r
def z_j (p:Nat):Code→Option TypeId
 | .region _ ops _=>c_f p ops.toList
 | .seq a b=>match z_j p a with|some t=>some t|none=>z_j p b
 | _=>none
def shP (G:Tab) (c:Code) (p:Nat):Sh:=match z_j p c with|some t=>shT G 12 t|none=>.raw
def shPs (G:Tab) (c:Code):List Tmp→List Sh
 | []=>[]
 | p :: r=>shP G c p :: shPs G c r
def withPs (nt:Nat):List Tmp→List Value→Env→Env
 | p :: r,v :: vs,e=>withPs nt r vs (put nt e (some p) v)
 | _,_,e=>e
def n_e:List Oper→Bool
 | []=>true
 | o :: r=>match o.op with
  | .defer _=>false
  | _=>n_e r
theorem e_f:∀{l:List Oper},n_e l=true→∀{i:Nat} {o:Oper},l[i]?=some o→∀c,o.op≠.defer c
 | [],_,i,o,hi,c=>by simp at hi
 | x :: r,h,i,o,hi,c=>by
  simp only [n_e] at h;split at h
  ·cases h
  ·rename_i hx;cases i with
   | zero=>simp at hi;subst hi;exact hx c
   | succ i=>exact e_f h (by simpa using hi) c
theorem wp_in {ro:Option Nat} {n:Nat} {o:Oper} {a:Act} {w:World} {next:Act→World→Prop} {Q:Exit→Act→World→Prop} (hd:∀c,o.op≠.defer c) (h:o.wp P a w next Q):o.wpIn (FW ro) n P a w next Q:=by
 unfold Oper.wp at h;unfold Oper.wpIn;refine⟨fun _ _=>trivial,?_⟩;have hsem:o.semAt ro a.eval=execOp a.eval o:=by
  unfold Oper.semAt;split
  ·rename_i l c hc;exact absurd hc (hd c)
  ·rfl
 show Oper.uponIn (FW ro) n P o a next Q ((o.semAt ro a.eval).run P w);rw [hsem];generalize (execOp a.eval o).run P w=r at *;cases r with
 | ok x w' =>
  cases x<;>simp only [Oper.upon,Oper.uponIn] at h ⊢
  all_goals first
   | exact h
   | exact⟨fun h=>(by cases h),M_g h⟩
   | exact⟨fun h=>(by cases h),p_j h⟩
   | exact h.elim
 | halt x w'=>cases x<;>simp only [Oper.upon,Oper.uponIn] at h ⊢<;>exact h
theorem c_i {ro:Option Nat} {n:Nat} {ops:Array Oper} {Q:Exit→Act→World→Prop} (hd:n_e ops.toList=true) (hQ:¬LetsOut Q):∀{fuel:Nat} {listed:Array Bool} {a:Act} {w:World},wpAny P .any ops Q fuel listed a w→wpAnyIn (FW ro) n P .any ops Q fuel listed a w
 | 0,_,_,_,h=>h
 | _+1,_,_,_,h=>⟨h.1,fun i hi=>by
  have h2:=h.2 i hi;unfold wpOp at h2;unfold wpOpIn;split at h2
  ·rename_i ho;simp only [ho];exact c_i hd hQ h2
  ·rename_i o ho;simp only [ho];split at h2
   ·rename_i hw;rw [if_pos hw];rcases h2 with h2|h2
    ·exact wp_in (e_f hd (by simpa using ho)) (Oper.wp_mono (fun _ _ h=>c_i hd hQ h) h2)
    ·exact absurd h2.2 hQ
   ·rename_i hw;rw [if_neg hw];exact⟨fun _ _=>trivial,c_i hd hQ h2⟩⟩
def TR (P:Program) (G:Tab) (nt:Nat):Code→List Nat→Env→World→(List Nat→Env→World→Prop)→(Nat→List Nat→Env→World→Prop)→(List Nat→Env→World→Prop)→Prop
 | .skip,ms,e,w,N,_,_=>N ms e w
 | .label _,ms,e,w,N,_,_=>N ms e w
 | .region _ ops false,ms,e,w,N,_,_=>opsT P G nt ops.toList ops.toList e w (N ms)
 | .region _ ops true,ms,e,w,N,_,_=>match n_e ops.toList with
  | true=>match Region.noSelect ops,d_c ops (num 0 ops.toList) (num 0 ops.toList) with
   | true,true=>opsD P G nt ops.toList ops.size (num 0 ops.toList) [] [] e w.drew (N ms)
   | _,_=>False
  | false=>False
 | .seq a b,ms,e,w,N,X,R=>match Nat.ble (S_j a) 1,smallB b with
  | false,false =>
   let D:=Y_a a []
   let L:=appL (C_a D e []) (Q_j e (b_d b []) (Y_a b []) D [])
   let e':=M_a D e
   match u_a a with
   | false=>Join (fun s w'=>A_e G L s fun s=>TR P G nt b ms (h_ L s e') w' N X R)
    fun J=>TR P G nt a ms e w (fun _ f w'=>match T_b f L with|some s=>J s w' | none=>False) X R
   | true=>Join (fun s w'=>UnM s fun ms s=>A_e G L s fun s=>TR P G nt b ms (h_ L s e') w' N X R)
    fun J=>TR P G nt a ms e w (fun ms f w'=>match T_b f L with|some s=>J (mkV ms :: s) w' | none=>False) X R
  | _,_=>TR P G nt a ms e w (fun ms e w=>TR P G nt b ms e w N X R) X R
 | .cond c a b,ms,e,w,N,X,R=>match ev e c with
  | some (.bool t)=>BIf t (TR P G nt a ms e w N X R) (TR P G nt b ms e w N X R)
  | _=>False
 | .block id c,ms,e,w,N,X,R=>TR P G nt c ms e w N (fun i ms e w=>match Nat.beq i id with|true=>N ms e w|false=>X i ms e w) R
 | .loop c,ms,e,w,_,X,R =>
  let D:=Y_a c []
  let L:=C_a D e []
  let e':=M_a D e
  match T_b e L with
  | some s0=>match u_a c with
   | false=>Loop s0 w fun J s w=>A_e G L s fun s=>TR P G nt c ms (h_ L s e') w (fun _ f w'=>match T_b f L with|some s=>J s w' | none=>False) X R
   | true=>Loop (mkV ms :: s0) w fun J s w=>UnM s fun ms s=>A_e G L s fun s=>TR P G nt c ms (h_ L s e') w (fun ms f w'=>match T_b f L with|some s=>J (mkV ms :: s) w' | none=>False) X R
  | none=>False
 | .exit id,ms,e,w,_,X,_=>X id ms e w
 | .ret,ms,e,w,_,_,R=>R ms e w
 | _,_,_,_,_,_,_=>False
def T (P:Program) (G:Tab) (nt:Nat) (rd:Bool):Code→List Nat→Env→World→(List Nat→Env→World→Prop)→(Nat→List Nat→Env→World→Prop)→(List Nat→Env→World→Prop)→Prop
 | .skip,ms,e,w,N,_,_=>N ms e w
 | .label _,ms,e,w,N,_,_=>N ms e w
 | .region _ ops false,ms,e,w,N,_,_=>opsT P G nt ops.toList ops.toList e w (N ms)
 | .region _ ops true,ms,e,w,N,_,_=>match rd with
  | true=>False
  | false=>match Region.noSelect ops,d_c ops (num 0 ops.toList) (num 0 ops.toList) with
   | true,true=>opsD P G nt ops.toList ops.size (num 0 ops.toList) [] [] e w.drew (N ms)
   | _,_=>False
 | .seq a b,ms,e,w,N,X,R=>match Nat.ble (S_j a) 1,smallB b with
  | false,false =>
   let D:=Y_a a []
   let L:=appL (C_a D e []) (Q_j e (b_d b []) (Y_a b []) D [])
   let e':=M_a D e
   match u_a a with
   | false=>Join (fun s w'=>A_e G L s fun s=>T P G nt rd b ms (h_ L s e') w' N X R)
    fun J=>T P G nt rd a ms e w (fun _ f w'=>match T_b f L with|some s=>J s w' | none=>False) X R
   | true=>Join (fun s w'=>UnM s fun ms s=>A_e G L s fun s=>T P G nt rd b ms (h_ L s e') w' N X R)
    fun J=>T P G nt rd a ms e w (fun ms f w'=>match T_b f L with|some s=>J (mkV ms :: s) w' | none=>False) X R
  | _,_=>T P G nt rd a ms e w (fun ms e w=>T P G nt rd b ms e w N X R) X R
 | .cond c a b,ms,e,w,N,X,R=>match ev e c with
  | some (.bool t)=>BIf t (T P G nt rd a ms e w N X R) (T P G nt rd b ms e w N X R)
  | _=>False
 | .block id c,ms,e,w,N,X,R=>T P G nt rd c ms e w N (fun i ms e w=>match Nat.beq i id with|true=>N ms e w|false=>X i ms e w) R
 | .loop c,ms,e,w,_,X,R =>
  let D:=Y_a c []
  let L:=C_a D e []
  let e':=M_a D e
  match T_b e L with
  | some s0=>match u_a c with
   | false=>Loop s0 w fun J s w=>A_e G L s fun s=>T P G nt rd c ms (h_ L s e') w (fun _ f w'=>match T_b f L with|some s=>J s w' | none=>False) X R
   | true=>Loop (mkV ms :: s0) w fun J s w=>UnM s fun ms s=>A_e G L s fun s=>T P G nt rd c ms (h_ L s e') w (fun ms f w'=>match T_b f L with|some s=>J (mkV ms :: s) w' | none=>False) X R
  | none=>False
 | .scope c,ms,e,w,N,X,R=>match rd with|true=>False|false=>T P G nt rd c ms e w N X R
 | .exit id,ms,e,w,_,X,_=>X id ms e w
 | .ret,ms,e,w,_,_,R=>R ms e w
 | .rangeFunc g ps az body,ms,e,w,N,_,_=>match rd with
  | true=>False
  | false=>match ev e g with
   | some v=>L_f P v w (fun args w1 mid fin=>AsAll (shPs G az ps.toList) args fun args =>
     TR P G nt az [] (withPs nt ps.toList args e) w1 (fun ms e w=>mid w fun w=>TR P G nt body ms e w (fun _ _ w=>fin w) (fun _ _ _ _=>False) (fun _ _ _=>False)) (fun _ _ _ _=>False) (fun _ _ _=>False))
     (fun D w=>N (D :: ms) e w)
   | none=>False
 | _,_,_,_,_,_,_=>False
theorem q_c {D:List (Nat×TypeId)}:∀{e:Env} {n:Nat} {v:Value},get (M_a D e) n=some v→get e n=some v∧B_e D n=none
 | [],n,v,h=>by cases h
 | (k,u) :: r,n,v,h=>by
  simp only [M_a] at h;split at h
  ·rename_i t ht;have:=q_c h;refine⟨?_,this.2⟩;simp only [get];cases hk:Nat.beq k n with
   | true=>have e:k=n:=Nat.eq_of_beq_eq_true hk;rw [e,this.2] at ht;cases ht
   | false=>exact this.1
  ·rename_i ht;simp only [get] at h ⊢;cases hk:Nat.beq k n with
   | true=>rw [hk] at h;have e:k=n:=Nat.eq_of_beq_eq_true hk;rw [e] at ht;exact⟨h,ht⟩
   | false=>rw [hk] at h;exact q_c h
def Ext (D:Nat→Prop) (e f:Env):Prop:=∀n v,¬D n→get e n=some v→get f n=some v
theorem Ext.refl (D:Nat→Prop) (e:Env):Ext D e e:=fun _ _ _ h=>h
theorem Ext.trans {D:Nat→Prop} {e f g:Env} (h:Ext D e f) (k:Ext D f g):Ext D e g:=fun n v hn he=>k n v hn (h n v hn he)
theorem Ext.mono {D D':Nat→Prop} {e f:Env} (h:Ext D e f) (hd:∀n,D n→D' n):Ext D' e f:=fun n v hn he=>h n v (fun hd'=>hn (hd n hd')) he
theorem Ext.put {D:Nat→Prop} {e f:Env} {nt:Nat} {d:Option Nat} {v:Value} (h:Ext D e f) (hd:∀n,d=some n→D n):Ext D e (put nt f d v):=by
 intro n u hn he;have h0:=h n u hn he;cases d with
 | none=>exact h0
 | some d =>
  simp only [Sh.put];split
  ·simp only [get];split
   ·rename_i hk;have:d=n:=Nat.eq_of_beq_eq_true hk;subst this;exact absurd (hd d rfl) hn
   ·exact h0
  ·exact h0
theorem Ext.know {D:Nat→Prop} {e f:Env} {d:Nat} {v:Value} (h:Ext D e f) (hv:get f d=some v):Ext D e ((d,v) :: f):=by
 intro n u hn he;have h0:=h n u hn he;simp only [get];split
 ·rename_i hk;have:d=n:=Nat.eq_of_beq_eq_true hk;subst this;rw [←h0,hv]
 ·exact h0
theorem e_h {nt:Nat} {ops:Array Oper} {e:Env} {o:Oper} {yes no:Env→Prop} {a:Act} (ha:Ok M nt e a) (h:opG ops.toList e o yes no) :
  ∃e',Ok M nt e' a∧(∀D,Ext D e e')∧((Region.wanted o (yielded ops a.tmps)=true∧yes e')∨(Region.wanted o (yielded ops a.tmps)=false∧no e')):=by
 unfold opG at h;split at h
 ·rename_i hg;exact⟨e,ha,fun D=>.refl D e,.inl ⟨by simp [Region.wanted,hg],h⟩⟩
 ·rename_i j want hg;split at h
  ·exact h.elim
  rename_i d hd;have hd':(ops[j]?).bind (·.dst)=some d:=by
   unfold dstOf at hd;split at hd
   ·rename_i o' ho;have:ops[j]?=some o':=by simpa using ho
    simp [this,hd]
   ·cases hd
  split at h
  ·rename_i b hb;have hv:=ha.get d _ hb;have hy:yielded ops a.tmps j=some b:=by unfold yielded;rw [hd'];simp [hv]
   split at h
   ·rcases h.elim with ⟨rfl,h⟩|⟨rfl,h⟩
    ·exact⟨_,ha.know hv,fun D=>(Ext.refl D e).know hb,.inl ⟨by simp [Region.wanted,hg,hy],h⟩⟩
    ·exact⟨_,ha.know hv,fun D=>(Ext.refl D e).know hb,.inr ⟨by simp [Region.wanted,hg,hy],h⟩⟩
   ·rcases h.elim with ⟨rfl,h⟩|⟨rfl,h⟩
    ·exact⟨_,ha.know hv,fun D=>(Ext.refl D e).know hb,.inr ⟨by simp [Region.wanted,hg,hy],h⟩⟩
    ·exact⟨_,ha.know hv,fun D=>(Ext.refl D e).know hb,.inl ⟨by simp [Region.wanted,hg,hy],h⟩⟩
  ·rename_i l hb;have hv:=ha.get d _ hb;have hy:yielded ops a.tmps j=none:=by unfold yielded;rw [hd'];simp [hv]
   exact⟨e,ha,fun D=>.refl D e,.inr ⟨by simp [Region.wanted,hg,hy],h⟩⟩
  ·exact h.elim
theorem X_c (hG:G.Ok P) {nt:Nat} {ops:Array Oper} {N:Env→World→Prop} {X:Nat→Env→World→Prop} {R:Env→World→Prop} {D:Nat→Prop} {e0:Env} (hsel:Region.noSelect ops=true)
  (hd:∀o∈ops,∀n,o.dst=some n→D n) (hap:d_c ops (num 0 ops.toList) (num 0 ops.toList)=true) :
  ∀{fuel:Nat} {todo:S_e} {done:List Nat} {listed:Array Bool} {C:Chk} {e:Env} {w:World} {a:Act},Lists ops todo done listed→(∀k,listed.getD k false=true→N_f done k=true) →
   Closed ops.toList listed→Ext D e0 e→Ok M nt e a→opsD P G nt ops.toList fuel todo done C e w N→anyC P G ops (Post M nt (fun f w=>Ext D e0 f∧N f w) X R) fuel listed C a w
 | 0,todo,done,listed,C,e,w,a,hl,hdl,hcl,hx,ha,h=>by
  simp only [opsD] at h;split at h
  ·refine⟨?_,e,ha,hx,h⟩;cases hr:Region.ready .any ops listed with
   | nil=>rfl
   | cons x r=>obtain⟨o,ho,_⟩:=hl.ready_ok hdl (i:=x) (by rw [hr];simp);cases ho
  ·exact h.elim
 | fuel+1,todo,done,listed,C,e,w,a,hl,hdl,hcl,hx,ha,h=>by
  have hdl':∀i k,(listed.setIfInBounds i true).getD k false=true→N_f (i :: done) k=true:=by
   intro i k hk;simp only [N_f];cases hb:Nat.beq i k with
   | true=>rfl
   | false=>rw [getD_set_ne false (Nat.ne_of_beq_eq_false hb)] at hk;exact hdl k hk
  simp only [opsD] at h;split at h
  ·rename_i i o r htk;obtain⟨hmem,hR,hok,h4,h5,h6⟩:=Y_f htk;obtain⟨h7,h8⟩:=h6 hl.nodup;have ho':=hl.isOp _ hmem;simp only at ho' hR hok h5 h8;have hW:isW G ops.toList i=false:=by simp [isW,ho',hR]
   have hrd:=hl.ready hmem hok;have hdo:=hd o (Array.mem_of_getElem? ho');have hstep:=hl.step hmem (r:=r) (fun y hy=>⟨h4 y hy,h8 y hy⟩) h5 h7;have hfree:∀j oj,ops[j]?=some oj→j≠i→listed.getD j true=false→(∀e∈oj.after,Region.binds .any e=true→e.on≠i)→o.apart ops oj=true:=by
    intro j oj hj hne hun hno;have hall:=Y_d hap (i,o) (num_mem.2 ⟨Nat.zero_le _,by simpa using ho'⟩);refine K_b hall (j,oj) (num_mem.2 ⟨Nat.zero_le _,by simpa using hj⟩) hne ?_ ?_
    ·rintro ⟨e,he,hb,hk⟩;exact hno e (by simpa using he) hb hk
    ·rintro ⟨e,he,hb,hk⟩;have:=W_e hl.done_ hok e he hb;rw [hk] at this;have hlt:j<listed.size:=by rw [hl.size];exact (Array.getElem?_eq_some_iff.1 hj).1
     simp only at this;rw [Array.getD_eq_getD_getElem?] at this hun;simp [hlt] at this hun;rw [hun] at this;cases this
   obtain⟨e',ha',hx',⟨hw,h⟩|⟨hw,h⟩⟩:=e_h ha h
   ·obtain⟨v,s,hK,hs,hrun⟩:=rd_ok hG h;rw [a_c] at hK;refine n_f ho' (Region.noSelect_spec hsel) (fun _ _ _ h=>h.elim) hW fuel listed C a w hl.size hcl hfree hrd
     (.inl ⟨hw,fun w' hw'=>hrun a w' ha' hw'⟩) hs ?_
    exact J_f (X_c hG hsel hd hap hstep (hdl' i) (hcl.set hrd) ((hx.trans (hx' D)).put hdo) (ha'.put o.dst v) hK)
   ·rw [a_c] at h;refine n_f (s:=held none) ho' (Region.noSelect_spec hsel) (fun _ _ _ h=>h.elim) hW fuel listed C a w hl.size hcl hfree hrd
     (.inr ⟨hw,rfl⟩) trivial ?_
    exact J_f (s:=none) (X_c hG hsel hd hap hstep (hdl' i) (hcl.set hrd) ((hx.trans (hx' D)).put hdo) (ha'.put o.dst undef) h)
  ·rename_i hnone;split at h
   ·refine⟨fun _=>⟨e,ha,hx,h⟩,fun i hi=>?_⟩;obtain⟨o,ho,_⟩:=hl.ready_ok hdl hi;cases ho
   ·rename_i t0 ts;split at h
    ·exact h.elim
    ·rename_i x xs hrw;refine⟨fun h0=>?_,fun j hj=>?_⟩
     ·have hxm:x∈k_e done (t0 :: ts):=by rw [hrw];simp
      obtain⟨h1,h2⟩:=readyW_mem.1 hxm;have:=hl.ready (i:=x.1) (o:=x.2) h1 h2;rw [h0] at this;cases this
     ·obtain⟨o,hom,hok⟩:=hl.ready_ok hdl hj;have hjm:(j,o)∈x :: xs:=by rw [←hrw];exact readyW_mem.2 ⟨hom,hok⟩
      have h1:=o_f h (j,o) hjm;have ho':=hl.isOp _ hom;simp only at ho' h1;have hRj:=c_d hnone (j,o) hom hok;have hWj:isW G ops.toList j=true:=by simp [isW,ho',hRj]
      have hdo:=hd o (Array.mem_of_getElem? ho');obtain⟨d1,d2⟩:=D_h (i:=j) hl.nodup;have hstep:=hl.step hom (r:=E_h j (t0 :: ts)) (fun y hy=>(d1 y).1 hy) (fun y hy hne=>(d1 y).2 ⟨hy,hne⟩) d2;obtain⟨e',ha',hx',⟨hw,h⟩|⟨hw,h⟩⟩:=e_h ha h1
      ·unfold wpOp;simp only [ho',hw,if_true];refine .inl (wo_ok hG ha' h _ _ fun v w' hv=>?_);rw [hWj];have hv:=a_e hv;rw [a_c] at hv;exact⟨by simpa using hv.1,X_c hG hsel hd hap hstep (hdl' j) (hcl.set hj) ((hx.trans (hx' D)).put hdo) (ha'.put o.dst v) hv.2⟩
      ·unfold wpOp;simp only [ho',hw];rw [hWj];have h:=a_e h;rw [a_c] at h;exact⟨by simpa using h.1,X_c hG hsel hd hap hstep (hdl' j) (hcl.set hj) ((hx.trans (hx' D)).put hdo) (ha'.put o.dst undef) h.2⟩
def Wr:Code→(Nat→Prop)→Prop
 | .region _ ops _,D=>∀o∈ops,∀n,o.dst=some n→D n
 | .seq a b,D=>Wr a D∧Wr b D
 | .cond _ a b,D=>Wr a D∧Wr b D
 | .block _ c,D=>Wr c D
 | .loop c,D=>Wr c D
 | .scope c,D=>Wr c D
 | _,_=>True
def inL (D:List (Nat×TypeId)) (n:Nat):Prop:=∃t,(n,t)∈D
theorem typeOf_none {D:List (Nat×TypeId)} {n:Nat}:B_e D n=none↔¬inL D n:=by
 induction D with
 | nil=>simp [B_e,inL]
 | cons x r ih =>
  obtain⟨d,t⟩:=x;simp only [B_e];cases hk:Nat.beq d n with
  | true=>have:d=n:=Nat.eq_of_beq_eq_true hk;subst this;simp [inL]
  | false =>
   have hne:d≠n:=Nat.ne_of_beq_eq_false hk;simp only [ih,inL,List.mem_cons,Prod.mk.injEq];constructor
   ·rintro h ⟨t',(⟨rfl,_⟩|hm)⟩
    ·exact hne rfl
    ·exact h ⟨t',hm⟩
   ·rintro h ⟨t',hm⟩;exact h ⟨t',.inr hm⟩
theorem S_d:∀{l:List Oper} {acc:List (Nat×TypeId)},(∀x∈acc,x∈K_g l acc)∧(∀o∈l,∀n,o.dst=some n→inL (K_g l acc) n)
 | [],acc=>⟨fun x hx=>hx,fun o ho=>by cases ho⟩
 | o :: r,acc=>by
  simp only [K_g];split
  ·rename_i hd;obtain⟨h1,h2⟩:=S_d (l:=r) (acc:=acc);refine⟨h1,fun o' ho' n hn=>?_⟩;rcases List.mem_cons.1 ho' with rfl|ho'
   ·rw [hd] at hn;cases hn
   ·exact h2 o' ho' n hn
  ·rename_i d hd;obtain⟨h1,h2⟩:=S_d (l:=r) (acc:=(d,o.type) :: acc);refine⟨fun x hx=>h1 x (by simp [hx]),fun o' ho' n hn=>?_⟩;rcases List.mem_cons.1 ho' with rfl|ho'
   ·rw [hd] at hn;injection hn with hn;subst hn;exact⟨o'.type,h1 _ (List.mem_cons_self ..)⟩
   ·exact h2 o' ho' n hn
theorem Wr.mono:∀{c:Code} {D D':Nat→Prop},(∀n,D n→D' n)→Wr c D→Wr c D'
 | .region ..,_,_,hd,h=>fun o ho n hn=>hd n (h o ho n hn)
 | .seq a b,_,_,hd,h=>⟨Wr.mono (c:=a) hd h.1,Wr.mono (c:=b) hd h.2⟩
 | .cond _ a b,_,_,hd,h=>⟨Wr.mono (c:=a) hd h.1,Wr.mono (c:=b) hd h.2⟩
 | .block _ c,_,_,hd,h=>Wr.mono (c:=c) hd h
 | .loop c,_,_,hd,h=>Wr.mono (c:=c) hd h
 | .scope c,_,_,hd,h=>Wr.mono (c:=c) hd h
 | .skip,_,_,_,_ | .rangeFunc ..,_,_,_,_ | .exit _,_,_,_,_ | .label _,_,_,_,_ | .goto _,_,_,_,_ | .ret,_,_,_,_ | .refuse _,_,_,_,_=>trivial
theorem r_c:∀(c:Code) (acc:List (Nat×TypeId)),(∀x∈acc,x∈Y_a c acc)∧Wr c (inL (Y_a c acc))
 | .region _ ops _,acc=>⟨(S_d (l:=ops.toList)).1,fun o ho n hn=>(S_d (l:=ops.toList)).2 o (by simpa using ho) n hn⟩
 | .seq a b,acc | .cond _ a b,acc=>by
  obtain⟨b1,b2⟩:=r_c b acc;obtain⟨a1,a2⟩:=r_c a (Y_a b acc);exact⟨fun x hx=>a1 x (b1 x hx),a2,b2.mono fun n ⟨t,ht⟩=>⟨t,a1 _ ht⟩⟩
 | .block _ c,acc | .loop c,acc | .scope c,acc=>by
  obtain⟨b1,b2⟩:=r_c c acc;exact⟨b1,b2⟩
 | .skip,_ | .rangeFunc ..,_ | .exit _,_ | .label _,_ | .goto _,_ | .ret,_ | .refuse _,_=>⟨fun x hx=>hx,trivial⟩
theorem z_e:∀(l:List Oper) (acc acc':List (Nat×TypeId)),(∀p∈acc,p∈acc')→∀p∈K_g l acc,p∈K_g l acc'
 | [],acc,acc',hs,p,hp=>hs p hp
 | o :: r,acc,acc',hs,p,hp=>by
  simp only [K_g] at hp ⊢;split at hp
  ·exact z_e r _ _ hs p hp
  ·refine z_e r _ _ (fun q hq=>?_) p hp;rcases List.mem_cons.1 hq with rfl|hq
   ·simp
   ·simp [hs q hq]
theorem R_d:∀(c:Code) (acc acc':List (Nat×TypeId)),(∀p∈acc,p∈acc')→∀p∈Y_a c acc,p∈Y_a c acc'
 | .region _ ops _,acc,acc',hs,p,hp=>z_e _ _ _ hs p hp
 | .seq a b,acc,acc',hs,p,hp | .cond _ a b,acc,acc',hs,p,hp=>R_d a _ _ (R_d b _ _ hs) p hp
 | .block _ c,acc,acc',hs,p,hp | .loop c,acc,acc',hs,p,hp | .scope c,acc,acc',hs,p,hp=>R_d c _ _ hs p hp
 | .skip,_,_,hs,p,hp | .rangeFunc ..,_,_,hs,p,hp | .exit _,_,_,hs,p,hp | .label _,_,_,hs,p,hp | .goto _,_,_,hs,p,hp | .ret,_,_,hs,p,hp
 | .refuse _,_,_,hs,p,hp=>hs p hp
theorem J_g (c:Code) (acc:List (Nat×TypeId)) (n:Nat) (h:inL (Y_a c []) n):inL (Y_a c acc) n :=
 let ⟨t,ht⟩:=h;⟨t,R_d c [] acc (fun _ hq=>by cases hq) _ ht⟩
theorem e_b {D:List (Nat×TypeId)}:∀{e:Env} {seen:List Nat} {k:Nat} {t:TypeId},(k,t)∈C_a D e seen→inL D k
 | [],_,_,_,h=>by cases h
 | (k',v) :: r,seen,k,t,h=>by
  simp only [C_a] at h;split at h
  ·exact e_b h
  ·split at h
   ·rename_i t' ht;rcases List.mem_cons.1 h with e|h
    ·injection e with e1 e2;subst e1
     refine Classical.byContradiction fun hn=>?_;rw [typeOf_none.2 hn] at ht;cases ht
    ·exact e_b h
   ·exact e_b h
theorem O_a:∀{L:List (Nat×TypeId)} {e:Env} {s:List Value},T_b e L=some s→s.length=L.length∧∀M nt a,Ok M nt e a→s=L.map fun p=>a.tmps.getD p.1 undef
 | [],e,s,h=>by simp [T_b] at h;subst h;simp
 | (k,t) :: r,e,s,h=>by
  simp only [T_b] at h;split at h
  ·rename_i v l hv hl;injection h with h;subst h
   obtain⟨h1,h2⟩:=O_a hl;refine⟨by simp [h1],fun M nt a ha=>?_⟩;have:=ha.get k v hv;rw [List.map_cons,←h2 M nt a ha,Array.getD_eq_getD_getElem?,this,Option.getD_some]
  ·cases h
theorem y_d:∀{L:List (Nat×TypeId)} {s:List Value} {e:Env} {n:Nat} {v:Value},get (h_ L s e) n=some v →
  (∃i:Nat,(∃t,L[i]?=some (n,t))∧s[i]?=some v)∨get e n=some v
 | [],s,e,n,v,h=>.inr (by simpa [h_] using h)
 | (k,t) :: r,[],e,n,v,h=>.inr (by simpa [h_] using h)
 | (k,t) :: r,u :: us,e,n,v,h=>by
  simp only [h_,get] at h;split at h
  ·rename_i hk;have:k=n:=Nat.eq_of_beq_eq_true hk;subst this;injection h with h;subst h
   exact .inl ⟨0,⟨t,by simp⟩,by simp⟩
  ·rcases y_d h with ⟨i,⟨t',h1⟩,h2⟩|h
   ·exact .inl ⟨i+1,⟨t',by simpa using h1⟩,by simpa using h2⟩
   ·exact .inr h
theorem x_d {n:Nat}:∀{L:List (Nat×TypeId)} {s:List Value} {e:Env},¬inL L n→get (h_ L s e) n=get e n
 | [],s,e,_=>by simp [h_]
 | (k,t) :: r,[],e,_=>by simp [h_]
 | (k,t) :: r,u :: us,e,h=>by
  simp only [h_,get];split
  ·rename_i hk;have:k=n:=Nat.eq_of_beq_eq_true hk;exact absurd ⟨t,by simp [this]⟩ h
  ·exact x_d fun ⟨t',ht⟩=>h ⟨t',by simp [ht]⟩
theorem h_c {D:List (Nat×TypeId)} {n:Nat} (hn:¬inL D n):∀{e:Env},get (M_a D e) n=get e n
 | []=>rfl
 | (k,u) :: r=>by
  simp only [M_a];split
  ·rename_i t ht;simp only [get];split
   ·rename_i hk;have:k=n:=Nat.eq_of_beq_eq_true hk;rw [this,typeOf_none.2 hn] at ht;cases ht
   ·exact h_c hn
  ·simp only [get];split
   ·rfl
   ·exact h_c hn
theorem n_g {f:Env} {n:Nat} {v:Value} {t:TypeId}:∀{L:List (Nat×TypeId)} {s:List Value} {i:Nat},T_b f L=some s→L[i]?=some (n,t)→s[i]?=some v→Sh.get f n=some v
 | [],s,i,_,h1,_=>by simp at h1
 | (k,t') :: r,s,i,hr,h1,h2=>by
  simp only [T_b] at hr;split at hr
  ·rename_i u l hu hl;injection hr with hr;subst hr
   cases i with
   | zero=>simp at h1 h2;obtain⟨rfl,rfl⟩:=h1;subst h2;exact hu
   | succ i=>exact n_g hl (by simpa using h1) (by simpa using h2)
  ·cases hr
theorem Ok.rejoin {nt:Nat} {D L:List (Nat×TypeId)} {e f:Env} {a:Act} {s:List Value} (hf:Ok M nt f a) (hr:T_b f L=some s) (hx:Ext (inL D) e f) :
  Ok M nt (h_ L s (M_a D e)) a:=by
 refine⟨hf.defers,hf.size,fun n v hn=>?_⟩;rcases y_d hn with ⟨i,⟨t,h1⟩,h2⟩|h
 ·exact hf.get n v (n_g hr h1 h2)
 ·obtain⟨h1,h2⟩:=q_c h;exact hf.get n v (hx n v (typeOf_none.1 h2) h1)
theorem k_d {e:Env} {U:List Nat} {DB:List (Nat×TypeId)}:∀{D:List (Nat×TypeId)} {seen:List Nat} {x:Nat×TypeId},x∈Q_j e U DB D seen→x∈D
 | [],_,_,h=>by cases h
 | (k,t) :: r,seen,x,h=>by
  simp only [Q_j] at h;split at h
  ·exact List.mem_cons_of_mem _ (k_d h)
  ·split at h
   ·exact List.mem_cons_of_mem _ (k_d h)
   ·split at h
    ·exact List.mem_cons_of_mem _ (k_d h)
    ·split at h
     ·exact List.mem_cons_of_mem _ (k_d h)
     ·rcases List.mem_cons.1 h with rfl|h
      ·simp
      ·exact List.mem_cons_of_mem _ (k_d h)
theorem b_i:∀{a b:List (Nat×TypeId)} {x:Nat×TypeId},x∈appL a b→x∈a∨x∈b
 | [],_,_,h=>.inr h
 | y :: r,b,x,h=>by
  rcases List.mem_cons.1 h with rfl|h
  ·exact .inl (by simp)
  ·rcases b_i h with h|h
   ·exact .inl (List.mem_cons_of_mem _ h)
   ·exact .inr h
theorem Ext.rejoinL {D L:List (Nat×TypeId)} {e:Env} {s:List Value} (hL:∀k t,(k,t)∈L→inL D k):Ext (inL D) e (h_ L s (M_a D e)):=by
 intro n v hn he;rw [x_d (fun ⟨t,ht⟩=>hn (hL n t ht)),h_c hn];exact he
theorem Ext.rejoin {D:List (Nat×TypeId)} {e:Env} {s:List Value}:Ext (inL D) e (h_ (C_a D e []) s (M_a D e)):=Ext.rejoinL fun _ _ h=>e_b h
theorem P_i {D DB:List (Nat×TypeId)} {e:Env} {U:List Nat}:∀k t,(k,t)∈appL (C_a D e []) (Q_j e U DB D [])→inL D k:=fun k t h=>by
 rcases b_i h with h|h
 ·exact e_b h
 ·exact⟨t,k_d h⟩
def r_h (nt:Nat) (N:List Nat→Env→World→Prop) (X:Nat→List Nat→Env→World→Prop) (R:List Nat→Env→World→Prop):Exit→Act→World→Prop
 | .normal,a,w=>∃ms e,Ok (mks ms) nt e a∧N ms e w
 | .exit id,a,w=>∃ms e,Ok (mks ms) nt e a∧X id ms e w
 | .ret,a,w=>∃ms e,Ok (mks ms) nt e a∧R ms e w
 | _,_,_=>False
def Kept (c:Code) (ms:List Nat) (e:Env) (ms':List Nat) (f:Env):Prop:=(u_a c=false→ms'=ms)∧Ext (inL (Y_a c [])) e f
theorem x_f (hG:G.Ok P) {ro:Option Nat} {n:Nat} {nt:Nat} {ops:Array Oper} {ms:List Nat} {N:List Nat→Env→World→Prop} {X:Nat→List Nat→Env→World→Prop} {R:List Nat→Env→World→Prop} {c:Code} {e0:Env} :
  ∀{l:List Oper} {e:Env} {w:World} {a:Act},(∀o∈l,∀n,o.dst=some n→inL (Y_a c []) n)→Ext (inL (Y_a c [])) e0 e →
  Ok (mks ms) nt e a→opsT P G nt ops.toList l e w (N ms)→wpListIn (FW ro) n P ops (r_h nt (fun ms' f w=>Kept c ms e0 ms' f∧N ms' f w) X R) l a w
 | [],e,w,a,_,hx,ha,h=>⟨ms,e,ha,⟨fun _=>rfl,hx⟩,h⟩
 | o :: r,e,w,a,hd,hx,ha,h=>by
  obtain⟨e',ha',hx',⟨hw,h⟩|⟨hw,h⟩⟩:=e_h ha h
  ·refine wpListIn_step fun K hK=>?_;rw [if_pos hw];exact op1Y_ok hG ha' h _ _ _ fun v w' hv=>hK _ _ (x_f hG (fun o' ho'=>hd o' (by simp [ho'])) ((hx.trans (hx' _)).put (hd o (by simp))) (ha'.put o.dst v) (by rwa [a_c] at hv))
  ·refine wpListIn_step fun K hK=>?_;rw [hw];exact⟨fun _ _=>trivial,hK _ _ (x_f hG (fun o' ho'=>hd o' (by simp [ho'])) ((hx.trans (hx' _)).put (hd o (by simp))) (ha'.put o.dst undef) (by rwa [a_c] at h))⟩
theorem Kept.seq1 {a b:Code} {ms ms1:List Nat} {e f:Env} (h:Kept a ms e ms1 f) (hb:u_a (.seq a b)=false→u_a a=false:=by intro h;simp only [u_a] at h;split at h<;>simp_all):Kept (.seq a b) ms e ms1 f :=
 ⟨fun hh=>h.1 (hb hh),h.2.mono fun n hn=>(J_g a (Y_a b [])) n hn⟩
theorem Kept.seq2 {a b:Code} {ms ms1 ms2:List Nat} {e f g:Env} (h:Kept a ms e ms1 f) (k:Kept b ms1 f ms2 g):Kept (.seq a b) ms e ms2 g:=by
 refine⟨fun hh=>?_,(h.2.mono fun n hn=>(J_g a (Y_a b [])) n hn).trans (k.2.mono fun n ⟨t,ht⟩=>⟨t,(r_c a (Y_a b [])).1 _ ht⟩)⟩;simp only [u_a] at hh;split at hh
 ·cases hh
 ·rename_i ha;rw [k.1 hh,h.1 ha]
theorem Kept.cond1 {o:Operand} {a b:Code} {ms ms1:List Nat} {e f:Env} (h:Kept a ms e ms1 f):Kept (.cond o a b) ms e ms1 f :=
 ⟨fun hh=>h.1 (by simp only [u_a] at hh;split at hh<;>simp_all),h.2.mono fun n hn=>(J_g a (Y_a b [])) n hn⟩
theorem Kept.cond2 {o:Operand} {a b:Code} {ms ms1:List Nat} {e f:Env} (h:Kept b ms e ms1 f):Kept (.cond o a b) ms e ms1 f :=
 ⟨fun hh=>h.1 (by simp only [u_a] at hh;split at hh<;>simp_all),h.2.mono fun n ⟨t,ht⟩=>⟨t,(r_c a (Y_a b [])).1 _ ht⟩⟩
theorem AsAll.len:∀{l:List Sh} {s:List Value} {K:List Value→Prop},AsAll l s K→s.length=l.length
 | [],_,_,⟨h,_⟩=>by rw [h];rfl
 | _ :: _,_,_,⟨_,_,h,k⟩=>by
  rw [h];have:=As.elim k;simp only [List.length_cons];rw [AsAll.len this]
theorem B_i {G:Tab} {c:Code}:∀{l:List Tmp},(shPs G c l).length=l.length
 | []=>rfl
 | _ :: r=>by simp [shPs,B_i (l:=r)]
theorem Ok.withPs {nt:Nat}:∀{ps:List Tmp} {vs:List Value} {e:Env} {tm:Array Value},Ok [] nt e { tmps:=tm,defers:=[] } →
  Ok [] nt (withPs nt ps vs e) { tmps:=(ps.zip vs).foldl (fun t (p,v)=>t.setIfInBounds p v) tm,defers:=[] }
 | [],vs,e,tm,h=>by simpa [Sh.withPs] using h
 | p :: ps,[],e,tm,h=>by simpa [Sh.withPs] using h
 | p :: ps,v :: vs,e,tm,h=>by
  have h1:=h.put (some p) v;have:=Ok.withPs (ps:=ps) (vs:=vs) (e:=Sh.put nt e (some p) v) (tm:=tm.setIfInBounds p v) h1;simpa [Sh.withPs] using this
theorem O_d {w:World} {b:Nat} {o:Obj}:Fr (·=b) w (w.putObj b o) :=
 ⟨rfl,rfl,rfl,by simp,fun c hc hn=>World.putObj_heap_other (fun e=>hn e)⟩
theorem Z_g (hG:G.Ok P) {n nt:Nat} {g:Operand} {ps:Array Tmp} {az body:Code} {ms:List Nat} {e:Env} {w:World} {N:List Nat→Env→World→Prop} {Q:Exit→Act→World→Prop} {a:Act} (ha:Ok (mks ms) nt e a) {v:Value} (hv:ev e g=some v)
  (hT:∀(c:Code) {l:Nat} {n:Nat} {ms:List Nat} {e:Env} {w:World} {N:List Nat→Env→World→Prop} {X:Nat→List Nat→Env→World→Prop} {R:List Nat→Env→World→Prop} {a:Act},(c=az∨c=body)→Ok (mks ms) nt e a→TR P G nt c ms e w N X R →
   c.wpIn (FW (some l)) n P (r_h nt (fun ms' f w=>Kept c ms e ms' f∧N ms' f w) (fun i ms' f w=>Kept c ms e ms' f∧X i ms' f w) R) a w)
  (hQ:∀D w',N (D :: ms) e w'→Q .normal { a with defers:={ target:=.collected D,args:=#[] } :: a.defers } w')
  (h:L_f P v w (fun args w1 mid fin=>AsAll (shPs G az ps.toList) args fun args =>
     TR P G nt az [] (withPs nt ps.toList args e) w1 (fun ms e w=>mid w fun w=>TR P G nt body ms e w (fun _ _ w=>fin w) (fun _ _ _ _=>False) (fun _ _ _=>False)) (fun _ _ _ _=>False) (fun _ _ _=>False))
     (fun D w=>N (D :: ms) e w)) :
  (Code.rangeFunc g ps az body).wpIn (FW none) n P Q a w:=by
 obtain⟨gf,first,cap,rfl,hgi,h⟩:=h;have hev:=ha.ev hv;refine wpIn_rangeFunc fun fn _=>?_;obtain⟨rec,hrec⟩:∃rec:LoopState→Go.Loop,rec=fun st=>{ state:=st,pending:=none,fn,tmps:=a.tmps,params:=ps,assign:=az,body,defers:=w.heap.size }:=⟨_,rfl⟩;obtain⟨W1,hW1⟩:∃W1,(w.alloc (.deferred (some []))).alloc (.loop (rec .ready))=W1:=⟨_,rfl⟩;have hL1:W1.heap[w.heap.size+1]?=some (.loop (rec .ready)):=by
  rw [←hW1];have:=World.alloc_heap_new (w.alloc (.deferred (some []))) (.loop (rec .ready));rwa [World.size_alloc] at this
 have hK1:W1.heap[w.heap.size]?=some (.deferred (some [])):=by
  rw [←hW1];show ((w.heap.push _).push _)[w.heap.size]?=_;rw [Array.getElem?_push,if_neg (by simp)];simp
 have hs1:W1.heap.size=w.heap.size+2:=by rw [←hW1];simp
 have hf1:Fr (fun _=>False) w W1:=by
  refine⟨by rw [←hW1];rfl,by rw [←hW1];rfl,by rw [←hW1];rfl,by omega,fun b hb _=>?_⟩;rw [←hW1];show ((w.heap.push _).push _)[b]?=_;rw [Array.getElem?_push,if_neg (by simp;omega),Array.getElem?_push,if_neg (by omega)]
 have hcallf:∀args w,(callFunc gf args).run P w=.ok (.enter gf args) w:=by
  intro args w;unfold G_c at hgi;split at hgi
  ·rename_i f hfn;split at hgi
   ·rename_i cd hbody;split at hgi
    ·cases hgi
    ·rename_i hname;simp only [callFunc,Sem.run_bind,Sem.run_pure,run_program,Result.andThen_ok,hfn,hname,hbody,Option.isNone];simp
   ·cases hgi
  ·cases hgi
 refine⟨w.heap.size+1,[{ target:=.collected w.heap.size,args:=#[] }],W1,{ target:=.fn (.func gf) cap,args:=first++#[.func (.yield (w.heap.size+1)) #[] #[]] },W1,gf,
  first++#[.func (.yield (w.heap.size+1)) #[] #[]]++cap,W1,?_,?_,fun _ _=>trivial,?_,fun h=>(by cases h),?_⟩
 ·rw [←hW1,hrec];exact run_enterLoop_outer _ _ _ _ _
 ·simp only [resolve,hev];simp [go_sem]
 ·simp [invoke,go_sem,hcallf]
 ·refine M_g (Calls.mono (h (.func (.yield (w.heap.size+1)) #[] #[]) (w.heap.size+1) (fun W=>W.heap[w.heap.size+1]?=some (.loop (rec .ready))) (fun W=>W.heap[w.heap.size+1]?=some (.loop (rec .busy))) rfl
   (fun S W W' hf hS hR=>by rw [hf.block _ (Array.getElem?_eq_some_iff.1 hR).1 hS];exact hR) (fun S W W' hf hS hR=>by rw [hf.block _ (Array.getElem?_eq_some_iff.1 hR).1 hS];exact hR) ?_ W1 hf1 hs1 hK1 hL1) ?_)
  ·-- one round
   intro args W K' hR hB;have hlen:args.length=ps.size:=by
    have:=AsAll.len hB;rw [B_i] at this;simpa using this
   have hB:=AsAll.elim hB;have hy:=run_yield (P:=P) (args:=args.toArray) hR (by rw [hrec];simpa using hlen);rw [hrec] at hy;refine⟨w.heap.size+1,fn,_,az,body,rfl,hy,?_⟩;have hR':RoundIn (FW none) 0 P (w.heap.size+1) fn ((ps.zip args.toArray).foldl (fun tmps (t,a)=>tmps.setIfInBounds t a) a.tmps) az body W fun e w'=>∃u,e=.returned u∧K' u w':=by
    refine roundIn_of_wpIn trivial ?_;have hok0:Ok (mks []) nt e { tmps:=a.tmps,defers:=[] }:=⟨rfl,ha.size,ha.get⟩;have hok:Ok (mks []) nt _ _:=Ok.withPs (ps:=ps.toList) (vs:=args) hok0;have hfold:(ps.zip args.toArray).foldl (fun tmps (t,a)=>tmps.setIfInBounds t a) a.tmps=(ps.toList.zip args).foldl (fun tmps (t,a)=>tmps.setIfInBounds t a) a.tmps:=by
     rw [←Array.foldl_toList,Array.toList_zip]
    rw [hfold];refine wpIn_mono (hT az (l:=w.heap.size+1) (n:=0) (.inl rfl) hok hB) ?_;rintro e1 a1 w1 hp;cases e1 with
    | normal =>
     obtain⟨ms1,f1,hok1,hk1,hR1,hmid⟩:=hp;refine⟨_,run_beginRound hR1 (by rw [hrec]),?_⟩;have hl1:w.heap.size+1<w1.heap.size:=(Array.getElem?_eq_some_iff.1 hR1).1;have hB2:=hmid (w1.putObj (w.heap.size+1) (.loop { rec .ready with state:=.busy })) (by rw [World.putObj_heap_same hl1,hrec]) O_d (by simp);refine wpIn_mono (hT body (l:=w.heap.size+1) (n:=0) (.inr rfl) hok1 hB2) ?_;rintro e2 a2 w3 hp;cases e2 with
     | normal =>
      obtain⟨ms2,f2,hok2,hk2,hBs,hfin⟩:=hp;have hl3:w.heap.size+1<w3.heap.size:=(Array.getElem?_eq_some_iff.1 hBs).1;exact⟨_,_,run_endRound none hBs,.bool true,rfl,hfin _ (by rw [World.putObj_heap_same hl3,hrec];rfl) O_d (by simp)⟩
     | exit id=>obtain⟨_,_,_,_,hx⟩:=hp;exact hx.elim
     | ret=>obtain⟨_,_,_,hx⟩:=hp;exact hx.elim
     | goto l=>exact hp.elim
     | panic c=>exact hp.elim
     | outgrown=>exact hp.elim
    | exit id=>obtain⟨_,_,_,_,hx⟩:=hp;exact hx.elim
    | ret=>obtain⟨_,_,_,hx⟩:=hp;exact hx.elim
    | goto l=>exact hp.elim
    | panic c=>exact hp.elim
    | outgrown=>exact hp.elim
   exact hR'
  ·rintro e1 w2 ⟨u,rfl,hR2,hK2⟩;have hl2:w.heap.size+1<w2.heap.size:=(Array.getElem?_eq_some_iff.1 hR2).1;exact⟨none,_,by have:=run_endLoop (P:=P) hR2 (by rw [hrec];simp);rw [hrec] at this;exact this,hQ _ _ (hK2 _ O_d (by simp))⟩
theorem u_d (hG:G.Ok P) {nt:Nat} (hm:P.follows .mixedOrders=true):∀(c:Code) {ro:Option Nat} {n:Nat} {ms:List Nat} {e:Env} {w:World} {N:List Nat→Env→World→Prop} {X:Nat→List Nat→Env→World→Prop} {R:List Nat→Env→World→Prop} {a:Act},
  Ok (mks ms) nt e a→TR P G nt c ms e w N X R →
  c.wpIn (FW ro) n P (r_h nt (fun ms' f w=>Kept c ms e ms' f∧N ms' f w) (fun i ms' f w=>Kept c ms e ms' f∧X i ms' f w) R) a w
 | .skip,ro,n,ms,e,w,N,X,R,a,ha,h=>wpIn_skip ⟨ms,e,ha,⟨fun _=>rfl,.refl _ e⟩,h⟩
 | .label l,ro,n,ms,e,w,N,X,R,a,ha,h=>wpIn_label ⟨ms,e,ha,⟨fun _=>rfl,.refl _ e⟩,h⟩
 | .exit id,ro,n,ms,e,w,N,X,R,a,ha,h=>wpIn_exit ⟨ms,e,ha,⟨fun _=>rfl,.refl _ e⟩,h⟩
 | .ret,ro,n,ms,e,w,N,X,R,a,ha,h=>wpIn_ret ⟨ms,e,ha,h⟩
 | .region id ops d,ro,n,ms,e,w,N,X,R,a,ha,h=>by
  have hd:=(r_c (.region id ops d) []).2;cases d with
  | false=>exact wpIn_region_list (x_f hG (fun o ho=>hd o (by simpa using ho)) (.refl _ e) ha h)
  | true =>
   have fin:∀ex a' w',Post (mks ms) nt (fun f w=>Ext (inL (Y_a (.region id ops true) [])) e f∧N ms f w) (fun _ _ _=>False) (fun _ _=>False) ex a' w' →
     r_h nt (fun ms' f w=>Kept (.region id ops true) ms e ms' f∧N ms' f w) (fun i ms' f w=>Kept (.region id ops true) ms e ms' f∧X i ms' f w) R ex a' w':=fun ex a' w' hp=>by
    cases ex with
    | normal=>obtain⟨f,hf,hx,hN⟩:=hp;exact⟨ms,f,hf,⟨fun _=>rfl,hx⟩,hN⟩
    | exit id=>obtain⟨_,_,hx⟩:=hp;exact hx.elim
    | ret=>obtain⟨_,_,hx⟩:=hp;exact hx.elim
    | _=>exact hp.elim
   simp only [TR] at h;split at h
   ·rename_i hrd;split at h
    ·rename_i hsel hap;have key:=P_g (X_c (M:=mks ms) (X:=fun _ _ _=>False) (R:=fun _ _=>False) hG hsel hd hap (Lists.start ops) (fun k hk=>by
      rw [show (Array.replicate ops.size false).getD k false=false from by simp only [Array.getD_eq_getD_getElem?,Array.getElem?_replicate];split<;>rfl] at hk;cases hk) (Closed.start ops) (.refl _ e) ha h)
     exact wpIn_mono (wpIn_region_any hm (c_i hrd (fun ho=>by obtain⟨_,_,hx⟩:=ho;exact hx.elim) key)) fin
    ·exact h.elim
   ·exact h.elim
 | .seq x y,ro,n,ms,e,w,N,X,R,a,ha,h=>by
  have plain:TR P G nt x ms e w (fun ms e w=>TR P G nt y ms e w N X R) X R→(Code.seq x y).wpIn (FW ro) n P (r_h nt (fun ms' f w=>Kept (.seq x y) ms e ms' f∧N ms' f w) (fun i ms' f w=>Kept (.seq x y) ms e ms' f∧X i ms' f w) R) a w:=by
   intro h;refine wpIn_seq (wpIn_mono (u_d hG hm x ha h) (fun ex a' w' hp=>?_));cases ex with
   | normal =>
    obtain⟨ms1,f,hf,hk,hN⟩:=hp;refine wpIn_mono (u_d hG hm y hf hN) (fun ex a'' w'' hp=>?_);cases ex with
    | normal=>obtain⟨ms2,g,hg,hk2,hN⟩:=hp;exact⟨ms2,g,hg,hk.seq2 hk2,hN⟩
    | exit id=>obtain⟨ms2,g,hg,hk2,hN⟩:=hp;exact⟨ms2,g,hg,hk.seq2 hk2,hN⟩
    | ret=>exact hp
    | goto l=>exact hp
    | panic c=>exact hp
    | outgrown=>exact hp
   | exit id=>obtain⟨ms1,f,hf,hk,hN⟩:=hp;exact⟨ms1,f,hf,hk.seq1,hN⟩
   | ret=>exact hp
   | goto l=>exact hp
   | panic c=>exact hp
   | outgrown=>exact hp
  simp only [TR] at h;split at h
  ·obtain⟨L,hL0⟩:∃L,appL (C_a (Y_a x []) e []) (Q_j e (b_d y []) (Y_a y []) (Y_a x []) [])=L:=⟨_,rfl⟩;have hLin:∀k t,(k,t)∈L→inL (Y_a x []) k:=by rw [←hL0];exact P_i
   rw [hL0] at h;split at h
   ·rename_i hrf;obtain⟨J,hJ,h⟩:=h;refine wpIn_seq (wpIn_mono (u_d hG hm x ha h) (fun ex a' w' hp=>?_));cases ex with
    | normal =>
     obtain⟨ms1,f,hf,hk,hN⟩:=hp;obtain rfl:=hk.1 hrf;split at hN
     ·rename_i s hs;have h2:=AsAll.elim (hJ s w' hN);have hok:=hf.rejoin hs hk.2;have hkk:Kept x ms1 e ms1 (h_ L s (M_a (Y_a x []) e)):=⟨fun _=>rfl,Ext.rejoinL hLin⟩;refine wpIn_mono (u_d hG hm y hok h2) (fun ex a'' w'' hp=>?_);cases ex with
      | normal=>obtain⟨ms2,g,hg,hk2,hN⟩:=hp;exact⟨ms2,g,hg,hkk.seq2 hk2,hN⟩
      | exit id=>obtain⟨ms2,g,hg,hk2,hN⟩:=hp;exact⟨ms2,g,hg,hkk.seq2 hk2,hN⟩
      | ret=>exact hp
      | goto l=>exact hp
      | panic c=>exact hp
      | outgrown=>exact hp
     ·exact hN.elim
    | exit id=>obtain⟨ms1,f,hf,hk,hN⟩:=hp;exact⟨ms1,f,hf,hk.seq1,hN⟩
    | ret=>exact hp
    | goto l=>exact hp
    | panic c=>exact hp
    | outgrown=>exact hp
   ·rename_i hrf;obtain⟨J,hJ,h⟩:=h;refine wpIn_seq (wpIn_mono (u_d hG hm x ha h) (fun ex a' w' hp=>?_));cases ex with
    | normal =>
     obtain⟨ms1,f,hf,hk,hN⟩:=hp;split at hN
     ·rename_i s hs;obtain⟨ms1',s',he,h2⟩:=hJ _ w' hN;injection he with he1 he2
      have:=z_f he1;subst this;subst he2;have h2:=AsAll.elim h2;have hok:=hf.rejoin hs hk.2;have hkk:Kept x ms e ms1 (h_ L s (M_a (Y_a x []) e)):=⟨hk.1,Ext.rejoinL hLin⟩;refine wpIn_mono (u_d hG hm y hok h2) (fun ex a'' w'' hp=>?_);cases ex with
      | normal=>obtain⟨ms2,g,hg,hk2,hN⟩:=hp;exact⟨ms2,g,hg,hkk.seq2 hk2,hN⟩
      | exit id=>obtain⟨ms2,g,hg,hk2,hN⟩:=hp;exact⟨ms2,g,hg,hkk.seq2 hk2,hN⟩
      | ret=>exact hp
      | goto l=>exact hp
      | panic c=>exact hp
      | outgrown=>exact hp
     ·exact hN.elim
    | exit id=>obtain⟨ms1,f,hf,hk,hN⟩:=hp;exact⟨ms1,f,hf,hk.seq1,hN⟩
    | ret=>exact hp
    | goto l=>exact hp
    | panic c=>exact hp
    | outgrown=>exact hp
  ·exact plain h
 | .cond c x y,ro,n,ms,e,w,N,X,R,a,ha,h=>by
  simp only [TR] at h;split at h
  ·rename_i t hc;have hev:=ha.ev hc;rcases h.elim with ⟨rfl,h⟩|⟨rfl,h⟩
   ·refine wpIn_cond_true hev (wpIn_mono (u_d hG hm x ha h) (fun ex a' w' hp=>?_));cases ex with
    | normal=>obtain⟨ms1,f,hf,hk,hN⟩:=hp;exact⟨ms1,f,hf,hk.cond1,hN⟩
    | exit id=>obtain⟨ms1,f,hf,hk,hN⟩:=hp;exact⟨ms1,f,hf,hk.cond1,hN⟩
    | _=>exact hp
   ·refine wpIn_cond_false hev (wpIn_mono (u_d hG hm y ha h) (fun ex a' w' hp=>?_));cases ex with
    | normal=>obtain⟨ms1,f,hf,hk,hN⟩:=hp;exact⟨ms1,f,hf,hk.cond2,hN⟩
    | exit id=>obtain⟨ms1,f,hf,hk,hN⟩:=hp;exact⟨ms1,f,hf,hk.cond2,hN⟩
    | _=>exact hp
  ·exact h.elim
 | .block id c,ro,n,ms,e,w,N,X,R,a,ha,h=>by
  simp only [TR] at h;refine wpIn_block (wpIn_mono (u_d hG hm c ha h) (fun ex a' w' hp=>?_));cases ex with
  | normal=>exact hp
  | exit i =>
   obtain⟨ms1,f,hf,hk,hN⟩:=hp;simp only [Exit.inBlock];split at hN
   ·rename_i hb;have:i=id:=Nat.eq_of_beq_eq_true hb;rw [if_pos (by simp [this])];exact⟨ms1,f,hf,hk,hN⟩
   ·rename_i hb;have:i≠id:=Nat.ne_of_beq_eq_false hb;rw [if_neg (by simpa using this)];exact⟨ms1,f,hf,hk,hN⟩
  | _=>exact hp
 | .loop c,ro,n,ms,e,w,N,X,R,a,ha,h=>by
  simp only [TR] at h;split at h
  ·rename_i s0 hs0;split at h
   ·rename_i hrf;obtain⟨I,μ,h0,hr⟩:=h;refine wpIn_loop (fun a' w'=>∃f s,Ok (mks ms) nt f a'∧T_b f (C_a (Y_a c []) e [])=some s∧Ext (inL (Y_a c [])) e f∧I s w')
     (fun a' w'=>μ ((C_a (Y_a c []) e []).map fun p=>a'.tmps.getD p.1 undef) w') ⟨e,s0,ha,hs0,.refl _ e,h0⟩ ?_
    rintro a1 w1 ⟨f,s,hf,hs,hx,hI⟩;have h2:=AsAll.elim (hr s w1 hI);have hok:=hf.rejoin hs hx;refine wpIn_mono (u_d hG hm c hok h2) (fun ex a'' w'' hp=>?_);have hxx:Ext (inL (Y_a c [])) e _:=Ext.rejoin (D:=Y_a c []) (e:=e) (s:=s);cases ex with
    | normal =>
     obtain⟨ms2,g,hg,hk2,hN⟩:=hp;obtain rfl:=hk2.1 hrf;split at hN
     ·rename_i s' hs';refine⟨⟨g,s',hg,hs',hxx.trans hk2.2,hN.1⟩,?_⟩;rw [←(O_a hs').2 _ nt _ hg,←(O_a hs).2 _ nt _ hf];exact hN.2
     ·exact hN.elim
    | exit id=>obtain⟨ms2,g,hg,hk2,hN⟩:=hp;exact⟨ms2,g,hg,⟨hk2.1,hxx.trans hk2.2⟩,hN⟩
    | _=>exact hp
   ·rename_i hrf;obtain⟨I,μ,h0,hr⟩:=h;have hrf':∀{p:Prop},u_a (.loop c)=false→p:=by intro p h;simp only [u_a] at h;rw [hrf] at h;cases h
    refine wpIn_loop (fun a' w'=>∃ms' f s,Ok (mks ms') nt f a'∧T_b f (C_a (Y_a c []) e [])=some s∧Ext (inL (Y_a c [])) e f∧I (mkV ms' :: s) w')
     (fun a' w'=>μ (mkV (a'.defers.map tgt) :: (C_a (Y_a c []) e []).map fun p=>a'.tmps.getD p.1 undef) w') ⟨ms,e,s0,ha,hs0,.refl _ e,h0⟩ ?_
    rintro a1 w1 ⟨ms',f,s,hf,hs,hx,hI⟩;obtain⟨ms1',s',he,h2⟩:=hr _ w1 hI;injection he with he1 he2
    have:=z_f he1;subst this;subst he2;have h2:=AsAll.elim h2;have hok:=hf.rejoin hs hx;refine wpIn_mono (u_d hG hm c hok h2) (fun ex a'' w'' hp=>?_);have hxx:Ext (inL (Y_a c [])) e _:=Ext.rejoin (D:=Y_a c []) (e:=e) (s:=s);cases ex with
    | normal =>
     obtain⟨ms2,g,hg,hk2,hN⟩:=hp;split at hN
     ·rename_i s' hs';refine⟨⟨ms2,g,s',hg,hs',hxx.trans hk2.2,hN.1⟩,?_⟩;rw [←(O_a hs').2 _ nt _ hg,←(O_a hs).2 _ nt _ hf,hg.defers,hf.defers,u_f,u_f];exact hN.2
     ·exact hN.elim
    | exit id=>obtain⟨ms2,g,hg,hk2,hN⟩:=hp;exact⟨ms2,g,hg,⟨fun hh=>hrf' hh,hxx.trans hk2.2⟩,hN⟩
    | _=>exact hp
  ·exact h.elim
 | .goto _,_,_,_,_,_,_,_,_,_,_,h=>h.elim
 | .refuse _,_,_,_,_,_,_,_,_,_,_,h=>h.elim
 | .scope _,_,_,_,_,_,_,_,_,_,_,h=>h.elim
 | .rangeFunc _ _ _ _,_,_,_,_,_,_,_,_,_,_,h=>h.elim
theorem G_j (hG:G.Ok P) {nt:Nat} (hm:P.follows .mixedOrders=true):∀(c:Code) {ro:Option Nat} {n:Nat} {rd:Bool} {ms:List Nat} {e:Env} {w:World} {N:List Nat→Env→World→Prop} {X:Nat→List Nat→Env→World→Prop} {R:List Nat→Env→World→Prop} {a:Act},
  (rd=false→ro=none)→Ok (mks ms) nt e a→T P G nt rd c ms e w N X R →
  c.wpIn (FW ro) n P (r_h nt (fun ms' f w=>Kept c ms e ms' f∧N ms' f w) (fun i ms' f w=>Kept c ms e ms' f∧X i ms' f w) R) a w
 | .skip,ro,n,rd,ms,e,w,N,X,R,a,hro,ha,h=>wpIn_skip ⟨ms,e,ha,⟨fun _=>rfl,.refl _ e⟩,h⟩
 | .label l,ro,n,rd,ms,e,w,N,X,R,a,hro,ha,h=>wpIn_label ⟨ms,e,ha,⟨fun _=>rfl,.refl _ e⟩,h⟩
 | .exit id,ro,n,rd,ms,e,w,N,X,R,a,hro,ha,h=>wpIn_exit ⟨ms,e,ha,⟨fun _=>rfl,.refl _ e⟩,h⟩
 | .ret,ro,n,rd,ms,e,w,N,X,R,a,hro,ha,h=>wpIn_ret ⟨ms,e,ha,h⟩
 | .region id ops d,ro,n,rd,ms,e,w,N,X,R,a,hro,ha,h=>by
  have hd:=(r_c (.region id ops d) []).2;cases d with
  | false=>exact wpIn_region_list (x_f hG (fun o ho=>hd o (by simpa using ho)) (.refl _ e) ha h)
  | true =>
   simp only [T] at h;split at h
   ·exact h.elim
   ·split at h
    ·rename_i hsel hap;obtain rfl:=hro rfl;refine wpIn_wide.2 (Code.wp_mono (Q:=Post (mks ms) nt (fun f w=>Ext (inL (Y_a (.region id ops true) [])) e f∧N ms f w) (fun _ _ _=>False) (fun _ _=>False)) (fun ex a' w' hp=>?_)
      (wp_region_any hm (P_g (X_c hG hsel hd hap (Lists.start ops) (fun k hk=>?_) (Closed.start ops) (.refl _ e) ha h))))
     ·cases ex with
      | normal=>obtain⟨f,hf,hx,hN⟩:=hp;exact⟨ms,f,hf,⟨fun _=>rfl,hx⟩,hN⟩
      | exit id=>obtain⟨_,_,hx⟩:=hp;exact hx.elim
      | ret=>obtain⟨_,_,hx⟩:=hp;exact hx.elim
      | _=>exact hp.elim
     ·rw [show (Array.replicate ops.size false).getD k false=false from by simp only [Array.getD_eq_getD_getElem?,Array.getElem?_replicate];split<;>rfl] at hk;cases hk
    ·exact h.elim
 | .seq x y,ro,n,rd,ms,e,w,N,X,R,a,hro,ha,h=>by
  have plain:T P G nt rd x ms e w (fun ms e w=>T P G nt rd y ms e w N X R) X R→(Code.seq x y).wpIn (FW ro) n P (r_h nt (fun ms' f w=>Kept (.seq x y) ms e ms' f∧N ms' f w) (fun i ms' f w=>Kept (.seq x y) ms e ms' f∧X i ms' f w) R) a w:=by
   intro h;refine wpIn_seq (wpIn_mono (G_j hG hm x hro ha h) (fun ex a' w' hp=>?_));cases ex with
   | normal =>
    obtain⟨ms1,f,hf,hk,hN⟩:=hp;refine wpIn_mono (G_j hG hm y hro hf hN) (fun ex a'' w'' hp=>?_);cases ex with
    | normal=>obtain⟨ms2,g,hg,hk2,hN⟩:=hp;exact⟨ms2,g,hg,hk.seq2 hk2,hN⟩
    | exit id=>obtain⟨ms2,g,hg,hk2,hN⟩:=hp;exact⟨ms2,g,hg,hk.seq2 hk2,hN⟩
    | ret=>exact hp
    | goto l=>exact hp
    | panic c=>exact hp
    | outgrown=>exact hp
   | exit id=>obtain⟨ms1,f,hf,hk,hN⟩:=hp;exact⟨ms1,f,hf,hk.seq1,hN⟩
   | ret=>exact hp
   | goto l=>exact hp
   | panic c=>exact hp
   | outgrown=>exact hp
  simp only [T] at h;split at h
  ·obtain⟨L,hL0⟩:∃L,appL (C_a (Y_a x []) e []) (Q_j e (b_d y []) (Y_a y []) (Y_a x []) [])=L:=⟨_,rfl⟩;have hLin:∀k t,(k,t)∈L→inL (Y_a x []) k:=by rw [←hL0];exact P_i
   rw [hL0] at h;split at h
   ·rename_i hrf;obtain⟨J,hJ,h⟩:=h;refine wpIn_seq (wpIn_mono (G_j hG hm x hro ha h) (fun ex a' w' hp=>?_));cases ex with
    | normal =>
     obtain⟨ms1,f,hf,hk,hN⟩:=hp;obtain rfl:=hk.1 hrf;split at hN
     ·rename_i s hs;have h2:=AsAll.elim (hJ s w' hN);have hok:=hf.rejoin hs hk.2;have hkk:Kept x ms1 e ms1 (h_ L s (M_a (Y_a x []) e)):=⟨fun _=>rfl,Ext.rejoinL hLin⟩;refine wpIn_mono (G_j hG hm y hro hok h2) (fun ex a'' w'' hp=>?_);cases ex with
      | normal=>obtain⟨ms2,g,hg,hk2,hN⟩:=hp;exact⟨ms2,g,hg,hkk.seq2 hk2,hN⟩
      | exit id=>obtain⟨ms2,g,hg,hk2,hN⟩:=hp;exact⟨ms2,g,hg,hkk.seq2 hk2,hN⟩
      | ret=>exact hp
      | goto l=>exact hp
      | panic c=>exact hp
      | outgrown=>exact hp
     ·exact hN.elim
    | exit id=>obtain⟨ms1,f,hf,hk,hN⟩:=hp;exact⟨ms1,f,hf,hk.seq1,hN⟩
    | ret=>exact hp
    | goto l=>exact hp
    | panic c=>exact hp
    | outgrown=>exact hp
   ·rename_i hrf;obtain⟨J,hJ,h⟩:=h;refine wpIn_seq (wpIn_mono (G_j hG hm x hro ha h) (fun ex a' w' hp=>?_));cases ex with
    | normal =>
     obtain⟨ms1,f,hf,hk,hN⟩:=hp;split at hN
     ·rename_i s hs;obtain⟨ms1',s',he,h2⟩:=hJ _ w' hN;injection he with he1 he2
      have:=z_f he1;subst this;subst he2;have h2:=AsAll.elim h2;have hok:=hf.rejoin hs hk.2;have hkk:Kept x ms e ms1 (h_ L s (M_a (Y_a x []) e)):=⟨hk.1,Ext.rejoinL hLin⟩;refine wpIn_mono (G_j hG hm y hro hok h2) (fun ex a'' w'' hp=>?_);cases ex with
      | normal=>obtain⟨ms2,g,hg,hk2,hN⟩:=hp;exact⟨ms2,g,hg,hkk.seq2 hk2,hN⟩
      | exit id=>obtain⟨ms2,g,hg,hk2,hN⟩:=hp;exact⟨ms2,g,hg,hkk.seq2 hk2,hN⟩
      | ret=>exact hp
      | goto l=>exact hp
      | panic c=>exact hp
      | outgrown=>exact hp
     ·exact hN.elim
    | exit id=>obtain⟨ms1,f,hf,hk,hN⟩:=hp;exact⟨ms1,f,hf,hk.seq1,hN⟩
    | ret=>exact hp
    | goto l=>exact hp
    | panic c=>exact hp
    | outgrown=>exact hp
  ·exact plain h
 | .cond c x y,ro,n,rd,ms,e,w,N,X,R,a,hro,ha,h=>by
  simp only [T] at h;split at h
  ·rename_i t hc;have hev:=ha.ev hc;rcases h.elim with ⟨rfl,h⟩|⟨rfl,h⟩
   ·refine wpIn_cond_true hev (wpIn_mono (G_j hG hm x hro ha h) (fun ex a' w' hp=>?_));cases ex with
    | normal=>obtain⟨ms1,f,hf,hk,hN⟩:=hp;exact⟨ms1,f,hf,hk.cond1,hN⟩
    | exit id=>obtain⟨ms1,f,hf,hk,hN⟩:=hp;exact⟨ms1,f,hf,hk.cond1,hN⟩
    | _=>exact hp
   ·refine wpIn_cond_false hev (wpIn_mono (G_j hG hm y hro ha h) (fun ex a' w' hp=>?_));cases ex with
    | normal=>obtain⟨ms1,f,hf,hk,hN⟩:=hp;exact⟨ms1,f,hf,hk.cond2,hN⟩
    | exit id=>obtain⟨ms1,f,hf,hk,hN⟩:=hp;exact⟨ms1,f,hf,hk.cond2,hN⟩
    | _=>exact hp
  ·exact h.elim
 | .block id c,ro,n,rd,ms,e,w,N,X,R,a,hro,ha,h=>by
  simp only [T] at h;refine wpIn_block (wpIn_mono (G_j hG hm c hro ha h) (fun ex a' w' hp=>?_));cases ex with
  | normal=>exact hp
  | exit i =>
   obtain⟨ms1,f,hf,hk,hN⟩:=hp;simp only [Exit.inBlock];split at hN
   ·rename_i hb;have:i=id:=Nat.eq_of_beq_eq_true hb;rw [if_pos (by simp [this])];exact⟨ms1,f,hf,hk,hN⟩
   ·rename_i hb;have:i≠id:=Nat.ne_of_beq_eq_false hb;rw [if_neg (by simpa using this)];exact⟨ms1,f,hf,hk,hN⟩
  | _=>exact hp
 | .loop c,ro,n,rd,ms,e,w,N,X,R,a,hro,ha,h=>by
  simp only [T] at h;split at h
  ·rename_i s0 hs0;split at h
   ·rename_i hrf;obtain⟨I,μ,h0,hr⟩:=h;refine wpIn_loop (fun a' w'=>∃f s,Ok (mks ms) nt f a'∧T_b f (C_a (Y_a c []) e [])=some s∧Ext (inL (Y_a c [])) e f∧I s w')
     (fun a' w'=>μ ((C_a (Y_a c []) e []).map fun p=>a'.tmps.getD p.1 undef) w') ⟨e,s0,ha,hs0,.refl _ e,h0⟩ ?_
    rintro a1 w1 ⟨f,s,hf,hs,hx,hI⟩;have h2:=AsAll.elim (hr s w1 hI);have hok:=hf.rejoin hs hx;refine wpIn_mono (G_j hG hm c hro hok h2) (fun ex a'' w'' hp=>?_);have hxx:Ext (inL (Y_a c [])) e _:=Ext.rejoin (D:=Y_a c []) (e:=e) (s:=s);cases ex with
    | normal =>
     obtain⟨ms2,g,hg,hk2,hN⟩:=hp;obtain rfl:=hk2.1 hrf;split at hN
     ·rename_i s' hs';refine⟨⟨g,s',hg,hs',hxx.trans hk2.2,hN.1⟩,?_⟩;rw [←(O_a hs').2 _ nt _ hg,←(O_a hs).2 _ nt _ hf];exact hN.2
     ·exact hN.elim
    | exit id=>obtain⟨ms2,g,hg,hk2,hN⟩:=hp;exact⟨ms2,g,hg,⟨hk2.1,hxx.trans hk2.2⟩,hN⟩
    | _=>exact hp
   ·rename_i hrf;obtain⟨I,μ,h0,hr⟩:=h;have hrf':∀{p:Prop},u_a (.loop c)=false→p:=by intro p h;simp only [u_a] at h;rw [hrf] at h;cases h
    refine wpIn_loop (fun a' w'=>∃ms' f s,Ok (mks ms') nt f a'∧T_b f (C_a (Y_a c []) e [])=some s∧Ext (inL (Y_a c [])) e f∧I (mkV ms' :: s) w')
     (fun a' w'=>μ (mkV (a'.defers.map tgt) :: (C_a (Y_a c []) e []).map fun p=>a'.tmps.getD p.1 undef) w') ⟨ms,e,s0,ha,hs0,.refl _ e,h0⟩ ?_
    rintro a1 w1 ⟨ms',f,s,hf,hs,hx,hI⟩;obtain⟨ms1',s',he,h2⟩:=hr _ w1 hI;injection he with he1 he2
    have:=z_f he1;subst this;subst he2;have h2:=AsAll.elim h2;have hok:=hf.rejoin hs hx;refine wpIn_mono (G_j hG hm c hro hok h2) (fun ex a'' w'' hp=>?_);have hxx:Ext (inL (Y_a c [])) e _:=Ext.rejoin (D:=Y_a c []) (e:=e) (s:=s);cases ex with
    | normal =>
     obtain⟨ms2,g,hg,hk2,hN⟩:=hp;split at hN
     ·rename_i s' hs';refine⟨⟨ms2,g,s',hg,hs',hxx.trans hk2.2,hN.1⟩,?_⟩;rw [←(O_a hs').2 _ nt _ hg,←(O_a hs).2 _ nt _ hf,hg.defers,hf.defers,u_f,u_f];exact hN.2
     ·exact hN.elim
    | exit id=>obtain⟨ms2,g,hg,hk2,hN⟩:=hp;exact⟨ms2,g,hg,⟨fun hh=>hrf' hh,hxx.trans hk2.2⟩,hN⟩
    | _=>exact hp
  ·exact h.elim
 | .scope c,ro,n,rd,ms,e,w,N,X,R,a,hro,ha,h=>by
  simp only [T] at h;split at h
  ·exact h.elim
  ·obtain rfl:=hro rfl;refine wpIn_wide.2 (wp_scope_straight (wpIn_wide.1 (wpIn_mono (G_j hG hm c (n:=n) hro ha h) (fun ex a' w' hp=>?_))));cases ex<;>exact hp
 | .rangeFunc g ps az body,ro,n,rd,ms,e,w,N,X,R,a,hro,ha,h=>by
  simp only [T] at h;split at h
  ·exact h.elim
  ·obtain rfl:=hro rfl;split at h
   ·rename_i v hv;refine Z_g hG ha hv (fun c l n ms e w N X R a hc hok hT=>?_) (fun D w' hN=>⟨D :: ms,e,⟨by simp only [ha.defers];rfl,ha.size,ha.get⟩,⟨fun hh=>(by simp only [u_a] at hh;cases hh),.refl _ e⟩,hN⟩) h;rcases hc with rfl|rfl
    ·exact u_d hG hm _ hok hT
    ·exact u_d hG hm _ hok hT
   ·exact h.elim
 | .goto _,_,_,_,_,_,_,_,_,_,_,_,_,h=>h.elim
 | .refuse _,_,_,_,_,_,_,_,_,_,_,_,_,h=>h.elim
end Go.Sh
namespace Go.Sh
variable {P:Program} {G:Tab} {M:List Deferred}
def T_f {α:Type}:List (Nat×α)→Nat→Option α
 | [],_=>none
 | (k,v) :: r,n=>match Nat.beq k n with|true=>some v|false=>T_f r n
def GoodU (P:Program):List (Nat×TypeDesc)→Prop
 | []=>True
 | (k,v) :: r=>P.underlying k=some v∧GoodU P r
def GoodS (P:Program):List (Nat×Nat)→Prop
 | []=>True
 | (k,v) :: r=>k_c P k=some v∧GoodS P r
def GoodZ (P:Program):List (Nat×Value)→Prop
 | []=>True
 | (k,v) :: r=>d_e P k=some v∧GoodZ P r
def GoodF (P:Program):List Nat→Prop
 | []=>True
 | k :: r=>G_c P k=true∧GoodF P r
theorem lookU:∀{l:List (Nat×TypeDesc)} {n:Nat} {v:TypeDesc},GoodU P l→T_f l n=some v→P.underlying n=some v
 | [],n,v,_,h=>by cases h
 | (k,u) :: r,n,v,hg,h=>by
  simp only [T_f] at h;split at h
  ·rename_i hk;have:=Nat.eq_of_beq_eq_true hk;subst this;injection h with h;subst h;exact hg.1
  ·exact lookU hg.2 h
theorem lookS:∀{l:List (Nat×Nat)} {n:Nat} {v:Nat},GoodS P l→T_f l n=some v→k_c P n=some v
 | [],n,v,_,h=>by cases h
 | (k,u) :: r,n,v,hg,h=>by
  simp only [T_f] at h;split at h
  ·rename_i hk;have:=Nat.eq_of_beq_eq_true hk;subst this;injection h with h;subst h;exact hg.1
  ·exact lookS hg.2 h
theorem lookZ:∀{l:List (Nat×Value)} {n:Nat} {v:Value},GoodZ P l→T_f l n=some v→d_e P n=some v
 | [],n,v,_,h=>by cases h
 | (k,u) :: r,n,v,hg,h=>by
  simp only [T_f] at h;split at h
  ·rename_i hk;have:=Nat.eq_of_beq_eq_true hk;subst this;injection h with h;subst h;exact hg.1
  ·exact lookZ hg.2 h
theorem lookF:∀{l:List Nat} {n:Nat},GoodF P l→N_f l n=true→G_c P n=true
 | [],n,_,h=>by cases h
 | k :: r,n,hg,h=>by
  simp only [N_f] at h;split at h
  ·rename_i hk;have:=Nat.eq_of_beq_eq_true hk;subst this;exact hg.1
  ·exact lookF hg.2 h
def tabOf (u:List (Nat×TypeDesc)) (s:List (Nat×Nat)) (z:List (Nat×Value)) (f:List Nat):Tab:=⟨T_f u,T_f s,T_f z,N_f f,[]⟩
theorem tabOf_ok {u:List (Nat×TypeDesc)} {s:List (Nat×Nat)} {z:List (Nat×Value)} {f:List Nat} (hu:GoodU P u) (hs:GoodS P s) (hz:GoodZ P z) (hf:GoodF P f):(tabOf u s z f).Ok P :=
 ⟨fun _ _ h=>lookU hu h,fun _ _ h=>lookS hs h,fun _ _ h=>lookZ hz h,fun _ h=>lookF hf h⟩
def resL (G:Tab) (e:Env) (w:World):List ResultVar→(List Value→Prop)→Prop
 | [],K=>K []
 | .tmp t :: r,K=>match get e t with|some v=>resL G e w r fun l=>K (v :: l)|none=>False
 | .cell a t :: r,K=>match get e a with
  | some (.pointer b)=>NilP b fun ad=>ld G t ad w fun v _=>resL G e w r fun l=>K (v :: l)
  | _=>False
def one (l:List Value):Value:=match l with | [v]=>v|l=>.tuple l.toArray
def a_i:Nat→List Value→Env
 | _,[]=>[]
 | n,v :: r=>(n,v) :: a_i (n+1) r
def TakeM (D:Nat) (w:World) (K:World→Prop):Prop:=w.heap[D]?=some (.deferred (some []))∧∀w',Fr (·=D) w w'→w'.heap.size=w.heap.size→K w'
def FinM:List Nat→World→(World→Prop)→Prop
 | [],w,K=>K w
 | D :: r,w,K=>TakeM D w fun w=>FinM r w K
def fin (G:Tab) (fn:Func) (rf:Bool) (Q:Value→World→Prop) (ms:List Nat) (e:Env) (w:World):Prop :=
 match rf with
 | true=>FinM ms w fun w=>resL G e w fn.results.toList fun l=>Q (one l) w
 | false=>match ms with
  | []=>resL G e w fn.results.toList fun l=>Q (one l) w
  | _ :: _=>False
def extO:List Oper→List (Nat×Nat×TypeId)→List (Nat×Nat×TypeId)
 | [],acc=>acc
 | o :: r,acc=>match o.op with
  | .extract (.tmp d) i=>(d,i,o.type) :: extO r acc
  | _=>extO r acc
def extC:Code→List (Nat×Nat×TypeId)→List (Nat×Nat×TypeId)
 | .region _ ops _,acc=>extO ops.toList acc
 | .seq a b,acc=>extC a (extC b acc)
 | .cond _ a b,acc=>extC a (extC b acc)
 | .block _ c,acc=>extC c acc
 | .loop c,acc=>extC c acc
 | .scope c,acc=>extC c acc
 | _,acc=>acc
def V_j (G:Tab) (l:List (Nat×Nat×TypeId)):Tab:=⟨G.und,G.siz,G.zer,G.fn,l⟩
theorem l_i (hG:G.Ok P) (l:List (Nat×Nat×TypeId)):(V_j G l).Ok P:=⟨hG.und,hG.siz,hG.zer,hG.fn⟩
def Fn (P:Program) (G:Tab) (fn:Func) (args:List Value) (w:World) (Q:Value→World→Prop):Prop :=
 match fn.body,Nat.ble args.length fn.ntmps with
 | some c,true=>T P (V_j G (extC c [])) fn.ntmps false c [] (a_i 0 args) w (fin G fn (u_a c) Q) (fun _ _ _ _=>False) (fin G fn (u_a c) Q)
 | _,_=>False
def m_g (tmps:Array Value) (r:ResultVar):Sem Value :=
 match r with
 | .tmp t=>pure (tmps.getD t undef)
 | .cell a t=>do loadVar t (←asAddr (tmps.getD a undef))
theorem t_i (fn:Func) (tmps:Array Value):results fn tmps=(do let vs ←fn.results.mapM (m_g tmps);pure (if h:vs.size=1 then vs[0] else .tuple vs)):=by
 unfold results;have:(fun (x:ResultVar)=>(match x with
  | .tmp t=>pure (tmps.getD t undef)
  | .cell a t=>do loadVar t (←asAddr (tmps.getD a undef)):Sem Value))=m_g tmps:=by
  funext x;cases x<;>rfl
 rw [←this]
 rfl
theorem b_h (hG:G.Ok P) {nt:Nat} {e:Env} {w:World} {a:Act} (ha:Ok M nt e a):∀{l:List ResultVar} {K:List Value→Prop},resL G e w l K →
  ∃vs,K vs∧vs.length=l.length∧(l.mapM (m_g a.tmps)).run P w=.ok vs w
 | [],K,h=>⟨[],h,rfl,rfl⟩
 | .tmp t :: r,K,h=>by
  simp only [resL] at h;split at h
  ·rename_i v hv;obtain⟨vs,hK,hlen,hr⟩:=b_h hG ha h;have h1:a.tmps.getD t undef=v:=by rw [Array.getD_eq_getD_getElem?,ha.get t v hv];rfl
   exact⟨v :: vs,hK,by simp [hlen],by simp only [List.mapM_cons,Sem.run_bind,Sem.run_pure,Result.andThen_ok,m_g,h1,hr]⟩
  ·exact h.elim
 | .cell x t :: r,K,h=>by
  simp only [resL] at h;split at h
  ·rename_i b hv;obtain⟨ad,rfl,hn⟩:=NilP.out h;obtain⟨v,s,hK,hs,hl⟩:=ld_ok hG hn;obtain⟨vs,hK,hlen,hr⟩:=b_h hG ha hK;have h1:a.tmps.getD x undef=.pointer (some ad):=by rw [Array.getD_eq_getD_getElem?,ha.get x _ hv];rfl
   exact⟨v :: vs,hK,by simp [hlen],by
    have h2:asAddr (.pointer (some ad))=pure ad:=rfl;simp only [List.mapM_cons,Sem.run_bind,Sem.run_pure,Result.andThen_ok,m_g,h1,h2,hl w hs,hr]⟩
  ·exact h.elim
theorem m_f:∀{l:List Value} {n k:Nat} {v:Value},get (a_i n l) k=some v→n≤k∧l[k-n]?=some v
 | [],n,k,v,h=>by cases h
 | u :: r,n,k,v,h=>by
  simp only [a_i,get] at h;split at h
  ·rename_i hk;have:n=k:=Nat.eq_of_beq_eq_true hk;subst this;injection h with h;subst h;simp
  ·rename_i hk;have hne:n≠k:=Nat.ne_of_beq_eq_false hk;obtain⟨h1,h2⟩:=m_f h;refine⟨by omega,?_⟩;have:k-n=(k-(n+1))+1:=by omega
   rw [this];simpa using h2
theorem v_e (hG:G.Ok P) {nt:Nat} {fn:Func} {Q:Value→World→Prop} {a:Act}:∀{ms:List Nat} {e:Env} {w:World},Ok (mks ms) nt e a→(FinM ms w fun w=>resL G e w fn.results.toList fun l=>Q (one l) w) →
  LeavesInM (FW none) 0 P fn a.tmps (fun e w'=>∃v,e=.returned v∧Q v w') (mks ms) .returning w
 | [],e,w,ha,h=>by
  obtain⟨vs,hK,hlen,hr⟩:=b_h hG ha h;show LeavesIn (FW none) 0 P fn a.tmps _ [] .returning w;refine⟨one vs,?_,_,rfl,hK⟩;rw [t_i,←Array.toArray_toList (xs:=fn.results)];simp only [List.mapM_toArray,Sem.run_bind,Sem.run_map,hr,Result.andThen_ok];cases vs with
  | nil=>rfl
  | cons v r=>cases r with
   | nil=>rfl
   | cons u r=>simp [one]
 | D :: ms,e,w,ha,h=>by
  obtain⟨hD,h⟩:=h;have ha':Ok (mks ms) nt e { a with defers:=mks ms }:=⟨rfl,ha.size,ha.get⟩;refine⟨by simp,.inl ⟨D,w.putObj D (.deferred none),rfl,run_takeDeferred hD,?_⟩⟩;exact v_e hG (a:={ a with defers:=mks ms }) ha' (h (w.putObj D (.deferred none)) O_d (by simp))
theorem W_i (hG:G.Ok P) {nt:Nat} {fn:Func} {rf:Bool} {Q:Value→World→Prop} {a:Act} {ms:List Nat} {e:Env} {w:World} (ha:Ok (mks ms) nt e a) (h:fin G fn rf Q ms e w) :
  LeavesInM (FW none) 0 P fn a.tmps (fun e w'=>∃v,e=.returned v∧Q v w') (mks ms) .returning w:=by
 unfold fin at h;split at h
 ·exact v_e hG ha h
 ·split at h
  ·exact v_e hG ha h
  ·exact h.elim
theorem q_h (hG:G.Ok P) {f:FuncId} {fn:Func} {args:List Value} {w:World} {Q:Value→World→Prop} (hf:P.funcs[f]?=some fn) (hm:P.follows .mixedOrders=true)
  (h:Fn P G fn args w Q):Calls P f args.toArray w fun e w'=>∃v,e=.returned v∧Q v w':=by
 unfold Fn at h;split at h
 ·rename_i c hb hle;have hle':args.length≤fn.ntmps:=by simpa using hle
  refine callsIn_wide.1 (callsIn_of_wp_marks (F:=FW none) (n:=0) hf hb trivial (wpIn_mono (G_j (l_i hG (extC c [])) hm c (rd:=false) (a:=⟨args.toArray++Array.replicate (fn.ntmps-args.toArray.size) undef,[]⟩) (fun _=>rfl) ⟨rfl,by simp;omega,fun n v hn=>?_⟩ h) (fun ex a w' hp=>?_)))
  ·obtain⟨_,h2⟩:=m_f hn;have hlt:n<args.length:=by
    rcases Nat.lt_or_ge n args.length with h|h
    ·exact h
    ·simp [h] at h2
   rw [Array.getElem?_append_left (by simpa using hlt)];simpa using h2
  ·cases ex with
   | normal =>
    obtain⟨ms,e,he,_,hN⟩:=hp;show LeavesInM _ _ _ _ a.tmps _ a.defers _ _;rw [he.defers];exact W_i hG he hN
   | ret =>
    obtain⟨ms,e,he,hN⟩:=hp;show LeavesInM _ _ _ _ a.tmps _ a.defers _ _;rw [he.defers];exact W_i hG he hN
   | exit id=>obtain⟨ms,e,_,_,hx⟩:=hp;exact hx.elim
   | _=>exact hp.elim
 ·exact h.elim
end Go.Sh
namespace Go.Sh
section az
variable {K:Value→Prop}
theorem AsI_int {k:IntKind} {x:Int} {K:Int→Prop}:AsI k (.int k x) K↔K x:=⟨fun ⟨y,h,hk⟩=>by injection h with _ h;subst h;exact hk,fun h=>⟨x,rfl,h⟩⟩
theorem AsB_bool {x:Bool} {K:Bool→Prop}:AsB (.bool x) K↔K x:=⟨fun ⟨y,h,hk⟩=>by injection h with h;subst h;exact hk,fun h=>⟨x,rfl,h⟩⟩
theorem AsP_pointer {x:Option Addr} {K:Option Addr→Prop}:AsP (.pointer x) K↔K x:=⟨fun ⟨y,h,hk⟩=>by injection h with h;subst h;exact hk,fun h=>⟨x,rfl,h⟩⟩
theorem AsSl_slice {a:Option Addr} {n c:Nat} {K:Option Addr→Nat→Nat→Prop}:t_ (.slice a n c) K↔K a n c :=
 ⟨fun ⟨_,_,_,h,hk⟩=>by injection h with h1 h2 h3;subst h1 h2 h3;exact hk,fun h=>⟨a,n,c,rfl,h⟩⟩
theorem AsM_map {x:Option Nat} {K:Option Nat→Prop}:AsM (.map x) K↔K x:=⟨fun ⟨y,h,hk⟩=>by injection h with h;subst h;exact hk,fun h=>⟨x,rfl,h⟩⟩
theorem UnC_cons {v:Value} {s:List Value} {K:Value→List Value→Prop}:UnC (v :: s) K↔K v s :=
 ⟨fun ⟨_,_,h,hk⟩=>by injection h with h1 h2;subst h1 h2;exact hk,fun h=>⟨v,s,rfl,h⟩⟩
theorem UnN_nil {K:Prop}:UnN [] K↔K:=⟨fun h=>h.2,fun h=>⟨rfl,h⟩⟩
theorem AsAgg_agg {l:List Value} {K:List Value→Prop}:V_ (.agg l.toArray) K↔K l :=
 ⟨fun ⟨_,h,hk⟩=>by injection h with h;have:=congrArg Array.toList h;simp at this;subst this;exact hk,fun h=>⟨l,rfl,h⟩⟩
theorem F_ {l:List Value} {K:List Value→Prop}:I_ (.tuple l.toArray) K↔K l :=
 ⟨fun ⟨_,h,hk⟩=>by injection h with h;have:=congrArg Array.toList h;simp at this;subst this;exact hk,fun h=>⟨l,rfl,h⟩⟩
theorem K_ {x y:Prop}:BIf true x y↔x:=Iff.rfl
theorem E_ {x y:Prop}:BIf false x y↔y:=Iff.rfl
theorem G_ {a:Addr} {K:Addr→Prop}:NilP (some a) K↔K a:=Iff.rfl
theorem H_ {b o n:Nat}:at0 ⟨b,o,none⟩ n=⟨b,o+n,none⟩:=by cases n<;>rfl
theorem NZ_iff {b:Int} {K:Prop}:NZ b K↔b≠0∧K:=⟨NZ.out,fun h=>NZ.mk h.1 h.2⟩
end az
def Has (w:World) (b:Nat) (l:List Value):Prop:=∃t,w.heap[b]?=some (.cells l.toArray t (0,0))
structure Qt (w w':World):Prop where
 heap:w'.heap=w.heap
 os:w'.os=w.os
 output:w'.output=w.output
 tape:w'.tape=w.tape
theorem Qt.refl (w:World):Qt w w:=⟨rfl,rfl,rfl,rfl⟩
theorem Qt.trans {a b c:World} (h:Qt a b) (k:Qt b c):Qt a c:=⟨k.heap.trans h.heap,k.os.trans h.os,k.output.trans h.output,k.tape.trans h.tape⟩
theorem Qt.drew {a b:World} (h:Qt a b):Qt a b.drew:=⟨h.heap,h.os,h.output,h.tape⟩
theorem Fr.refl (S:Nat→Prop) (w:World):Fr S w w:=⟨rfl,rfl,rfl,Nat.le_refl _,fun _ _ _=>rfl⟩
theorem Qt.fr {S:Nat→Prop} {w w':World} (h:Qt w w'):Fr S w w':=⟨h.os,h.output,h.tape,by rw [h.heap];exact Nat.le_refl _,fun _ _ _=>by rw [h.heap]⟩
theorem Fr.mono {S S':Nat→Prop} {w w':World} (h:Fr S w w') (hs:∀b,b<w.heap.size→S b→S' b):Fr S' w w' :=
 ⟨h.os,h.output,h.tape,h.size,fun b hb hn=>h.block b hb fun hS=>hn (hs b hb hS)⟩
theorem Fr.trans {S:Nat→Prop} {a b c:World} (h:Fr S a b) (k:Fr S b c):Fr S a c :=
 ⟨k.os.trans h.os,k.output.trans h.output,k.tape.trans h.tape,Nat.le_trans h.size k.size,fun i hi hn=>(k.block i (Nat.lt_of_lt_of_le hi h.size) hn).trans (h.block i hi hn)⟩
theorem Has.lt {w:World} {b:Nat} {l:List Value} (h:Has w b l):b<w.heap.size:=by
 obtain⟨t,h⟩:=h;exact (Array.getElem?_eq_some_iff.1 h).1
theorem Has.qt {w w':World} {b:Nat} {l:List Value} (h:Has w b l) (q:Qt w w'):Has w' b l:=by
 obtain⟨t,h⟩:=h;exact⟨t,by rw [q.heap];exact h⟩
theorem Has.fr {S:Nat→Prop} {w w':World} {b:Nat} {l:List Value} (h:Has w b l) (f:Fr S w w') (hS:¬S b):Has w' b l:=by
 have hl:=h.lt;obtain⟨t,h⟩:=h;exact⟨t,by rw [f.block b hl hS];exact h⟩
theorem Has.drew {w:World} {b:Nat} {l:List Value} (h:Has w b l):Has w.drew b l:=h
theorem Has.uniq {w:World} {b:Nat} {l l':List Value} (h:Has w b l) (h':Has w b l'):l=l':=by
 obtain⟨t,h⟩:=h;obtain⟨t',h'⟩:=h';rw [h] at h';injection h' with h';injection h' with h1 h2 h3
 have:=congrArg Array.toList h1;simpa using this
theorem Has.cell {w:World} {b o:Nat} {l:List Value} (h:Has w b l):w.cell? ⟨b,o,none⟩=l[o]?:=by
 obtain⟨t,h⟩:=h;simp [World.cell?,h]
theorem Has.frozen {w:World} {b o:Nat} {l:List Value} (h:Has w b l):w.frozen? ⟨b,o,none⟩=false:=by
 obtain⟨t,h⟩:=h;simp [World.frozen?,h]
theorem Has.ld {w:World} {b o:Nat} {l:List Value} {v:Value} {K:Value→Prop} (h:Has w b l) (hv:l[o]?=some v) (k:K v):Ld w ⟨b,o,none⟩ K:=⟨v,by rw [h.cell];exact hv,k⟩
theorem Has.ld_iff {w:World} {b:Nat} {l:List Value} (h:Has w b l) {o:Nat} {K:Value→Prop}:Ld w ⟨b,o,none⟩ K↔∃v,l[o]?=some v∧K v:=by
 unfold Ld;rw [h.cell]
theorem I_e (w:World) (a:Addr) (u:Value) (k:Nat) (h:k≠a.block):(w.setCell a u).heap[k]?=w.heap[k]?:=by
 simp only [World.setCell,Array.getElem?_modify];rw [if_neg (by omega)]
theorem P_b (w:World) (a:Addr) (u:Value):(w.setCell a u).heap.size=w.heap.size:=by simp [World.setCell]
theorem Has.set {w:World} {b o:Nat} {l:List Value} {v:Value} (h:Has w b l):Has (w.setCell ⟨b,o,none⟩ v) b (l.set o v):=by
 obtain⟨t,h⟩:=h;refine⟨t,?_⟩;simp only [World.setCell,Array.getElem?_modify,h];simp
theorem Has.st {w:World} {b o:Nat} {l:List Value} {v:Value} {K:World→Prop} (h:Has w b l) (ho:o<l.length) (h1:v.oneCell'=true)
  (k:∀w',Has w' b (l.set o v)→Fr (·=b) w w'→w'.heap.size=w.heap.size→K w'):St w ⟨b,o,none⟩ v K :=
 ⟨⟨l[o],by rw [h.cell];simp [ho]⟩,h.frozen,h1,k _ h.set ⟨rfl,rfl,rfl,by rw [P_b];exact Nat.le_refl _,fun k _ hk=>I_e _ _ _ _ hk⟩ (P_b _ _ _)⟩
theorem New.mk {w:World} {cells:Array Value} {t:TypeId} {K:Addr→World→Prop}
  (k:∀w',Has w' w.heap.size cells.toList→Fr (fun _=>False) w w'→w'.heap.size=w.heap.size+1→K ⟨w.heap.size,0,none⟩ w'):New w cells t K:=by
 refine k _ ⟨t,?_⟩ ⟨rfl,rfl,rfl,by simp,fun b hb _=>?_⟩ (by simp)
 ·show (w.heap.push _)[w.heap.size]?=_;simp
 ·show (w.heap.push _)[b]?=_;rw [Array.getElem?_push,if_neg (by omega)]
theorem Fr.drew {S:Nat→Prop} {a b:World} (h:Fr S a b):Fr S a b.drew:=⟨h.os,h.output,h.tape,h.size,h.block⟩
theorem Fr.of_drew {S:Nat→Prop} {a b:World} (h:Fr S a.drew b):Fr S a b:=⟨h.os,h.output,h.tape,h.size,h.block⟩
theorem Qt.of_drew {a b:World} (h:Qt a.drew b):Qt a b:=⟨h.heap,h.os,h.output,h.tape⟩
def Ret (P:Program) (f:FuncId) (args:Array Value) (w:World) (R:Value→World→Prop):Prop:=Calls P f args w fun e w'=>∃v,e=.returned v∧R v w'
theorem Ret.use {P:Program} {f:FuncId} {args:Array Value} {w:World} {R K:Value→World→Prop} (h:Ret P f args w R) (k:∀v w',R v w'→K v w'):A_ P f args w K :=
 Calls.mono h fun e w' ⟨v,he,hv⟩=>⟨v,he,k v w' hv⟩
theorem Ret.mono {P:Program} {f:FuncId} {args:Array Value} {w:World} {R K:Value→World→Prop} (h:Ret P f args w R) (k:∀v w',R v w'→K v w'):Ret P f args w K :=
 Calls.mono h fun e w' ⟨v,he,hv⟩=>⟨v,he,k v w' hv⟩
end Go.Sh
set_option maxRecDepth 100000
namespace Go.Proofs.YtmgjicnipgdjhaaGreatDoor
open Go Go.Sh
open Go.IntKind (i64 u64 u32)
noncomputable abbrev prog:Program:=Go.Proofs.Tryz.prog
theorem mixed:prog.follows .mixedOrders=true:=by kernel_rfl
def fd_ (n : String) (t o b : Nat) (k : String := "") : Field := { name := n, type := t, offset := o, embedded := false, tag := "", pkgPath := k, byteOffset := b }
def undL:List (Nat×TypeDesc):=[(0,Go.TypeDesc.tuple #[]),
 (1,Go.TypeDesc.func #[] #[] false),
 (3,Go.TypeDesc.int (Go.IntKind.i64)),
 (4,Go.TypeDesc.bool),
 (5,Go.TypeDesc.int (Go.IntKind.u8)),
 (9,Go.TypeDesc.string),
 (20,Go.TypeDesc.interface #[]),
 (23, Go.TypeDesc.struct #[fd_ "Frames" 3 0 0, fd_ "I" 3 1 8, fd_ "D" 3 2 16, fd_ "Main" 3 3 24, fd_ "Asids" 3 4 32, fd_ "N" 3 5 40]),
 (25, Go.TypeDesc.struct #[fd_ "Config" 23 0 0, fd_ "First" 3 6 48, fd_ "N" 3 7 56, fd_ "Count" 3 8 64]),
 (26,Go.TypeDesc.slice 42),
 (27,Go.TypeDesc.pointer 49),
 (30,Go.TypeDesc.int (Go.IntKind.u64)),
 (31,Go.TypeDesc.tuple #[30,3]),
 (33,Go.TypeDesc.slice 57),
 (34,Go.TypeDesc.slice 35),
 (35,Go.TypeDesc.int (Go.IntKind.u32)),
 (37, Go.TypeDesc.struct #[fd_ "AP" 3 0 0, fd_ "Bits" 35 1 8, fd_ "NG" 4 2 12, fd_ "XN" 4 3 13]),
 (38,Go.TypeDesc.slice 172),
 (40, Go.TypeDesc.struct #[fd_ "Kind" 3 0 0, fd_ "VA" 35 1 8, fd_ "Bytes" 3 2 16, fd_ "Value" 35 3 24, fd_ "Priv" 4 4 28]),
 (42, Go.TypeDesc.struct #[fd_ "Kind" 3 0 0, fd_ "Root" 3 1 8, fd_ "Asid" 3 2 16, fd_ "List" 33 3 24, fd_ "Vas" 34 4 48, fd_ "Leaf" 37 5 72, fd_ "Noise" 38 9 88, fd_ "Access" 40 10 112, fd_ "N" 3 15 144, fd_ "Align" 3 16 152]),
 (43,Go.TypeDesc.slice 30),
 (44,Go.TypeDesc.pointer 167),
 (45,Go.TypeDesc.pointer 145),
 (46,Go.TypeDesc.pointer 124),
 (47,Go.TypeDesc.slice 68),
 (49, Go.TypeDesc.struct #[fd_ "m" 44 0 0 "atlas/atlaslaw14", fd_ "p" 45 1 8 "atlas/atlaslaw14", fd_ "e" 46 2 16 "atlas/atlaslaw14", fd_ "n" 3 3 24 "atlas/atlaslaw14", fd_ "taken" 47 4 32 "atlas/atlaslaw14"]),
 (52, Go.TypeDesc.struct #[fd_ "On" 4 0 0, fd_ "TRE" 4 1 1, fd_ "AFE" 4 2 2, fd_ "N" 3 3 8, fd_ "PD0" 4 4 16, fd_ "PD1" 4 5 17, fd_ "Base0" 30 6 24, fd_ "Base1" 30 7 32, fd_ "DACR" 35 8 40, fd_ "PRRR" 35 9 44, fd_ "NMRR" 35 10 48, fd_ "Asid" 3 11 56]),
 (53,Go.TypeDesc.func #[127] #[] false),
 (54,Go.TypeDesc.func #[127] #[] false),
 (57, Go.TypeDesc.struct #[fd_ "Size" 3 0 0, fd_ "VA" 35 1 8, fd_ "PA" 30 2 16, fd_ "Domain" 3 3 24, fd_ "Leaf" 37 4 32]),
 (63,Go.TypeDesc.int (Go.IntKind.i64)),
 (68, Go.TypeDesc.struct #[fd_ "First" 3 0 0, fd_ "Count" 3 1 8]),
 (70,Go.TypeDesc.slice 3),
 (76,Go.TypeDesc.int (Go.IntKind.u64)),
 (78,Go.TypeDesc.slice 112),
 (80,Go.TypeDesc.slice 33),
 (82, Go.TypeDesc.struct #[fd_ "roots" 43 0 0 "atlas/atlaslaw14", fd_ "blocks" 80 1 24 "atlas/atlaslaw14", fd_ "tables" 70 2 48 "atlas/atlaslaw14", fd_ "runs" 47 3 72 "atlas/atlaslaw14"]),
 (87, Go.TypeDesc.struct #[fd_ "Kind" 3 0 0, fd_ "Level" 3 1 8, fd_ "Domain" 3 2 16]),
 (89, Go.TypeDesc.struct #[fd_ "Value" 35 0 0, fd_ "Fault" 87 1 8]),
 (90,Go.TypeDesc.tuple #[89,63]),
 (95,Go.TypeDesc.tuple #[35,63]),
 (99,Go.TypeDesc.tuple #[44,63]),
 (101,Go.TypeDesc.tuple #[45,63]),
 (103,Go.TypeDesc.tuple #[46,63]),
 (105,Go.TypeDesc.tuple #[30,63]),
 (108,Go.TypeDesc.tuple #[57,4]),
 (112, Go.TypeDesc.struct #[fd_ "Kind" 3 0 0, fd_ "Addr" 30 1 8, fd_ "Value" 35 2 16, fd_ "Dirty" 3 3 24]),
 (114,Go.TypeDesc.tuple #[3,63]),
 (117,Go.TypeDesc.func #[203] #[] false),
 (118,Go.TypeDesc.func #[203] #[] false),
 (120,Go.TypeDesc.map 30 121),
 (121,Go.TypeDesc.pointer 133),
 (122,Go.TypeDesc.pointer 219),
 (124, Go.TypeDesc.struct #[fd_ "m" 44 0 0 "atlas/tables", fd_ "p" 45 1 8 "atlas/tables", fd_ "s" 122 2 16 "atlas/tables", fd_ "n" 3 3 24 "atlas/tables", fd_ "roots" 120 4 32 "atlas/tables"]),
 (126, Go.TypeDesc.interface #[("Word", 96)]),
 (127,Go.TypeDesc.func #[57] #[4] false),
 (129,Go.TypeDesc.tuple #[121,4]),
 (131,Go.TypeDesc.map 35 3),
 (133, Go.TypeDesc.struct #[fd_ "first" 3 0 0 "atlas/tables", fd_ "count" 3 1 8 "atlas/tables", fd_ "blocks" 33 2 16 "atlas/tables", fd_ "tables" 131 3 40 "atlas/tables"]),
 (134,Go.TypeDesc.tuple #[121,33,63]),
 (139,Go.TypeDesc.func #[215] #[] false),
 (140,Go.TypeDesc.func #[215] #[] false),
 (143,Go.TypeDesc.slice 5),
 (145, Go.TypeDesc.struct #[fd_ "first" 3 0 0 "atlas/frames", fd_ "count" 3 1 8 "atlas/frames", fd_ "uses" 143 2 16 "atlas/frames", fd_ "used" 43 3 40 "atlas/frames", fd_ "free" 3 4 64 "atlas/frames"]),
 (147,Go.TypeDesc.map 3 151),
 (148,Go.TypeDesc.tuple #[147,1,63]),
 (151, Go.TypeDesc.struct #[fd_ "table" 3 0 0 "atlas/tables", fd_ "fresh" 4 1 8 "atlas/tables"]),
 (152,Go.TypeDesc.tuple #[151,4]),
 (156, Go.TypeDesc.struct #[fd_ "Kind" 3 0 0, fd_ "Base" 30 1 8, fd_ "Domain" 3 2 16, fd_ "NS" 4 3 24, fd_ "Leaf" 37 4 32]),
 (159,Go.TypeDesc.tuple #[3,4]),
 (162,Go.TypeDesc.pointer 285),
 (163,Go.TypeDesc.pointer 288),
 (164,Go.TypeDesc.pointer 282),
 (165,Go.TypeDesc.pointer 295),
 (167, Go.TypeDesc.struct #[fd_ "mem" 162 0 0 "atlas/machine", fd_ "regs" 163 1 8 "atlas/machine", fd_ "tlbs" 164 2 16 "atlas/machine", fd_ "tracker" 165 3 24 "atlas/machine", fd_ "noise" 38 4 32 "atlas/machine", fd_ "events" 78 5 56 "atlas/machine"]),
 (172, Go.TypeDesc.struct #[fd_ "Act" 3 0 0, fd_ "Which" 3 1 8, fd_ "Slot" 3 2 16, fd_ "VA" 35 3 24, fd_ "Fetch" 4 4 28, fd_ "Pick" 3 5 32, fd_ "MainFirst" 4 6 40]),
 (176, Go.TypeDesc.struct #[fd_ "fault" 87 0 0 "atlas/machine"]),
 (177,Go.TypeDesc.tuple #[30,57]),
 (183,Go.TypeDesc.slice 188),
 (184,Go.TypeDesc.tuple #[183,34]),
 (188, Go.TypeDesc.struct #[fd_ "CRn" 3 0 0, fd_ "Op1" 3 1 8, fd_ "CRm" 3 2 16, fd_ "Op2" 3 3 24]),
 (189,Go.TypeDesc.tuple #[164,63]),
 (191,Go.TypeDesc.tuple #[162,63]),
 (195,Go.TypeDesc.tuple #[122,63]),
 (203,Go.TypeDesc.func #[30] #[4] false),
 (204,Go.TypeDesc.func #[57] #[] false),
 (205,Go.TypeDesc.tuple #[30,4]),
 (207,Go.TypeDesc.tuple #[35,4]),
 (212,Go.TypeDesc.func #[57,57] #[3] false),
 (215,Go.TypeDesc.func #[35] #[4] false),
 (217,Go.TypeDesc.slice 222),
 (219, Go.TypeDesc.struct #[fd_ "pool" 45 0 0 "atlas/frames", fd_ "l" 217 1 8 "atlas/frames"]),
 (220,Go.TypeDesc.array 4 4),
 (222, Go.TypeDesc.struct #[fd_ "frame" 3 0 0 "atlas/frames", fd_ "used" 220 1 8 "atlas/frames"]),
 (225,Go.TypeDesc.slice 1),
 (226,Go.TypeDesc.func #[319] #[] false),
 (227,Go.TypeDesc.func #[319] #[] false),
 (231,Go.TypeDesc.func #[3,3] #[4] false),
 (235,Go.TypeDesc.tuple #[156,63]),
 (238,Go.TypeDesc.func #[57,35] #[3] false),
 (242, Go.TypeDesc.struct #[fd_ "Asid" 3 0 0, fd_ "Trans" 57 1 8]),
 (243,Go.TypeDesc.tuple #[242,3]),
 (245,Go.TypeDesc.tuple #[57,87]),
 (249,Go.TypeDesc.tuple #[176,4]),
 (251,Go.TypeDesc.array 4 5),
 (253,Go.TypeDesc.tuple #[143,63]),
 (258,Go.TypeDesc.slice 338),
 (262, Go.TypeDesc.struct #[fd_ "Kind" 3 0 0, fd_ "Va" 35 1 8, fd_ "Asid" 3 2 16]),
 (264, Go.TypeDesc.struct #[fd_ "Kind" 3 0 0, fd_ "Tlbi" 262 1 8, fd_ "Va" 35 4 32, fd_ "User" 4 5 36, fd_ "Store" 4 6 37]),
 (265,Go.TypeDesc.tuple #[264,63]),
 (271,Go.TypeDesc.pointer 350),
 (272,Go.TypeDesc.array 3 271),
 (273,Go.TypeDesc.array 3 3),
 (274,Go.TypeDesc.tuple #[271,63]),
 (277, Go.TypeDesc.struct #[{ name := "TLB", type := 271, offset := 0, embedded := true, tag := "", pkgPath := "", byteOffset := 0 }]),
 (279, Go.TypeDesc.struct #[{ name := "level", type := 277, offset := 0, embedded := true, tag := "", pkgPath := "atlas/hier", byteOffset := 0 }]),
 (280, Go.TypeDesc.struct #[{ name := "level", type := 277, offset := 0, embedded := true, tag := "", pkgPath := "atlas/hier", byteOffset := 0 }]),
 (282, Go.TypeDesc.struct #[fd_ "i" 279 0 0 "atlas/hier", fd_ "d" 279 1 8 "atlas/hier", fd_ "main" 280 2 16 "atlas/hier"]),
 (283,Go.TypeDesc.map 3 330),
 (285, Go.TypeDesc.struct #[fd_ "frames" 3 0 0 "atlas/ram", fd_ "held" 283 1 8 "atlas/ram"]),
 (286,Go.TypeDesc.array 13 35),
 (288, Go.TypeDesc.struct #[fd_ "held" 286 0 0 "atlas/cp15"]),
 (290, Go.TypeDesc.struct #[fd_ "tuple" 188 0 0 "atlas/cp15", fd_ "kept" 35 4 32 "atlas/cp15", fd_ "start" 35 5 36 "atlas/cp15"]),
 (291,Go.TypeDesc.array 13 290),
 (292,Go.TypeDesc.map 242 334),
 (293,Go.TypeDesc.map 3 52),
 (295, Go.TypeDesc.struct #[fd_ "known" 292 0 0 "atlas/stale", fd_ "judges" 293 1 8 "atlas/stale"]),
 (303,Go.TypeDesc.array 5 3),
 (305,Go.TypeDesc.array 5 76),
 (311,Go.TypeDesc.tuple #[76,76]),
 (315,Go.TypeDesc.pointer 222),
 (319,Go.TypeDesc.func #[3,1] #[4] false),
 (326,Go.TypeDesc.tuple #[57,87,43]),
 (330,Go.TypeDesc.pointer 386),
 (334,Go.TypeDesc.struct #[]),
 (338, Go.TypeDesc.struct #[fd_ "Asid" 3 0 0, fd_ "Block" 242 1 8]),
 (341,Go.TypeDesc.func #[338,338] #[3] false),
 (343,Go.TypeDesc.func #[35] #[264] false),
 (345, Go.TypeDesc.struct #[fd_ "does" 343 0 0 "atlas/cp15", fd_ "user" 4 1 8 "atlas/cp15"]),
 (347,Go.TypeDesc.func #[262,242] #[4] false),
 (348,Go.TypeDesc.slice 379),
 (350, Go.TypeDesc.struct #[fd_ "slots" 348 0 0 "atlas/tlb"]),
 (351,Go.TypeDesc.array 64 5),
 (353,Go.TypeDesc.int (Go.IntKind.i64)),
 (354,Go.TypeDesc.tuple #[3,353]),
 (365,Go.TypeDesc.tuple #[35,35]),
 (367,Go.TypeDesc.tuple #[30,30]),
 (379, Go.TypeDesc.struct #[fd_ "Full" 4 0 0, fd_ "Block" 242 1 8]),
 (382,Go.TypeDesc.array 2 3),
 (383,Go.TypeDesc.array 8 382),
 (384,Go.TypeDesc.array 4 382),
 (386,Go.TypeDesc.array 4096 5),
 (387,Go.TypeDesc.array 3 35),
 (390,Go.TypeDesc.array 4 3),
 (393, Go.TypeDesc.struct #[fd_ "va" 4 0 0 "atlas/tlb", fd_ "asid" 4 1 1 "atlas/tlb", fd_ "takes" 347 2 8 "atlas/tlb"]),
 (394,Go.TypeDesc.tuple #[393,4]),
 (397, Go.TypeDesc.struct #[fd_ "Type" 3 0 0, fd_ "Inner" 3 1 8, fd_ "Outer" 3 2 16, fd_ "Share" 3 3 24]),
 (398,Go.TypeDesc.tuple #[397,63]),
 (400,Go.TypeDesc.array 4 35),
 (401,Go.TypeDesc.int (Go.IntKind.u64)),
 (404,Go.TypeDesc.pointer 3),
 (417, Go.TypeDesc.struct #[fd_ "ok" 4 0 0 "atlas/attr", fd_ "kind" 3 1 8 "atlas/attr", fd_ "inner" 3 2 16 "atlas/attr", fd_ "outer" 3 3 24 "atlas/attr", fd_ "share" 3 4 32 "atlas/attr"]),
 (418,Go.TypeDesc.array 16 417),
 (419,Go.TypeDesc.pointer 401),
 (420,Go.TypeDesc.tuple #[3,3])]
def sizL:List (Nat×Nat):=[(0,1),(1,1),(3,1),(4,1),(5,1),(9,1),(20,1),(23,6),(25,9),(26,1),(27,1),(30,1),(31,1),(33,1),(34,1),(35,1),(37,4),(38,1),(40,5),(42,17),(43,1),(44,1),(45,1),(46,1),(47,1),(49,5),(52,12),(53,1),(54,1),(57,8),(63,1),(68,2),(70,1),(76,1),(78,1),(80,1),(82,4),(87,3),(89,4),(90,1),(95,1),(99,1),(101,1),(103,1),(105,1),(108,1),(112,4),(114,1),(117,1),(118,1),(120,1),(121,1),(122,1),(124,5),(126,1),(127,1),(129,1),(131,1),(133,4),(134,1),(139,1),(140,1),(143,1),(145,5),(147,1),(148,1),(151,2),(152,1),(156,8),(159,1),(162,1),(163,1),(164,1),(165,1),(167,6),(172,7),(176,3),(177,1),(183,1),(184,1),(188,4),(189,1),(191,1),(195,1),(203,1),(204,1),(205,1),(207,1),(212,1),(215,1),(217,1),(219,2),(220,4),(222,5),(225,1),(226,1),(227,1),(231,1),(235,1),(238,1),(242,9),(243,1),(245,1),(249,1),(251,4),(253,1),(258,1),(262,3),(264,7),(265,1),(271,1),(272,3),(273,3),(274,1),(277,1),(279,1),(280,1),(282,3),(283,1),(285,2),(286,13),(288,13),(290,6),(291,78),(292,1),(293,1),(295,2),(303,5),(305,5),(311,1),(315,1),(319,1),(326,1),(330,1),(334,0),(338,10),(341,1),(343,1),(345,2),(347,1),(348,1),(350,1),(351,64),(353,1),(354,1),(365,1),(367,1),(379,10),(382,2),(383,16),(384,8),(386,4096),(387,3),(390,4),(393,3),(394,1),(397,4),(398,1),(400,4),(401,1),(404,1),(417,5),(418,80),(419,1),(420,1)]
def zerL:List (Nat×Value):=[(1,.nilFunc),
 (3,.int .i64 0),
 (4,.bool false),
 (5,.int .u8 0),
 (9,.string .empty),
 (20,.nilIface),
 (23,.agg #[.int .i64 0,.int .i64 0,.int .i64 0,.int .i64 0,.int .i64 0,.int .i64 0]),
 (25,.agg #[.int .i64 0,.int .i64 0,.int .i64 0,.int .i64 0,.int .i64 0,.int .i64 0,.int .i64 0,.int .i64 0,.int .i64 0]),
 (26,.slice none 0 0),
 (27,.pointer none),
 (30,.int .u64 0),
 (33,.slice none 0 0),
 (34,.slice none 0 0),
 (35,.int .u32 0),
 (37,.agg #[.int .i64 0,.int .u32 0,.bool false,.bool false]),
 (38,.slice none 0 0),
 (40,.agg #[.int .i64 0,.int .u32 0,.int .i64 0,.int .u32 0,.bool false]),
 (42,.agg #[.int .i64 0,.int .i64 0,.int .i64 0,.slice none 0 0,.slice none 0 0,.int .i64 0,.int .u32 0,.bool false,.bool false,.slice none 0 0,.int .i64 0,.int .u32 0,.int .i64 0,.int .u32 0,.bool false,.int .i64 0,.int .i64 0]),
 (43,.slice none 0 0),
 (44,.pointer none),
 (45,.pointer none),
 (46,.pointer none),
 (47,.slice none 0 0),
 (49,.agg #[.pointer none,.pointer none,.pointer none,.int .i64 0,.slice none 0 0]),
 (52,.agg #[.bool false,.bool false,.bool false,.int .i64 0,.bool false,.bool false,.int .u64 0,.int .u64 0,.int .u32 0,.int .u32 0,.int .u32 0,.int .i64 0]),
 (53,.nilFunc),
 (54,.nilFunc),
 (57,.agg #[.int .i64 0,.int .u32 0,.int .u64 0,.int .i64 0,.int .i64 0,.int .u32 0,.bool false,.bool false]),
 (63,.int .i64 0),
 (68,.agg #[.int .i64 0,.int .i64 0]),
 (70,.slice none 0 0),
 (76,.int .u64 0),
 (78,.slice none 0 0),
 (80,.slice none 0 0),
 (82,.agg #[.slice none 0 0,.slice none 0 0,.slice none 0 0,.slice none 0 0]),
 (87,.agg #[.int .i64 0,.int .i64 0,.int .i64 0]),
 (89,.agg #[.int .u32 0,.int .i64 0,.int .i64 0,.int .i64 0]),
 (112,.agg #[.int .i64 0,.int .u64 0,.int .u32 0,.int .i64 0]),
 (117,.nilFunc),
 (118,.nilFunc),
 (120,.map none),
 (121,.pointer none),
 (122,.pointer none),
 (124,.agg #[.pointer none,.pointer none,.pointer none,.int .i64 0,.map none]),
 (126,.nilIface),
 (127,.nilFunc),
 (131,.map none),
 (133,.agg #[.int .i64 0,.int .i64 0,.slice none 0 0,.map none]),
 (139,.nilFunc),
 (140,.nilFunc),
 (143,.slice none 0 0),
 (145,.agg #[.int .i64 0,.int .i64 0,.slice none 0 0,.slice none 0 0,.int .i64 0]),
 (147,.map none),
 (151,.agg #[.int .i64 0,.bool false]),
 (156,.agg #[.int .i64 0,.int .u64 0,.int .i64 0,.bool false,.int .i64 0,.int .u32 0,.bool false,.bool false]),
 (162,.pointer none),
 (163,.pointer none),
 (164,.pointer none),
 (165,.pointer none),
 (167,.agg #[.pointer none,.pointer none,.pointer none,.pointer none,.slice none 0 0,.slice none 0 0]),
 (172,.agg #[.int .i64 0,.int .i64 0,.int .i64 0,.int .u32 0,.bool false,.int .i64 0,.bool false]),
 (176,.agg #[.int .i64 0,.int .i64 0,.int .i64 0]),
 (183,.slice none 0 0),
 (188,.agg #[.int .i64 0,.int .i64 0,.int .i64 0,.int .i64 0]),
 (203,.nilFunc),
 (204,.nilFunc),
 (212,.nilFunc),
 (215,.nilFunc),
 (217,.slice none 0 0),
 (219,.agg #[.pointer none,.slice none 0 0]),
 (220,.agg #[.bool false,.bool false,.bool false,.bool false]),
 (222,.agg #[.int .i64 0,.bool false,.bool false,.bool false,.bool false]),
 (225,.slice none 0 0),
 (226,.nilFunc),
 (227,.nilFunc),
 (231,.nilFunc),
 (238,.nilFunc),
 (242,.agg #[.int .i64 0,.int .i64 0,.int .u32 0,.int .u64 0,.int .i64 0,.int .i64 0,.int .u32 0,.bool false,.bool false]),
 (251,.agg #[.int .u8 0,.int .u8 0,.int .u8 0,.int .u8 0]),
 (258,.slice none 0 0),
 (262,.agg #[.int .i64 0,.int .u32 0,.int .i64 0]),
 (264,.agg #[.int .i64 0,.int .i64 0,.int .u32 0,.int .i64 0,.int .u32 0,.bool false,.bool false]),
 (271,.pointer none),
 (272,.agg #[.pointer none,.pointer none,.pointer none]),
 (273,.agg #[.int .i64 0,.int .i64 0,.int .i64 0]),
 (277,.agg #[.pointer none]),
 (279,.agg #[.pointer none]),
 (280,.agg #[.pointer none]),
 (282,.agg #[.pointer none,.pointer none,.pointer none]),
 (283,.map none),
 (285,.agg #[.int .i64 0,.map none]),
 (286,.agg #[.int .u32 0,.int .u32 0,.int .u32 0,.int .u32 0,.int .u32 0,.int .u32 0,.int .u32 0,.int .u32 0,.int .u32 0,.int .u32 0,.int .u32 0,.int .u32 0,.int .u32 0]),
 (288,.agg #[.int .u32 0,.int .u32 0,.int .u32 0,.int .u32 0,.int .u32 0,.int .u32 0,.int .u32 0,.int .u32 0,.int .u32 0,.int .u32 0,.int .u32 0,.int .u32 0,.int .u32 0]),
 (290,.agg #[.int .i64 0,.int .i64 0,.int .i64 0,.int .i64 0,.int .u32 0,.int .u32 0]),
 (292,.map none),
 (293,.map none),
 (295,.agg #[.map none,.map none]),
 (303,.agg #[.int .i64 0,.int .i64 0,.int .i64 0,.int .i64 0,.int .i64 0]),
 (305,.agg #[.int .u64 0,.int .u64 0,.int .u64 0,.int .u64 0,.int .u64 0]),
 (315,.pointer none),
 (319,.nilFunc),
 (330,.pointer none),
 (334,.agg #[]),
 (338,.agg #[.int .i64 0,.int .i64 0,.int .i64 0,.int .u32 0,.int .u64 0,.int .i64 0,.int .i64 0,.int .u32 0,.bool false,.bool false]),
 (341,.nilFunc),
 (343,.nilFunc),
 (345,.agg #[.nilFunc,.bool false]),
 (347,.nilFunc),
 (348,.slice none 0 0),
 (350,.agg #[.slice none 0 0]),
 (351,.agg #[.int .u8 0,.int .u8 0,.int .u8 0,.int .u8 0,.int .u8 0,.int .u8 0,.int .u8 0,.int .u8 0,.int .u8 0,.int .u8 0,.int .u8 0,.int .u8 0,.int .u8 0,.int .u8 0,.int .u8 0,.int .u8 0,.int .u8 0,.int .u8 0,.int .u8 0,.int .u8 0,.int .u8 0,.int .u8 0,.int .u8 0,.int .u8 0,.int .u8 0,.int .u8 0,.int .u8 0,.int .u8 0,.int .u8 0,.int .u8 0,.int .u8 0,.int .u8 0,.int .u8 0,.int .u8 0,.int .u8 0,.int .u8 0,.int .u8 0,.int .u8 0,.int .u8 0,.int .u8 0,.int .u8 0,.int .u8 0,.int .u8 0,.int .u8 0,.int .u8 0,.int .u8 0,.int .u8 0,.int .u8 0,.int .u8 0,.int .u8 0,.int .u8 0,.int .u8 0,.int .u8 0,.int .u8 0,.int .u8 0,.int .u8 0,.int .u8 0,.int .u8 0,.int .u8 0,.int .u8 0,.int .u8 0,.int .u8 0,.int .u8 0,.int .u8 0]),
 (353,.int .i64 0),
 (379,.agg #[.bool false,.int .i64 0,.int .i64 0,.int .u32 0,.int .u64 0,.int .i64 0,.int .i64 0,.int .u32 0,.bool false,.bool false]),
 (382,.agg #[.int .i64 0,.int .i64 0]),
 (383,.agg #[.int .i64 0,.int .i64 0,.int .i64 0,.int .i64 0,.int .i64 0,.int .i64 0,.int .i64 0,.int .i64 0,.int .i64 0,.int .i64 0,.int .i64 0,.int .i64 0,.int .i64 0,.int .i64 0,.int .i64 0,.int .i64 0]),
 (384,.agg #[.int .i64 0,.int .i64 0,.int .i64 0,.int .i64 0,.int .i64 0,.int .i64 0,.int .i64 0,.int .i64 0]),
 (387,.agg #[.int .u32 0,.int .u32 0,.int .u32 0]),
 (390,.agg #[.int .i64 0,.int .i64 0,.int .i64 0,.int .i64 0]),
 (393,.agg #[.bool false,.bool false,.nilFunc]),
 (397,.agg #[.int .i64 0,.int .i64 0,.int .i64 0,.int .i64 0]),
 (400,.agg #[.int .u32 0,.int .u32 0,.int .u32 0,.int .u32 0]),
 (401,.int .u64 0),
 (404,.pointer none),
 (417,.agg #[.bool false,.int .i64 0,.int .i64 0,.int .i64 0,.int .i64 0]),
 (419,.pointer none)]
def fnL:List Nat:=[9,10,11,12,13,14,15,16,17,18,19,20,21,22,23,24,25,26,27,28,29,30,31,32,33,34,35,36,37,38,39,40,41,42,43,44,45,46,47,48,49,50,51,52,53,54,55,56,57,58,59,60,61,62,63,64,65,66,67,68,69,70,71,72,73,74,75,76,77,78,79,80,81,82,83,84,85,86,87,88,89,90,91,92,93,94,95,96,97,98,99,100,101,102,103,104,105,107,108,109,110,111,112,113,114,115,116,117,118,119,120,121,122,123,124,125,126,127,128,129,130,133,134,135,136,137,138,139,140,141,142,143,144,145,146,147,148,149,150,151,152,153,154,155,156,157,158,159,160,161,162,163,164,165,166,167,168,169,170,171,172,173,174,175,176,177,178,179,180,181,182,183,184,185,186,187,188,189,190,191,192,193,194,195,196,197,198,199,200,201,202,203,205,206,207,208,209,210,211,212,213,214,215,216,217,218,219,220,221,222,223,224,225,226,227,228,229,230,231,232,233,234,235,236,237,238,239,240,241,242,243,244,245,246,247,248,249,250,251,252,253,254,255,257,258,259,260,261,262,263,264,265,266,267,268,269,270,271,272,273,274,275,276,277,278,283,284,285,286,287,288,289,290]
theorem undG:GoodU prog undL:=by repeat' (first|exact trivial|refine⟨by kernel_rfl,?_⟩)
theorem sizG:GoodS prog sizL:=by repeat' (first|exact trivial|refine⟨by kernel_rfl,?_⟩)
theorem zerG:GoodZ prog zerL:=by repeat' (first|exact trivial|refine⟨by kernel_rfl,?_⟩)
theorem fnG:GoodF prog fnL:=by repeat' (first|exact trivial|refine⟨by kernel_rfl,?_⟩)
def tab:Tab:=tabOf undL sizL zerL fnL
theorem tabOk:tab.Ok prog:=tabOf_ok undG sizG zerG fnG
/-! ## short words of the printed functions -/
abbrev KQ:=Value→World→Prop
abbrev li_ (w:World) (a:Addr) (k:IntKind) (f:Int→Prop):Prop:=Ld w a fun v=>AsI k v f
abbrev lb_ (w:World) (a:Addr) (f:Bool→Prop):Prop:=Ld w a fun v=>AsB v f
abbrev lp_ (w:World) (a:Addr) (f:Option Addr→Prop):Prop:=Ld w a fun v=>AsP v f
abbrev ls_ (w:World) (a:Addr) (f:Option Addr→Nat→Nat→Prop):Prop:=Ld w a fun v=>t_ v f
abbrev lm_ (w:World) (a:Addr) (f:Option Nat→Prop):Prop:=Ld w a fun v=>AsM v f
abbrev ui_ (s:List Value) (k:IntKind) (f:Int→List Value→Prop):Prop:=UnC s fun v r=>AsI k v fun i=>f i r
abbrev ub_ (s:List Value) (f:Bool→List Value→Prop):Prop:=UnC s fun v r=>AsB v fun i=>f i r
abbrev up_ (s:List Value) (f:Option Addr→List Value→Prop):Prop:=UnC s fun v r=>AsP v fun i=>f i r
abbrev us_ (s:List Value) (f:Option Addr→Nat→Nat→List Value→Prop):Prop:=UnC s fun v r=>t_ v fun p n c=>f p n c r
abbrev um_ (s:List Value) (f:Option Nat→List Value→Prop):Prop:=UnC s fun v r=>AsM v fun i=>f i r
abbrev ce_ (w:World) (a:Addr) (v:Value):Prop:=w.cell? a=some v
theorem co {f:FuncId} {fn:Func} {args:List Value} {w:World} {Q:Value→World→Prop} {X:Prop} (hf:prog.funcs[f]?=some fn) (h:X) (e:Sh.Fn prog tab fn args w Q=X:=by kernel_rfl):Calls prog f args.toArray w fun e w'=>∃v,e=.returned v∧Q v w' :=
 q_h tabOk hf mixed (e.symm ▸ h)
abbrev W_f (w:World) (a:Addr) (v0 v1 v2 v3 v4 v5 v6 v7 v8 v9 v10 v11:Value) (r:Prop):Prop:=ce_ w a v0∧ce_ w (at0 a 1) v1∧ce_ w (at0 a 2) v2∧ce_ w (at0 a 3) v3∧ce_ w (at0 a 4) v4∧ce_ w (at0 a 5) v5∧ce_ w (at0 a 6) v6∧ce_ w (at0 a 7) v7∧ce_ w (at0 a 8) v8∧ce_ w (at0 a 9) v9∧ce_ w (at0 a 10) v10∧ce_ w (at0 a 11) v11∧r
abbrev C_3 (w:World) (a:Addr) (v0 v1 v2:Value) (r:Prop):Prop:=ce_ w a v0∧ce_ w (at0 a 1) v1∧ce_ w (at0 a 2) v2∧r
abbrev C_4 (w:World) (a:Addr) (v0 v1 v2 v3:Value) (r:Prop):Prop:=ce_ w a v0∧ce_ w (at0 a 1) v1∧ce_ w (at0 a 2) v2∧ce_ w (at0 a 3) v3∧r
abbrev C_8 (w:World) (a:Addr) (v0 v1 v2 v3 v4 v5 v6 v7:Value) (r:Prop):Prop:=ce_ w a v0∧ce_ w (at0 a 1) v1∧ce_ w (at0 a 2) v2∧ce_ w (at0 a 3) v3∧ce_ w (at0 a 4) v4∧ce_ w (at0 a 5) v5∧ce_ w (at0 a 6) v6∧ce_ w (at0 a 7) v7∧r
abbrev Lbbbb (w:World) (a:Addr) (f:Bool→Bool→Bool→Bool→Prop):Prop:=lb_ w a fun x0=>lb_ w (at0 a 1) fun x1=>lb_ w (at0 a 2) fun x2=>lb_ w (at0 a 3) fun x3=>f x0 x1 x2 x3
abbrev J_ (w:World) (a:Addr) (f:Bool→Bool→Bool→Int→Bool→Bool→Int→Int→Int→Int→Int→Int→Prop):Prop:=lb_ w a fun x0=>lb_ w (at0 a 1) fun x1=>lb_ w (at0 a 2) fun x2=>li_ w (at0 a 3) .i64 fun x3=>lb_ w (at0 a 4) fun x4=>lb_ w (at0 a 5) fun x5=>li_ w (at0 a 6) .u64 fun x6=>li_ w (at0 a 7) .u64 fun x7=>li_ w (at0 a 8) .u32 fun x8=>li_ w (at0 a 9) .u32 fun x9=>li_ w (at0 a 10) .u32 fun x10=>li_ w (at0 a 11) .i64 fun x11=>f x0 x1 x2 x3 x4 x5 x6 x7 x8 x9 x10 x11
abbrev M_f (w:World) (a:Addr) (f:Bool→Int→Int→Int→Int→Int→Int→Int→Bool→Bool→Prop):Prop:=lb_ w a fun x0=>li_ w (at0 a 1) .i64 fun x1=>li_ w (at0 a 2) .i64 fun x2=>li_ w (at0 a 3) .u32 fun x3=>li_ w (at0 a 4) .u64 fun x4=>li_ w (at0 a 5) .i64 fun x5=>li_ w (at0 a 6) .i64 fun x6=>li_ w (at0 a 7) .u32 fun x7=>lb_ w (at0 a 8) fun x8=>lb_ w (at0 a 9) fun x9=>f x0 x1 x2 x3 x4 x5 x6 x7 x8 x9
abbrev i_i (w:World) (a:Addr) (f:Int→Bool→Bool→Bool→Bool→Prop):Prop:=li_ w a .i64 fun x0=>lb_ w (at0 a 1) fun x1=>lb_ w (at0 a 2) fun x2=>lb_ w (at0 a 3) fun x3=>lb_ w (at0 a 4) fun x4=>f x0 x1 x2 x3 x4
abbrev M_j (w:World) (a:Addr) (f:Int→Int→Int→Prop):Prop:=li_ w a .i64 fun x0=>li_ w (at0 a 1) .i64 fun x1=>li_ w (at0 a 2) .i64 fun x2=>f x0 x1 x2
abbrev Q_c (w:World) (a:Addr) (f:Int→Int→Int→Int→Prop):Prop:=li_ w a .i64 fun x0=>li_ w (at0 a 1) .i64 fun x1=>li_ w (at0 a 2) .i64 fun x2=>li_ w (at0 a 3) .i64 fun x3=>f x0 x1 x2 x3
abbrev r_f (w:World) (a:Addr) (f:Int→Int→Int→Int→Int→Int→Int→Int→Int→Prop):Prop:=li_ w a .i64 fun x0=>li_ w (at0 a 1) .i64 fun x1=>li_ w (at0 a 2) .i64 fun x2=>li_ w (at0 a 3) .i64 fun x3=>li_ w (at0 a 4) .i64 fun x4=>li_ w (at0 a 5) .i64 fun x5=>li_ w (at0 a 6) .i64 fun x6=>li_ w (at0 a 7) .i64 fun x7=>li_ w (at0 a 8) .i64 fun x8=>f x0 x1 x2 x3 x4 x5 x6 x7 x8
abbrev R_b (w:World) (a:Addr) (f:Int→Int→Int→Option Addr→Nat→Nat→Option Addr→Nat→Nat→Int→Int→Bool→Bool→Option Addr→Nat→Nat→Int→Int→Int→Int→Bool→Int→Int→Prop):Prop:=li_ w a .i64 fun x0=>li_ w (at0 a 1) .i64 fun x1=>li_ w (at0 a 2) .i64 fun x2=>ls_ w (at0 a 3) fun x3 y3 z3=>ls_ w (at0 a 4) fun x4 y4 z4=>li_ w (at0 a 5) .i64 fun x5=>li_ w (at0 a 6) .u32 fun x6=>lb_ w (at0 a 7) fun x7=>lb_ w (at0 a 8) fun x8=>ls_ w (at0 a 9) fun x9 y9 z9=>li_ w (at0 a 10) .i64 fun x10=>li_ w (at0 a 11) .u32 fun x11=>li_ w (at0 a 12) .i64 fun x12=>li_ w (at0 a 13) .u32 fun x13=>lb_ w (at0 a 14) fun x14=>li_ w (at0 a 15) .i64 fun x15=>li_ w (at0 a 16) .i64 fun x16=>f x0 x1 x2 x3 y3 z3 x4 y4 z4 x5 x6 x7 x8 x9 y9 z9 x10 x11 x12 x13 x14 x15 x16
abbrev Q_b (w:World) (a:Addr) (f:Int→Int→Int→Int→Bool→Int→Bool→Prop):Prop:=li_ w a .i64 fun x0=>li_ w (at0 a 1) .i64 fun x1=>li_ w (at0 a 2) .i64 fun x2=>li_ w (at0 a 3) .u32 fun x3=>lb_ w (at0 a 4) fun x4=>li_ w (at0 a 5) .i64 fun x5=>lb_ w (at0 a 6) fun x6=>f x0 x1 x2 x3 x4 x5 x6
abbrev L_b (w:World) (a:Addr) (f:Int→Int→Int→Int→Int→Int→Int→Int→Bool→Bool→Prop):Prop:=li_ w a .i64 fun x0=>li_ w (at0 a 1) .i64 fun x1=>li_ w (at0 a 2) .i64 fun x2=>li_ w (at0 a 3) .u32 fun x3=>li_ w (at0 a 4) .u64 fun x4=>li_ w (at0 a 5) .i64 fun x5=>li_ w (at0 a 6) .i64 fun x6=>li_ w (at0 a 7) .u32 fun x7=>lb_ w (at0 a 8) fun x8=>lb_ w (at0 a 9) fun x9=>f x0 x1 x2 x3 x4 x5 x6 x7 x8 x9
abbrev i_ (w:World) (a:Addr) (f:Int→Int→Int→Int→Int→Bool→Bool→Prop):Prop:=li_ w a .i64 fun x0=>li_ w (at0 a 1) .i64 fun x1=>li_ w (at0 a 2) .u32 fun x2=>li_ w (at0 a 3) .i64 fun x3=>li_ w (at0 a 4) .u32 fun x4=>lb_ w (at0 a 5) fun x5=>lb_ w (at0 a 6) fun x6=>f x0 x1 x2 x3 x4 x5 x6
abbrev H_a (w:World) (a:Addr) (f:Int→Int→Int→Int→Int→Int→Int→Bool→Bool→Prop):Prop:=li_ w a .i64 fun x0=>li_ w (at0 a 1) .i64 fun x1=>li_ w (at0 a 2) .u32 fun x2=>li_ w (at0 a 3) .u64 fun x3=>li_ w (at0 a 4) .i64 fun x4=>li_ w (at0 a 5) .i64 fun x5=>li_ w (at0 a 6) .u32 fun x6=>lb_ w (at0 a 7) fun x7=>lb_ w (at0 a 8) fun x8=>f x0 x1 x2 x3 x4 x5 x6 x7 x8
abbrev t_a (w:World) (a:Addr) (f:Int→Int→Bool→Bool→Prop):Prop:=li_ w a .i64 fun x0=>li_ w (at0 a 1) .u32 fun x1=>lb_ w (at0 a 2) fun x2=>lb_ w (at0 a 3) fun x3=>f x0 x1 x2 x3
abbrev X_g (w:World) (a:Addr) (f:Int→Int→Int→Prop):Prop:=li_ w a .i64 fun x0=>li_ w (at0 a 1) .u32 fun x1=>li_ w (at0 a 2) .i64 fun x2=>f x0 x1 x2
abbrev B_ (w:World) (a:Addr) (f:Int→Int→Int→Int→Int→Int→Bool→Bool→Prop):Prop:=li_ w a .i64 fun x0=>li_ w (at0 a 1) .u32 fun x1=>li_ w (at0 a 2) .u64 fun x2=>li_ w (at0 a 3) .i64 fun x3=>li_ w (at0 a 4) .i64 fun x4=>li_ w (at0 a 5) .u32 fun x5=>lb_ w (at0 a 6) fun x6=>lb_ w (at0 a 7) fun x7=>f x0 x1 x2 x3 x4 x5 x6 x7
abbrev M_ (w:World) (a:Addr) (f:Int→Int→Int→Bool→Int→Int→Bool→Bool→Prop):Prop:=li_ w a .i64 fun x0=>li_ w (at0 a 1) .u64 fun x1=>li_ w (at0 a 2) .i64 fun x2=>lb_ w (at0 a 3) fun x3=>li_ w (at0 a 4) .i64 fun x4=>li_ w (at0 a 5) .u32 fun x5=>lb_ w (at0 a 6) fun x6=>lb_ w (at0 a 7) fun x7=>f x0 x1 x2 x3 x4 x5 x6 x7
abbrev S_10 (w:World) (a:Addr) (v0 v1 v2 v3 v4 v5 v6 v7 v8 v9:Value) (f:World→Prop):Prop:=St w a v0 fun w1=>St w1 (at0 a 1) v1 fun w2=>St w2 (at0 a 2) v2 fun w3=>St w3 (at0 a 3) v3 fun w4=>St w4 (at0 a 4) v4 fun w5=>St w5 (at0 a 5) v5 fun w6=>St w6 (at0 a 6) v6 fun w7=>St w7 (at0 a 7) v7 fun w8=>St w8 (at0 a 8) v8 fun w9=>St w9 (at0 a 9) v9 fun w10=>f w10
abbrev S_12 (w:World) (a:Addr) (v0 v1 v2 v3 v4 v5 v6 v7 v8 v9 v10 v11:Value) (f:World→Prop):Prop:=St w a v0 fun w1=>St w1 (at0 a 1) v1 fun w2=>St w2 (at0 a 2) v2 fun w3=>St w3 (at0 a 3) v3 fun w4=>St w4 (at0 a 4) v4 fun w5=>St w5 (at0 a 5) v5 fun w6=>St w6 (at0 a 6) v6 fun w7=>St w7 (at0 a 7) v7 fun w8=>St w8 (at0 a 8) v8 fun w9=>St w9 (at0 a 9) v9 fun w10=>St w10 (at0 a 10) v10 fun w11=>St w11 (at0 a 11) v11 fun w12=>f w12
abbrev S_3 (w:World) (a:Addr) (v0 v1 v2:Value) (f:World→Prop):Prop:=St w a v0 fun w1=>St w1 (at0 a 1) v1 fun w2=>St w2 (at0 a 2) v2 fun w3=>f w3
abbrev S_4 (w:World) (a:Addr) (v0 v1 v2 v3:Value) (f:World→Prop):Prop:=St w a v0 fun w1=>St w1 (at0 a 1) v1 fun w2=>St w2 (at0 a 2) v2 fun w3=>St w3 (at0 a 3) v3 fun w4=>f w4
abbrev S_5 (w:World) (a:Addr) (v0 v1 v2 v3 v4:Value) (f:World→Prop):Prop:=St w a v0 fun w1=>St w1 (at0 a 1) v1 fun w2=>St w2 (at0 a 2) v2 fun w3=>St w3 (at0 a 3) v3 fun w4=>St w4 (at0 a 4) v4 fun w5=>f w5
abbrev S_6 (w:World) (a:Addr) (v0 v1 v2 v3 v4 v5:Value) (f:World→Prop):Prop:=St w a v0 fun w1=>St w1 (at0 a 1) v1 fun w2=>St w2 (at0 a 2) v2 fun w3=>St w3 (at0 a 3) v3 fun w4=>St w4 (at0 a 4) v4 fun w5=>St w5 (at0 a 5) v5 fun w6=>f w6
abbrev S_7 (w:World) (a:Addr) (v0 v1 v2 v3 v4 v5 v6:Value) (f:World→Prop):Prop:=St w a v0 fun w1=>St w1 (at0 a 1) v1 fun w2=>St w2 (at0 a 2) v2 fun w3=>St w3 (at0 a 3) v3 fun w4=>St w4 (at0 a 4) v4 fun w5=>St w5 (at0 a 5) v5 fun w6=>St w6 (at0 a 6) v6 fun w7=>f w7
abbrev S_8 (w:World) (a:Addr) (v0 v1 v2 v3 v4 v5 v6 v7:Value) (f:World→Prop):Prop:=St w a v0 fun w1=>St w1 (at0 a 1) v1 fun w2=>St w2 (at0 a 2) v2 fun w3=>St w3 (at0 a 3) v3 fun w4=>St w4 (at0 a 4) v4 fun w5=>St w5 (at0 a 5) v5 fun w6=>St w6 (at0 a 6) v6 fun w7=>St w7 (at0 a 7) v7 fun w8=>f w8
abbrev S_9 (w:World) (a:Addr) (v0 v1 v2 v3 v4 v5 v6 v7 v8:Value) (f:World→Prop):Prop:=St w a v0 fun w1=>St w1 (at0 a 1) v1 fun w2=>St w2 (at0 a 2) v2 fun w3=>St w3 (at0 a 3) v3 fun w4=>St w4 (at0 a 4) v4 fun w5=>St w5 (at0 a 5) v5 fun w6=>St w6 (at0 a 6) v6 fun w7=>St w7 (at0 a 7) v7 fun w8=>St w8 (at0 a 8) v8 fun w9=>f w9
abbrev A_a (s0:List Value) (f:Bool→Bool→Bool→Int→Bool→Bool→Int→Int→Int→Int→Int→Int→List Value→Prop):Prop:=ub_ s0 fun x0 s1=>ub_ s1 fun x1 s2=>ub_ s2 fun x2 s3=>ui_ s3 .i64 fun x3 s4=>ub_ s4 fun x4 s5=>ub_ s5 fun x5 s6=>ui_ s6 .u64 fun x6 s7=>ui_ s7 .u64 fun x7 s8=>ui_ s8 .u32 fun x8 s9=>ui_ s9 .u32 fun x9 s10=>ui_ s10 .u32 fun x10 s11=>ui_ s11 .i64 fun x11 s12=>f x0 x1 x2 x3 x4 x5 x6 x7 x8 x9 x10 x11 s12
abbrev p_f (s0:List Value) (f:Bool→Bool→Int→Int→Int→List Value→Prop):Prop:=ub_ s0 fun x0 s1=>ub_ s1 fun x1 s2=>ui_ s2 .i64 fun x2 s3=>ui_ s3 .i64 fun x3 s4=>ui_ s4 .i64 fun x4 s5=>f x0 x1 x2 x3 x4 s5
abbrev Uib (s0:List Value) (f:Int→Bool→List Value→Prop):Prop:=ui_ s0 .i64 fun x0 s1=>ub_ s1 fun x1 s2=>f x0 x1 s2
abbrev Uibi (s0:List Value) (f:Int→Bool→Int→List Value→Prop):Prop:=ui_ s0 .i64 fun x0 s1=>ub_ s1 fun x1 s2=>ui_ s2 .i64 fun x2 s3=>f x0 x1 x2 s3
abbrev Uii (s0:List Value) (f:Int→Int→List Value→Prop):Prop:=ui_ s0 .i64 fun x0 s1=>ui_ s1 .i64 fun x1 s2=>f x0 x1 s2
abbrev Uiib (s0:List Value) (f:Int→Int→Bool→List Value→Prop):Prop:=ui_ s0 .i64 fun x0 s1=>ui_ s1 .i64 fun x1 s2=>ub_ s2 fun x2 s3=>f x0 x1 x2 s3
abbrev O_f (s0:List Value) (f:Int→Int→Int→List Value→Prop):Prop:=ui_ s0 .i64 fun x0 s1=>ui_ s1 .i64 fun x1 s2=>ui_ s2 .i64 fun x2 s3=>f x0 x1 x2 s3
abbrev T_g (s0:List Value) (f:Int→Int→Int→Int→Int→Int→List Value→Prop):Prop:=ui_ s0 .i64 fun x0 s1=>ui_ s1 .i64 fun x1 s2=>ui_ s2 .i64 fun x2 s3=>ui_ s3 .i64 fun x3 s4=>ui_ s4 .u32 fun x4 s5=>ui_ s5 .u32 fun x5 s6=>f x0 x1 x2 x3 x4 x5 s6
abbrev p_b (s0:List Value) (f:Int→Int→Int→Int→Bool→Int→Bool→List Value→Prop):Prop:=ui_ s0 .i64 fun x0 s1=>ui_ s1 .i64 fun x1 s2=>ui_ s2 .i64 fun x2 s3=>ui_ s3 .u32 fun x3 s4=>ub_ s4 fun x4 s5=>ui_ s5 .i64 fun x5 s6=>ub_ s6 fun x6 s7=>f x0 x1 x2 x3 x4 x5 x6 s7
abbrev Uiip (s0:List Value) (f:Int→Int→Option Addr→List Value→Prop):Prop:=ui_ s0 .i64 fun x0 s1=>ui_ s1 .i64 fun x1 s2=>up_ s2 fun x2 s3=>f x0 x1 x2 s3
abbrev s_ (s0:List Value) (f:Int→Int→Int→Int→Int→Bool→Bool→List Value→Prop):Prop:=ui_ s0 .i64 fun x0 s1=>ui_ s1 .i64 fun x1 s2=>ui_ s2 .u32 fun x2 s3=>ui_ s3 .i64 fun x3 s4=>ui_ s4 .u32 fun x4 s5=>ub_ s5 fun x5 s6=>ub_ s6 fun x6 s7=>f x0 x1 x2 x3 x4 x5 x6 s7
abbrev c_ (s0:List Value) (f:Int→Int→Int→Int→Int→Int→Int→Bool→Bool→List Value→Prop):Prop:=ui_ s0 .i64 fun x0 s1=>ui_ s1 .i64 fun x1 s2=>ui_ s2 .u32 fun x2 s3=>ui_ s3 .u64 fun x3 s4=>ui_ s4 .i64 fun x4 s5=>ui_ s5 .i64 fun x5 s6=>ui_ s6 .u32 fun x6 s7=>ub_ s7 fun x7 s8=>ub_ s8 fun x8 s9=>f x0 x1 x2 x3 x4 x5 x6 x7 x8 s9
abbrev Uis (s0:List Value) (f:Int→Option Addr→Nat→Nat→List Value→Prop):Prop:=ui_ s0 .i64 fun x0 s1=>us_ s1 fun x1 y1 z1 s2=>f x0 x1 y1 z1 s2
abbrev Uisisp (s0:List Value) (f:Int→Option Addr→Nat→Nat→Int→Option Addr→Nat→Nat→Option Addr→List Value→Prop):Prop:=ui_ s0 .i64 fun x0 s1=>us_ s1 fun x1 y1 z1 s2=>ui_ s2 .i64 fun x2 s3=>us_ s3 fun x3 y3 z3 s4=>up_ s4 fun x4 s5=>f x0 x1 y1 z1 x2 x3 y3 z3 x4 s5
abbrev a_ (s0:List Value) (f:Int→Int→Int→Int→Int→Int→Bool→Bool→List Value→Prop):Prop:=ui_ s0 .i64 fun x0 s1=>ui_ s1 .u32 fun x1 s2=>ui_ s2 .u64 fun x2 s3=>ui_ s3 .i64 fun x3 s4=>ui_ s4 .i64 fun x4 s5=>ui_ s5 .u32 fun x5 s6=>ub_ s6 fun x6 s7=>ub_ s7 fun x7 s8=>f x0 x1 x2 x3 x4 x5 x6 x7 s8
abbrev Uiv (s0:List Value) (f:Int→Int→List Value→Prop):Prop:=ui_ s0 .i64 fun x0 s1=>ui_ s1 .u64 fun x1 s2=>f x0 x1 s2
abbrev O_c (s0:List Value) (f:Int→Int→Int→Bool→Int→Int→Bool→Bool→List Value→Prop):Prop:=ui_ s0 .i64 fun x0 s1=>ui_ s1 .u64 fun x1 s2=>ui_ s2 .i64 fun x2 s3=>ub_ s3 fun x3 s4=>ui_ s4 .i64 fun x4 s5=>ui_ s5 .u32 fun x5 s6=>ub_ s6 fun x6 s7=>ub_ s7 fun x7 s8=>f x0 x1 x2 x3 x4 x5 x6 x7 s8
abbrev Upb (s0:List Value) (f:Option Addr→Bool→List Value→Prop):Prop:=up_ s0 fun x0 s1=>ub_ s1 fun x1 s2=>f x0 x1 s2
abbrev Upi (s0:List Value) (f:Option Addr→Int→List Value→Prop):Prop:=up_ s0 fun x0 s1=>ui_ s1 .i64 fun x1 s2=>f x0 x1 s2
abbrev Upsi (s0:List Value) (f:Option Addr→Option Addr→Nat→Nat→Int→List Value→Prop):Prop:=up_ s0 fun x0 s1=>us_ s1 fun x1 y1 z1 s2=>ui_ s2 .i64 fun x2 s3=>f x0 x1 y1 z1 x2 s3
abbrev Uub (s0:List Value) (f:Int→Bool→List Value→Prop):Prop:=ui_ s0 .u32 fun x0 s1=>ub_ s1 fun x1 s2=>f x0 x1 s2
abbrev Uui (s0:List Value) (f:Int→Int→List Value→Prop):Prop:=ui_ s0 .u32 fun x0 s1=>ui_ s1 .i64 fun x1 s2=>f x0 x1 s2
abbrev Uvb (s0:List Value) (f:Int→Bool→List Value→Prop):Prop:=ui_ s0 .u64 fun x0 s1=>ub_ s1 fun x1 s2=>f x0 x1 s2
abbrev Uvi (s0:List Value) (f:Int→Int→List Value→Prop):Prop:=ui_ s0 .u64 fun x0 s1=>ui_ s1 .i64 fun x1 s2=>f x0 x1 s2
abbrev Uvu (s0:List Value) (f:Int→Int→List Value→Prop):Prop:=ui_ s0 .u64 fun x0 s1=>ui_ s1 .u32 fun x1 s2=>f x0 x1 s2
abbrev Uvv (s0:List Value) (f:Int→Int→List Value→Prop):Prop:=ui_ s0 .u64 fun x0 s1=>ui_ s1 .u64 fun x1 s2=>f x0 x1 s2
abbrev s_h (x:Value) (w:World) (a:Addr) (Q:Value→World→Prop):Prop:=RunP prog (Instr.build 345 #[(0,x)]) fun v=>V_ v fun s=>UnC s fun y r=>ub_ r fun b q=>UnN q (St w a y fun w1=>St w1 (at0 a 1) (.bool b) fun w2=>Ld w2 a fun v2=>lb_ w2 (at0 a 1) fun b2=>Q (.agg #[v2,.bool b2]) w2)
abbrev g_ (x x2:Value) (w:World) (a:Addr) (Q:Value→World→Prop):Prop:=RunP prog (Instr.build 345 #[(0,x),(1,x2)]) fun v=>V_ v fun s=>UnC s fun y r=>ub_ r fun b q=>UnN q (St w a y fun w1=>St w1 (at0 a 1) (.bool b) fun w2=>Ld w2 a fun v2=>lb_ w2 (at0 a 1) fun b2=>Q (.agg #[v2,.bool b2]) w2)
abbrev f_ (w:World) (a:Addr) (c:Bool) (Q:Value→World→Prop):Prop:=St w a Value.nilFunc fun w1=>St w1 (at0 a 1) (.bool c) fun w2=>Ld w2 a fun v=>lb_ w2 (at0 a 1) fun b=>Q (.agg #[v,.bool b]) w2
abbrev L_j (n:Nat) (w:World) (a1 a5 a3:Addr) (Q:Value→World→Prop):Prop:=li_ w (at0 a1 3) .i64 fun i=>0≤i∧i<((4:Nat):Int)∧li_ w (at0 a5 (i.toNat*1)) .i64 fun j=>A_ prog n #[.int .i64 j] w fun v w1=>s_h v w1 a3 Q
abbrev w_c (w:World) (a c:Addr) (Q:Value→World→Prop):Prop:=Q_b w a fun x0 x1 x2 x3 x4 x5 x6=>S_7 w c (.int .i64 x0) (.int .i64 x1) (.int .i64 x2) (.int .u32 x3) (.bool x4) (.int .i64 x5) (.bool x6) fun w1=>Q_b w1 c fun y0 y1 y2 y3 y4 y5 y6=>Q (.agg #[.int .i64 y0,.int .i64 y1,.int .i64 y2,.int .u32 y3,.bool y4,.int .i64 y5,.bool y6]) w1
end Go.Proofs.YtmgjicnipgdjhaaGreatDoor
set_option maxRecDepth 100000
set_option maxHeartbeats 4000000
namespace Go.Proofs.YtmgjicnipgdjhaaGreatDoor
open Go Go.Sh Go.Proofs
open Go.IntKind (i64 u64 u32)
def F20 (p0:Addr) (w:World) (Q:KQ):Prop :=
 li_ w (at0 p0 4) .i64 fun a=>Q (.int .i64 a) w
theorem F20_of {p0 w Q} (h:F20 p0 w Q):Ret prog 20 #[.pointer (some p0)] w Q:=co Tryz.func20 h
def F21 (p0:Addr) (w:World) (Q:KQ):Prop :=
 New w #[.int .i64 0,.int .i64 0] 68 fun a b=>li_ b.drew (at0 p0 0) .i64 fun d=>li_ b.drew (at0 p0 1) .i64 fun e=>St b.drew a (.int .i64 d) fun f=>St f (at0 a 1) (.int .i64 e) fun c=>li_ c a .i64 fun g=>li_ c (at0 a 1) .i64 fun h=>Q (Value.agg #[.int .i64 g,.int .i64 h]) c
theorem F21_of {p0 w Q} (h:F21 p0 w Q):Ret prog 21 #[.pointer (some p0)] w Q:=co Tryz.func21 h
def F39 (first0 count1:Int) (w:World) (Q:KQ):Prop :=
 BIf (decide (count1<0)) (Q (Value.tuple #[.pointer none,.int .i64 41]) w) (BIf (decide (count1>1048576)) (Q (Value.tuple #[.pointer none,.int .i64 41]) w) (BIf (decide (first0<0)) (Q (Value.tuple #[.pointer none,.int .i64 40]) w) (BIf (decide (first0>i64.wrap ((268435456:Int)-count1))) (Q (Value.tuple #[.pointer none,.int .i64 40]) w) ((RunV prog (Instr.makeSlice 143 (.int .i64 count1) (.int .i64 count1)) w.drew fun a b=>t_ a fun c d e=>RunV prog (Instr.makeSlice 43 (.int .i64 (i64.wrap ((i64.wrap (count1+63)).tdiv (64:Int)))) (.int .i64 (i64.wrap ((i64.wrap (count1+63)).tdiv (64:Int))))) b fun f g=>t_ f fun h i j=>New g #[.int .i64 first0,.int .i64 count1,Value.slice c d e,Value.slice h i j,.int .i64 count1] 145 fun k l=>Q (Value.tuple #[.pointer (some k),.int .i64 0]) l)∧RunV prog (Instr.makeSlice 43 (.int .i64 (i64.wrap ((i64.wrap (count1+63)).tdiv (64:Int)))) (.int .i64 (i64.wrap ((i64.wrap (count1+63)).tdiv (64:Int))))) w.drew fun m n=>t_ m fun o p r=>RunV prog (Instr.makeSlice 143 (.int .i64 count1) (.int .i64 count1)) n fun t u=>t_ t fun v x y=>New u #[.int .i64 first0,.int .i64 count1,Value.slice v x y,Value.slice o p r,.int .i64 count1] 145 fun z a0=>Q (Value.tuple #[.pointer (some z),.int .i64 0]) a0))))
theorem F39_of {first0 count1 w Q} (h:F39 first0 count1 w Q):Ret prog 39 #[.int .i64 first0,.int .i64 count1] w Q:=co Tryz.func39 h
def F46 (p0:Addr) (n1 align2:Int) (w:World) (Q:KQ):Prop :=
 BIf (decide (n1<1)) (Q (Value.tuple #[.int .i64 0,.int .i64 41]) w) (BIf (decide (align2<1)) (Q (Value.tuple #[.int .i64 0,.int .i64 41]) w) (BIf (decide (align2>4096)) (Q (Value.tuple #[.int .i64 0,.int .i64 41]) w) (A_ prog 92 #[.int .u64 (u64.wrap align2)] w fun j f=>AsI .i64 j fun k=>BIf (k != 1) (Q (Value.tuple #[.int .i64 0,.int .i64 41]) f) (Sh.Loop [.int .i64 0,.int .i64 0,.int .i64 0] f fun l m n=>O_f m fun o p r t=>UnN t (A_ prog 93 #[.pointer (some p0),.int .i64 o,.bool false] n fun u a=>AsI .i64 u fun b=>li_ a (at0 p0 0) .i64 fun c=>NZ align2 (li_ a (at0 p0 0) .i64 fun d=>li_ a (at0 p0 1) .i64 fun v=>BIf (decide (i64.wrap (i64.wrap (i64.wrap ((i64.wrap (i64.wrap (i64.wrap (c+b)+align2)-1)).tdiv align2)*align2)-d)≥v)) (Q (Value.tuple #[.int .i64 0,.int .i64 42]) a) (li_ a (at0 p0 1) .i64 fun x=>BIf (decide (n1>i64.wrap (x-i64.wrap (i64.wrap (i64.wrap ((i64.wrap (i64.wrap (i64.wrap (c+b)+align2)-1)).tdiv align2)*align2)-d)))) (Q (Value.tuple #[.int .i64 0,.int .i64 42]) a) (A_ prog 93 #[.pointer (some p0),.int .i64 (i64.wrap (i64.wrap (i64.wrap ((i64.wrap (i64.wrap (i64.wrap (c+b)+align2)-1)).tdiv align2)*align2)-d)),.bool true] a fun y g=>AsI .i64 y fun h=>BIf (decide (h<i64.wrap (i64.wrap (i64.wrap (i64.wrap ((i64.wrap (i64.wrap (i64.wrap (c+b)+align2)-1)).tdiv align2)*align2)-d)+n1))) (l [.int .i64 (i64.wrap (h+1)),.int .i64 p,.int .i64 r] g) (Sh.Loop [.int .i64 0] g fun z a0 i=>ui_ a0 .i64 fun e a1=>UnN a1 (BIf (decide (e<n1)) (A_ prog 94 #[.pointer (some p0),.int .i64 (i64.wrap (i64.wrap (i64.wrap (i64.wrap ((i64.wrap (i64.wrap (i64.wrap (c+b)+align2)-1)).tdiv align2)*align2)-d)+e)),.int .u8 1] i fun a2 a3=>I_ a2 fun a4=>UnN a4 (z [.int .i64 (i64.wrap (e+1))] a3)) (Q (Value.tuple #[.int .i64 (i64.wrap (i64.wrap ((i64.wrap (i64.wrap (i64.wrap (c+b)+align2)-1)).tdiv align2)*align2)),.int .i64 0]) i)))))))))))
theorem F46_of {p0 n1 align2 w Q} (h:F46 p0 n1 align2 w Q):Ret prog 46 #[.pointer (some p0),.int .i64 n1,.int .i64 align2] w Q:=co Tryz.func46 h
def F47 (p0:Addr) (first1 n2:Int) (w:World) (Q:KQ):Prop :=
 A_ prog 95 #[.pointer (some p0),.int .i64 first1,.int .i64 n2] w fun f d=>I_ f fun g=>Uii g fun c e h=>UnN h (BIf (e != 0) (Q (Value.tuple #[.int .i64 0,.int .i64 e]) d) (li_ d (at0 p0 4) .i64 fun i=>Sh.Loop [.int .i64 0] d fun j k b=>ui_ k .i64 fun a l=>UnN l (BIf (decide (a<n2)) (ls_ b (at0 p0 2) fun m n x=>NilP m fun o=>0≤i64.wrap (c+a)∧i64.wrap (c+a)<(↑n:Int)∧li_ b (at0 o ((i64.wrap (c+a)).toNat*1)) .u8 fun p=>A_ prog 94 #[.pointer (some p0),.int .i64 (i64.wrap (c+a)),.int .u8 (IntKind.u8.wrap (p-1))] b fun r t=>I_ r fun u=>UnN u (j [.int .i64 (i64.wrap (a+1))] t)) (li_ b (at0 p0 4) .i64 fun v=>Q (Value.tuple #[.int .i64 (i64.wrap (v-i)),.int .i64 0]) b))))
theorem F47_of {p0 first1 n2 w Q} (h:F47 p0 first1 n2 w Q):Ret prog 47 #[.pointer (some p0),.int .i64 first1,.int .i64 n2] w Q:=co Tryz.func47 h
def F59 (s0:Addr) (w:World) (Q:KQ):Prop :=
 ls_ w (at0 s0 1) fun o i ar=>Sh.Loop [.int .i64 0,Value.slice none (0:Nat) (0:Nat)] w fun p r d=>Uis r fun b j k l t=>UnN t (BIf (decide (b<(↑i:Int))) (NilP o fun u=>0≤b∧b<(↑i:Int)∧i_i d (at0 u (b.toNat*5)) fun v x y z a0=>New d #[.int .i64 0,.bool false,.bool false,.bool false,.bool false] 222 fun e a1=>S_5 a1 e (.int .i64 v) (.bool x) (.bool y) (.bool z) (.bool a0) fun m=>Lbbbb m (at0 e 1) fun a2 a3 a4 a5=>Sh.Loop [.int .i64 0,Value.slice j k l] m fun a6 a7 c=>Uis a7 fun a f g h a8=>UnN a8 (BIf (decide (a<4)) (Join (fun a9 aa=>us_ a9 fun ab ac ad ae=>UnN ae (a6 [.int .i64 (i64.wrap (a+1)),Value.slice ab ac ad] aa)) fun n=>0≤a∧a<(↑(4:Nat):Int)∧∃v61,#[.bool a2,.bool a3,.bool a4,.bool a5][a.toNat*(1:Nat)]?=some v61∧AsB v61 fun af=>BIf af (li_ c (at0 e 0) .i64 fun ag=>RunV prog (Instr.buildSlice 70 1 #[(0,.int .i64 (i64.wrap (i64.wrap ((4:Int)*ag)+a)))]) c fun ah ai=>t_ ah fun aj ak al=>RunV prog (Builtin.append_ #[(70:Nat),(70:Nat)] (70:Nat) #[Value.slice f g h,Value.slice aj ak al]) ai fun am an=>t_ am fun ao ap aq=>n [Value.slice ao ap aq] an) (n [Value.slice f g h] c)) (p [.int .i64 (i64.wrap (b+1)),Value.slice f g h] c))) (Q (Value.slice j k l) d))
theorem F59_of {s0 w Q} (h:F59 s0 w Q):Ret prog 59 #[.pointer (some s0)] w Q:=co Tryz.func59 h
def F87 (p0:Addr) (w:World) (Q:KQ):Prop :=
 New w #[.pointer (some p0),Value.slice none (0:Nat) (0:Nat)] 219 fun a b=>Q (Value.tuple #[.pointer (some a),.int .i64 0]) b
theorem F87_of {p0 w Q} (h:F87 p0 w Q):Ret prog 87 #[.pointer (some p0)] w Q:=co Tryz.func87 h
def F92 (x0:Int) (w:World) (Q:KQ):Prop :=
 A_ prog 159 #[.int .u64 x0] w fun a b=>AsI .i64 a fun c=>Q (.int .i64 c) b
theorem F92_of {x0 w Q} (h:F92 x0 w Q):Ret prog 92 #[.int .u64 x0] w Q:=co Tryz.func92 h
def F93 (p0:Addr) (i1:Int) (busy2:Bool) (w:World) (Q:KQ):Prop :=
 Sh.Loop [.int .i64 0,.int .i64 i1] w fun j k b=>Uii k fun l a m=>UnN m (li_ b (at0 p0 1) .i64 fun n=>BIf (decide (a<n)) (ls_ b (at0 p0 3) fun o p z=>NilP o fun r=>0≤i64.wrap (a.tdiv (64:Int))∧i64.wrap (a.tdiv (64:Int))<(↑p:Int)∧Ld b (at0 r ((i64.wrap (a.tdiv (64:Int))).toNat*1)) fun t=>AsI .u64 t fun e=>Join (fun u c=>ui_ u .u64 fun f v=>UnN v (NN (a.tmod (64:Int)) (BIf (W_ u64 f (a.tmod (64:Int)) != 0) (li_ c.drew (at0 p0 1) .i64 fun d=>A_ prog 160 #[.int .u64 (W_ u64 f (a.tmod (64:Int)))] c.drew fun x g=>AsI .i64 x fun h=>ce_ g (at0 p0 1) (.int .i64 d)∧Q (.int .i64 (if d<i64.wrap (a+h) then d else i64.wrap (a+h))) g) (j [.int .i64 l,.int .i64 (i64.wrap (i64.wrap (i64.wrap (a.tdiv (64:Int))+1)*64))] c)))) fun i=>BIf (!busy2) (i [.int .u64 (notI u64 e)] b) (i [.int .u64 e] b)) (li_ b (at0 p0 1) .i64 fun y=>Q (.int .i64 y) b))
theorem F93_of {p0 i1 busy2 w Q} (h:F93 p0 i1 busy2 w Q):Ret prog 93 #[.pointer (some p0),.int .i64 i1,.bool busy2] w Q:=co Tryz.func93 h
def F94 (p0:Addr) (i1 n2:Int) (w:World) (Q:KQ):Prop :=
 Join (fun k a=>UnN k (Join (fun l f=>UnN l (ls_ f (at0 p0 2) fun m n ad=>NilP m fun o=>0≤i1∧i1<(↑n:Int)∧St f (at0 o (i1.toNat*1)) (.int .u8 n2) fun p=>Q (Value.tuple #[]) p)) fun b=>ls_ a (at0 p0 2) fun r t ae=>NilP r fun u=>0≤i1∧i1<(↑t:Int)∧li_ a (at0 u (i1.toNat*1)) .u8 fun v=>BIf (decide (v>0)) (BIf (n2==0) (li_ a (at0 p0 4) .i64 fun x=>St a (at0 p0 4) (.int .i64 (i64.wrap (x+1))) fun c=>ls_ c.drew (at0 p0 3) fun g h af=>NilP g fun y=>0≤i64.wrap (i1.tdiv (64:Int))∧i64.wrap (i1.tdiv (64:Int))<(↑h:Int)∧Ld c.drew (at0 y ((i64.wrap (i1.tdiv (64:Int))).toNat*1)) fun z=>AsI .u64 z fun a0=>NN (i1.tmod (64:Int)) (NilP g fun a1=>0≤i64.wrap (i1.tdiv (64:Int))∧i64.wrap (i1.tdiv (64:Int))<(↑h:Int)∧St c.drew (at0 a1 ((i64.wrap (i1.tdiv (64:Int))).toNat*1)) (.int .u64 (n_ u64 a0 (l_ u64 (1:Int) (i1.tmod (64:Int))))) fun a2=>b [] a2)) (b [] a)) (b [] a))) fun d=>ls_ w (at0 p0 2) fun a3 a4 ag=>NilP a3 fun a5=>0≤i1∧i1<(↑a4:Int)∧li_ w (at0 a5 (i1.toNat*1)) .u8 fun a6=>BIf (a6==0) (BIf (decide (n2>0)) (li_ w (at0 p0 4) .i64 fun a7=>St w (at0 p0 4) (.int .i64 (i64.wrap (a7-1))) fun e=>ls_ e.drew (at0 p0 3) fun i j ah=>NilP i fun a8=>0≤i64.wrap (i1.tdiv (64:Int))∧i64.wrap (i1.tdiv (64:Int))<(↑j:Int)∧Ld e.drew (at0 a8 ((i64.wrap (i1.tdiv (64:Int))).toNat*1)) fun a9=>AsI .u64 a9 fun aa=>NN (i1.tmod (64:Int)) (NilP i fun ab=>0≤i64.wrap (i1.tdiv (64:Int))∧i64.wrap (i1.tdiv (64:Int))<(↑j:Int)∧St e.drew (at0 ab ((i64.wrap (i1.tdiv (64:Int))).toNat*1)) (.int .u64 (orI u64 aa (l_ u64 (1:Int) (i1.tmod (64:Int))))) fun ac=>d [] ac)) (d [] w)) (d [] w)
theorem F94_of {p0 i1 n2 w Q} (h:F94 p0 i1 n2 w Q):Ret prog 94 #[.pointer (some p0),.int .i64 i1,.int .u8 n2] w Q:=co Tryz.func94 h
def F95 (p0:Addr) (first1 n2:Int) (w:World) (Q:KQ):Prop :=
 BIf (decide (n2<1)) (Q (Value.tuple #[.int .i64 0,.int .i64 41]) w) (li_ w.drew (at0 p0 0) .i64 fun c=>BIf (decide (first1<c)) (Q (Value.tuple #[.int .i64 0,.int .i64 40]) w.drew) (li_ w.drew (at0 p0 0) .i64 fun d=>li_ w.drew (at0 p0 1) .i64 fun e=>BIf (decide (first1≥i64.wrap (d+e))) (Q (Value.tuple #[.int .i64 0,.int .i64 40]) w.drew) (li_ w.drew (at0 p0 0) .i64 fun f=>li_ w.drew (at0 p0 1) .i64 fun g=>BIf (decide (n2>i64.wrap (i64.wrap (f+g)-first1))) (Q (Value.tuple #[.int .i64 0,.int .i64 40]) w.drew) (li_ w.drew (at0 p0 0) .i64 fun a=>A_ prog 93 #[.pointer (some p0),.int .i64 (i64.wrap (first1-a)),.bool false] w.drew fun h b=>AsI .i64 h fun i=>BIf (decide (i<i64.wrap (i64.wrap (first1-a)+n2))) (Q (Value.tuple #[.int .i64 0,.int .i64 43]) b) (Q (Value.tuple #[.int .i64 (i64.wrap (first1-a)),.int .i64 0]) b)))))
theorem F95_of {p0 first1 n2 w Q} (h:F95 p0 first1 n2 w Q):Ret prog 95 #[.pointer (some p0),.int .i64 first1,.int .i64 n2] w Q:=co Tryz.func95 h
def F113 (s0:Addr) (t1:Int) (w:World) (Q:KQ):Prop :=
 ls_ w (at0 s0 1) fun aj l ak=>Sh.Loop [.int .i64 0,.int .i64 0] w fun m n c=>Uii n fun a f o=>UnN o (BIf (decide (a<(↑l:Int))) (Join (fun p r=>ui_ p .i64 fun t u=>UnN u (m [.int .i64 (i64.wrap (a+1)),.int .i64 t] r)) fun g=>ls_ c (at0 s0 1) fun v x al=>NilP v fun d=>0≤a∧a<(↑x:Int)∧li_ c (at0 (at0 d (a.toNat*5)) 0) .i64 fun e=>BIf (decide (i64.wrap (t1-i64.wrap ((4:Int)*e))<0)) (g [.int .i64 f] c) (BIf (decide (i64.wrap (t1-i64.wrap ((4:Int)*e))>3)) (g [.int .i64 f] c) (0≤i64.wrap (t1-i64.wrap ((4:Int)*e))∧i64.wrap (t1-i64.wrap ((4:Int)*e))<(↑(4:Nat):Int)∧Ld c (at0 (at0 (at0 d (a.toNat*5)) 1) ((i64.wrap (t1-i64.wrap ((4:Int)*e))).toNat*1)) fun y=>AsB y fun z=>BIf (!z) (g [.int .i64 f] c) (0≤i64.wrap (t1-i64.wrap ((4:Int)*e))∧i64.wrap (t1-i64.wrap ((4:Int)*e))<(↑(4:Nat):Int)∧St c (at0 (at0 (at0 d (a.toNat*5)) 1) ((i64.wrap (t1-i64.wrap ((4:Int)*e))).toNat*1)) (.bool false) fun b=>lb_ b (at0 (at0 d (a.toNat*5)) 1) fun a0=>lb_ b (at0 (at0 (at0 d (a.toNat*5)) 1) (1:Nat)) fun a1=>lb_ b (at0 (at0 (at0 d (a.toNat*5)) 1) (2:Nat)) fun a2=>lb_ b (at0 (at0 (at0 d (a.toNat*5)) 1) (3:Nat)) fun a3=>RunP prog (v_ BinOp.eql 220 (Operand.tmp 53) (Operand.tmp 54) (Value.agg #[.bool a0,.bool a1,.bool a2,.bool a3]) (Value.agg #[.bool false,.bool false,.bool false,.bool false])) fun a4=>AsB a4 fun a5=>BIf a5 (li_ b (at0 (at0 d (a.toNat*5)) 0) .i64 fun a6=>ls_ b.drew (at0 s0 1) fun a7 am h=>0≤a∧a≤(↑h:Int)∧ls_ b.drew (at0 s0 1) fun a8 i j=>0≤i64.wrap (a+1)∧i64.wrap (a+1)≤(↑i:Int)∧RunV prog (Builtin.append_ #[(217:Nat),(217:Nat)] (217:Nat) #[Value.slice (S_ a7 (0:Nat) h (5:Nat)) (a.toNat-(0:Nat)) (h-(0:Nat)),Value.slice (S_ a8 (i64.wrap (a+1)).toNat j (5:Nat)) (i-(i64.wrap (a+1)).toNat) (j-(i64.wrap (a+1)).toNat)]) b.drew fun a9 aa=>t_ a9 fun ab ac ad=>St aa (at0 s0 1) (Value.slice ab ac ad) fun k=>lp_ k (at0 s0 0) fun ae=>A_ prog 47 #[.pointer ae,.int .i64 a6,.int .i64 1] k fun af ag=>I_ af fun ah=>Uii ah fun an ao ai=>UnN ai (Q (.int .i64 0) ag)) (Q (.int .i64 0) b))))) (Q (.int .i64 45) c))
theorem F113_of {s0 t1 w Q} (h:F113 s0 t1 w Q):Ret prog 113 #[.pointer (some s0),.int .i64 t1] w Q:=co Tryz.func113 h
def F119 (s0:Addr) (w:World) (Q:KQ):Prop :=
 ls_ w (at0 s0 1) fun i c a7=>Sh.Loop [.int .i64 0,Value.slice none (0:Nat) (0:Nat)] w fun j k b=>Uis k fun a d e f l=>UnN l (BIf (decide (a<(↑c:Int))) (NilP i fun m=>0≤a∧a<(↑c:Int)∧i_i b (at0 m (a.toNat*5)) fun n o p r t=>New b #[.int .i64 0,.bool false,.bool false,.bool false,.bool false] 222 fun g u=>S_5 u g (.int .i64 n) (.bool o) (.bool p) (.bool r) (.bool t) fun h=>li_ h (at0 g 0) .i64 fun v=>RunV prog (Instr.buildSlice 70 1 #[(0,.int .i64 v)]) h fun x y=>t_ x fun z a0 a1=>RunV prog (Builtin.append_ #[(70:Nat),(70:Nat)] (70:Nat) #[Value.slice d e f,Value.slice z a0 a1]) y fun a2 a3=>t_ a2 fun a4 a5 a6=>j [.int .i64 (i64.wrap (a+1)),Value.slice a4 a5 a6] a3) (Q (Value.slice d e f) b))
theorem F119_of {s0 w Q} (h:F119 s0 w Q):Ret prog 119 #[.pointer (some s0)] w Q:=co Tryz.func119 h
def F120 (s0:Addr) (w:World) (Q:KQ):Prop :=
 ls_ w (at0 s0 1) fun aZ x b0=>Sh.Loop [.int .i64 0,.int .i64 0,.int .i64 0] w fun y z g=>O_f z fun a a0 a1 a2=>UnN a2 (BIf (decide (a<(↑x:Int))) (Sh.Loop [.int .i64 0,.int .i64 a0,.int .i64 a1] g fun a3 a4 e=>O_f a4 fun b k l a5=>UnN a5 (BIf (decide (b<4)) (ls_ e (at0 s0 1) fun a6 a7 b1=>NilP a6 fun a8=>0≤a∧a<(↑a7:Int)∧0≤b∧b<(↑(4:Nat):Int)∧lb_ e (at0 (at0 (at0 a8 (a.toNat*5)) 1) (b.toNat*1)) fun a9=>BIf (!a9) (ls_ e (at0 s0 1) fun aa ab b2=>NilP aa fun ac=>0≤a∧a<(↑ab:Int)∧0≤b∧b<(↑(4:Nat):Int)∧St e (at0 (at0 (at0 ac (a.toNat*5)) 1) (b.toNat*1)) (.bool true) fun h=>ls_ h (at0 s0 1) fun ad ae b3=>NilP ad fun af=>0≤a∧a<(↑ae:Int)∧li_ h (at0 (at0 af (a.toNat*5)) 0) .i64 fun ag=>Q (Value.tuple #[.int .i64 (i64.wrap (i64.wrap ((4:Int)*ag)+b)),.int .i64 0]) h) (a3 [.int .i64 (i64.wrap (b+1)),.int .i64 k,.int .i64 l] e)) (y [.int .i64 (i64.wrap (a+1)),.int .i64 k,.int .i64 l] e))) (lp_ g (at0 s0 0) fun ah=>A_ prog 46 #[.pointer ah,.int .i64 1,.int .i64 1] g fun ai m=>I_ ai fun aj=>Uii aj fun i n ak=>UnN ak (BIf (n != 0) (Q (Value.tuple #[.int .i64 0,.int .i64 n]) m) (Join (fun al o=>ui_ al .i64 fun c am=>UnN am (ls_ o (at0 s0 1) fun b4 an b5=>RunV prog (Instr.makeSlice 217 (.int .i64 0) (.int .i64 (i64.wrap ((↑an:Int)+1)))) o fun ao p=>t_ ao fun ap aq ar=>ls_ p (at0 s0 1) fun au b6 j=>0≤c∧c≤(↑j:Int)∧RunV prog (Builtin.append_ #[(217:Nat),(217:Nat)] (217:Nat) #[Value.slice ap aq ar,Value.slice (S_ au (0:Nat) j (5:Nat)) (c.toNat-(0:Nat)) (j-(0:Nat))]) p fun av ax=>t_ av fun ay az aA=>RunV prog (Instr.buildSlice 217 1 #[(0,Value.agg #[.int .i64 i,.bool true,.bool false,.bool false,.bool false])]) ax fun aB aC=>t_ aB fun aD aE aF=>RunV prog (Builtin.append_ #[(217:Nat),(217:Nat)] (217:Nat) #[Value.slice ay az aA,Value.slice aD aE aF]) aC fun aG r=>t_ aG fun aH aI aJ=>ls_ r (at0 s0 1) fun aK t u=>0≤c∧c≤(↑t:Int)∧RunV prog (Builtin.append_ #[(217:Nat),(217:Nat)] (217:Nat) #[Value.slice aH aI aJ,Value.slice (S_ aK c.toNat u (5:Nat)) (t-c.toNat) (u-c.toNat)]) r fun aL aM=>t_ aL fun aN aO aP=>St aM (at0 s0 1) (Value.slice aN aO aP) fun aQ=>Q (Value.tuple #[.int .i64 (i64.wrap ((4:Int)*i)),.int .i64 0]) aQ)) fun v=>Sh.Loop [.int .i64 0] m fun aR aS f=>ui_ aS .i64 fun d aT=>UnN aT (ls_ f (at0 s0 1) fun b7 aU b8=>BIf (decide (d<(↑aU:Int))) (ls_ f (at0 s0 1) fun aV aW b9=>NilP aV fun aX=>0≤d∧d<(↑aW:Int)∧li_ f (at0 (at0 aX (d.toNat*5)) 0) .i64 fun aY=>BIf (decide (aY<i)) (aR [.int .i64 (i64.wrap (d+1))] f) (v [.int .i64 d] f)) (v [.int .i64 d] f))))))
theorem F120_of {s0 w Q} (h:F120 s0 w Q):Ret prog 120 #[.pointer (some s0)] w Q:=co Tryz.func120 h
def F159 (x0:Int) (w:World) (Q:KQ):Prop :=
 Q (.int .i64 (Q_ i64 (i64.wrap (u64.wrap (u64.wrap (u64.wrap (Q_ u64 (u64.wrap (W_ u64 (u64.wrap (Q_ u64 (W_ u64 (u64.wrap (Q_ u64 (W_ u64 x0 (1:Int)) (6148914691236517205:Int)+Q_ u64 x0 (6148914691236517205:Int))) (2:Int)) (3689348814741910323:Int)+Q_ u64 (u64.wrap (Q_ u64 (W_ u64 x0 (1:Int)) (6148914691236517205:Int)+Q_ u64 x0 (6148914691236517205:Int))) (3689348814741910323:Int))) (4:Int)+u64.wrap (Q_ u64 (W_ u64 (u64.wrap (Q_ u64 (W_ u64 x0 (1:Int)) (6148914691236517205:Int)+Q_ u64 x0 (6148914691236517205:Int))) (2:Int)) (3689348814741910323:Int)+Q_ u64 (u64.wrap (Q_ u64 (W_ u64 x0 (1:Int)) (6148914691236517205:Int)+Q_ u64 x0 (6148914691236517205:Int))) (3689348814741910323:Int)))) (1085102592571150095:Int)+W_ u64 (Q_ u64 (u64.wrap (W_ u64 (u64.wrap (Q_ u64 (W_ u64 (u64.wrap (Q_ u64 (W_ u64 x0 (1:Int)) (6148914691236517205:Int)+Q_ u64 x0 (6148914691236517205:Int))) (2:Int)) (3689348814741910323:Int)+Q_ u64 (u64.wrap (Q_ u64 (W_ u64 x0 (1:Int)) (6148914691236517205:Int)+Q_ u64 x0 (6148914691236517205:Int))) (3689348814741910323:Int))) (4:Int)+u64.wrap (Q_ u64 (W_ u64 (u64.wrap (Q_ u64 (W_ u64 x0 (1:Int)) (6148914691236517205:Int)+Q_ u64 x0 (6148914691236517205:Int))) (2:Int)) (3689348814741910323:Int)+Q_ u64 (u64.wrap (Q_ u64 (W_ u64 x0 (1:Int)) (6148914691236517205:Int)+Q_ u64 x0 (6148914691236517205:Int))) (3689348814741910323:Int)))) (1085102592571150095:Int)) (8:Int))+W_ u64 (u64.wrap (Q_ u64 (u64.wrap (W_ u64 (u64.wrap (Q_ u64 (W_ u64 (u64.wrap (Q_ u64 (W_ u64 x0 (1:Int)) (6148914691236517205:Int)+Q_ u64 x0 (6148914691236517205:Int))) (2:Int)) (3689348814741910323:Int)+Q_ u64 (u64.wrap (Q_ u64 (W_ u64 x0 (1:Int)) (6148914691236517205:Int)+Q_ u64 x0 (6148914691236517205:Int))) (3689348814741910323:Int))) (4:Int)+u64.wrap (Q_ u64 (W_ u64 (u64.wrap (Q_ u64 (W_ u64 x0 (1:Int)) (6148914691236517205:Int)+Q_ u64 x0 (6148914691236517205:Int))) (2:Int)) (3689348814741910323:Int)+Q_ u64 (u64.wrap (Q_ u64 (W_ u64 x0 (1:Int)) (6148914691236517205:Int)+Q_ u64 x0 (6148914691236517205:Int))) (3689348814741910323:Int)))) (1085102592571150095:Int)+W_ u64 (Q_ u64 (u64.wrap (W_ u64 (u64.wrap (Q_ u64 (W_ u64 (u64.wrap (Q_ u64 (W_ u64 x0 (1:Int)) (6148914691236517205:Int)+Q_ u64 x0 (6148914691236517205:Int))) (2:Int)) (3689348814741910323:Int)+Q_ u64 (u64.wrap (Q_ u64 (W_ u64 x0 (1:Int)) (6148914691236517205:Int)+Q_ u64 x0 (6148914691236517205:Int))) (3689348814741910323:Int))) (4:Int)+u64.wrap (Q_ u64 (W_ u64 (u64.wrap (Q_ u64 (W_ u64 x0 (1:Int)) (6148914691236517205:Int)+Q_ u64 x0 (6148914691236517205:Int))) (2:Int)) (3689348814741910323:Int)+Q_ u64 (u64.wrap (Q_ u64 (W_ u64 x0 (1:Int)) (6148914691236517205:Int)+Q_ u64 x0 (6148914691236517205:Int))) (3689348814741910323:Int)))) (1085102592571150095:Int)) (8:Int))) (16:Int))+W_ u64 (u64.wrap (u64.wrap (Q_ u64 (u64.wrap (W_ u64 (u64.wrap (Q_ u64 (W_ u64 (u64.wrap (Q_ u64 (W_ u64 x0 (1:Int)) (6148914691236517205:Int)+Q_ u64 x0 (6148914691236517205:Int))) (2:Int)) (3689348814741910323:Int)+Q_ u64 (u64.wrap (Q_ u64 (W_ u64 x0 (1:Int)) (6148914691236517205:Int)+Q_ u64 x0 (6148914691236517205:Int))) (3689348814741910323:Int))) (4:Int)+u64.wrap (Q_ u64 (W_ u64 (u64.wrap (Q_ u64 (W_ u64 x0 (1:Int)) (6148914691236517205:Int)+Q_ u64 x0 (6148914691236517205:Int))) (2:Int)) (3689348814741910323:Int)+Q_ u64 (u64.wrap (Q_ u64 (W_ u64 x0 (1:Int)) (6148914691236517205:Int)+Q_ u64 x0 (6148914691236517205:Int))) (3689348814741910323:Int)))) (1085102592571150095:Int)+W_ u64 (Q_ u64 (u64.wrap (W_ u64 (u64.wrap (Q_ u64 (W_ u64 (u64.wrap (Q_ u64 (W_ u64 x0 (1:Int)) (6148914691236517205:Int)+Q_ u64 x0 (6148914691236517205:Int))) (2:Int)) (3689348814741910323:Int)+Q_ u64 (u64.wrap (Q_ u64 (W_ u64 x0 (1:Int)) (6148914691236517205:Int)+Q_ u64 x0 (6148914691236517205:Int))) (3689348814741910323:Int))) (4:Int)+u64.wrap (Q_ u64 (W_ u64 (u64.wrap (Q_ u64 (W_ u64 x0 (1:Int)) (6148914691236517205:Int)+Q_ u64 x0 (6148914691236517205:Int))) (2:Int)) (3689348814741910323:Int)+Q_ u64 (u64.wrap (Q_ u64 (W_ u64 x0 (1:Int)) (6148914691236517205:Int)+Q_ u64 x0 (6148914691236517205:Int))) (3689348814741910323:Int)))) (1085102592571150095:Int)) (8:Int))+W_ u64 (u64.wrap (Q_ u64 (u64.wrap (W_ u64 (u64.wrap (Q_ u64 (W_ u64 (u64.wrap (Q_ u64 (W_ u64 x0 (1:Int)) (6148914691236517205:Int)+Q_ u64 x0 (6148914691236517205:Int))) (2:Int)) (3689348814741910323:Int)+Q_ u64 (u64.wrap (Q_ u64 (W_ u64 x0 (1:Int)) (6148914691236517205:Int)+Q_ u64 x0 (6148914691236517205:Int))) (3689348814741910323:Int))) (4:Int)+u64.wrap (Q_ u64 (W_ u64 (u64.wrap (Q_ u64 (W_ u64 x0 (1:Int)) (6148914691236517205:Int)+Q_ u64 x0 (6148914691236517205:Int))) (2:Int)) (3689348814741910323:Int)+Q_ u64 (u64.wrap (Q_ u64 (W_ u64 x0 (1:Int)) (6148914691236517205:Int)+Q_ u64 x0 (6148914691236517205:Int))) (3689348814741910323:Int)))) (1085102592571150095:Int)+W_ u64 (Q_ u64 (u64.wrap (W_ u64 (u64.wrap (Q_ u64 (W_ u64 (u64.wrap (Q_ u64 (W_ u64 x0 (1:Int)) (6148914691236517205:Int)+Q_ u64 x0 (6148914691236517205:Int))) (2:Int)) (3689348814741910323:Int)+Q_ u64 (u64.wrap (Q_ u64 (W_ u64 x0 (1:Int)) (6148914691236517205:Int)+Q_ u64 x0 (6148914691236517205:Int))) (3689348814741910323:Int))) (4:Int)+u64.wrap (Q_ u64 (W_ u64 (u64.wrap (Q_ u64 (W_ u64 x0 (1:Int)) (6148914691236517205:Int)+Q_ u64 x0 (6148914691236517205:Int))) (2:Int)) (3689348814741910323:Int)+Q_ u64 (u64.wrap (Q_ u64 (W_ u64 x0 (1:Int)) (6148914691236517205:Int)+Q_ u64 x0 (6148914691236517205:Int))) (3689348814741910323:Int)))) (1085102592571150095:Int)) (8:Int))) (16:Int))) (32:Int)))) (127:Int))) w
theorem F159_of {x0 w Q} (h:F159 x0 w Q):Ret prog 159 #[.int .u64 x0] w Q:=co Tryz.func159 h
def F160 (x0:Int) (w:World) (Q:KQ):Prop :=
 BIf (x0==0) (Q (.int .i64 64) w) (0≤W_ u64 (u64.wrap (Q_ u64 x0 (u64.wrap ((0:Int)-x0))*285870213051353865)) (58:Int)∧W_ u64 (u64.wrap (Q_ u64 x0 (u64.wrap ((0:Int)-x0))*285870213051353865)) (58:Int)<(↑(64:Nat):Int)∧Ld w (at0 { block:=(3:Nat),off:=(0:Nat) } ((W_ u64 (u64.wrap (Q_ u64 x0 (u64.wrap ((0:Int)-x0))*285870213051353865)) (58:Int)).toNat*1)) fun a=>AsI .u8 a fun b=>Q (.int .i64 (i64.wrap b)) w)
theorem F160_of {x0 w Q} (h:F160 x0 w Q):Ret prog 160 #[.int .u64 x0] w Q:=co Tryz.func160 h
end Go.Proofs.YtmgjicnipgdjhaaGreatDoor
namespace Go.Sh
open Go.IntKind (i64 u64 u32)
theorem w64 {n:Int} (h0:-9223372036854775808≤n) (h1:n≤9223372036854775807):i64.wrap n=n:=IntWalk.i64_in n ⟨h0,h1⟩
theorem b_a {n:Int} (h0:0≤n) (h1:n≤18446744073709551615):u64.wrap n=n:=IntWalk.u64_in n ⟨h0,h1⟩
theorem k_i {n:Int} (h0:0≤n) (h1:n≤4294967295):u32.wrap n=n:=IntWalk.u32_in n ⟨h0,h1⟩
theorem wu8 {n:Int} (h0:0≤n) (h1:n≤255):IntKind.u8.wrap n=n:=IntWalk.u8_in n ⟨h0,h1⟩
theorem y_ (b a:Nat) (h:a<2^b):(BitVec.ofInt b (a:Int)).toNat=a:=by
 rw [BitVec.ofInt_natCast,BitVec.toNat_ofNat,Nat.mod_eq_of_lt h]
theorem N_b (n:Nat) (h:n<2^64):u64.wrap (n:Int)=n:=b_a (by omega) (by omega)
theorem T_a (n:Nat) (h:n<2^32):u32.wrap (n:Int)=n:=k_i (by omega) (by omega)
section
variable {a b:Nat}
theorem b_e (ha:a<2^64) (hb:b<2^64):Q_ .u64 a b=((a &&& b:Nat):Int):=by
 unfold Q_;rw [BitVec.toNat_and];show u64.wrap (((BitVec.ofInt 64 a).toNat &&& (BitVec.ofInt 64 b).toNat:Nat):Int)=_;rw [y_ 64 a ha,y_ 64 b hb,N_b _ (Nat.and_lt_two_pow _ hb)]
theorem d_h (ha:a<2^64) (hb:b<2^64):orI .u64 a b=((a ||| b:Nat):Int):=by
 unfold orI;rw [BitVec.toNat_or];show u64.wrap (((BitVec.ofInt 64 a).toNat ||| (BitVec.ofInt 64 b).toNat:Nat):Int)=_;rw [y_ 64 a ha,y_ 64 b hb,N_b _ (Nat.or_lt_two_pow ha hb)]
theorem T_e (ha:a<2^64) (hb:b<2^64):O_j .u64 a b=((a ^^^ b:Nat):Int):=by
 unfold O_j;rw [BitVec.toNat_xor];show u64.wrap (((BitVec.ofInt 64 a).toNat ^^^ (BitVec.ofInt 64 b).toNat:Nat):Int)=_;rw [y_ 64 a ha,y_ 64 b hb,N_b _ (Nat.xor_lt_two_pow ha hb)]
theorem K_f (ha:a<2^64) (hb:b<2^64):n_ .u64 a b=((a &&& (2^64-1-b):Nat):Int):=by
 unfold n_;rw [BitVec.toNat_and,BitVec.toNat_not];show u64.wrap (((BitVec.ofInt 64 a).toNat &&& (2^64-1-(BitVec.ofInt 64 b).toNat):Nat):Int)=_;rw [y_ 64 a ha,y_ 64 b hb,N_b _ (Nat.and_lt_two_pow _ (by omega))]
theorem notI_u64 (ha:a<2^64):notI .u64 a=((2^64-1-a:Nat):Int):=by
 unfold notI;have h1:(if u64.signed=true then (-1:Int) else u64.max)=((2^64-1:Nat):Int):=by decide
 rw [h1,T_e (by decide) ha]
 congr 1
 apply Nat.eq_of_testBit_eq
 intro i;rw [Nat.testBit_xor,Nat.testBit_two_pow_sub_one,show 2^64-1-a=2^64-(a+1) from by omega,Nat.testBit_two_pow_sub_succ ha];by_cases h:i<64
 ·simp [h]
 ·have:a.testBit i=false:=Nat.testBit_lt_two_pow (Nat.lt_of_lt_of_le ha (Nat.pow_le_pow_right (by decide) (by omega)));simp [h,this]
theorem J_a {k:IntKind} {n:Nat} (hn:n≤k.bits):W_ k a n=((a >>> n:Nat):Int):=by
 unfold W_;rw [show min (n:Int).toNat k.bits=n from by rw [Int.toNat_natCast];exact Nat.min_eq_left hn,Nat.shiftRight_eq_div_pow];rw [Int.fdiv_eq_ediv_of_nonneg _ (by exact_mod_cast Nat.zero_le _)]
 norm_cast
theorem B_d {n:Nat} (hn:n<64) (h:a <<< n<2^64):l_ .u64 a n=((a <<< n:Nat):Int):=by
 unfold l_;rw [show min (n:Int).toNat u64.bits=n from by rw [Int.toNat_natCast];exact Nat.min_eq_left (Nat.le_of_lt hn)];rw [Nat.shiftLeft_eq] at h ⊢;rw [←N_b _ h]
 congr 1
end
end Go.Sh
namespace Go.Fr
def next (u:List Nat) (busy:Bool) (i:Nat):Nat :=
 if h:i<u.length then (if decide (0<u[i])=busy then i else next u busy (i+1)) else u.length
termination_by u.length-i
theorem X_e {u:List Nat} {busy:Bool} {i:Nat} (h:u.length≤i):next u busy i=u.length:=by
 rw [next,dif_neg (by omega)]
theorem next_hit {u:List Nat} {busy:Bool} {i:Nat} (h:i<u.length) (hb:decide (0<u[i])=busy):next u busy i=i:=by
 rw [next,dif_pos h,if_pos hb]
theorem L_k {u:List Nat} {busy:Bool} {i:Nat} (h:i<u.length) (hb:decide (0<u[i])≠busy):next u busy i=next u busy (i+1):=by
 rw [next,dif_pos h,if_neg hb]
theorem o_e {u:List Nat} {busy:Bool}:∀(d i:Nat),(∀t,t<d→∀h:i+t<u.length,decide (0<u[i+t])≠busy)→next u busy i=next u busy (i+d)
 | 0,i,_=>rfl
 | d+1,i,h=>by
  by_cases hi:i<u.length
  ·rw [L_k hi (h 0 (by omega) (by omega)),o_e d (i+1) (fun t ht hh=>by have:=h (t+1) (by omega) (by omega);simpa [Nat.add_assoc,Nat.add_comm 1 t] using this)]
   congr 1;omega
  ·rw [X_e (by omega),X_e (by omega)]
theorem H_b (u:List Nat) (busy:Bool) (i:Nat):next u busy i≤u.length∧(i≤u.length→i≤next u busy i)∧(∀h:next u busy i<u.length,decide (0<u[next u busy i])=busy) ∧
  (∀j,i≤j→j<next u busy i→∀h:j<u.length,decide (0<u[j])≠busy):=by
 fun_induction next u busy i with
 | case1 i h hb=>exact⟨by omega,fun _=>Nat.le_refl _,fun _=>hb,fun j h1 h2=>by omega⟩
 | case2 i h hb ih =>
  obtain⟨h1,h2,h3,h4⟩:=ih;refine⟨h1,fun _=>by have:=h2 (by omega);omega,h3,fun j hj hj2 hh=>?_⟩;by_cases e:j=i
  ·subst e;exact hb
  ·exact h4 j (by omega) hj2 hh
 | case3 i h=>exact⟨Nat.le_refl _,fun hi=>hi,fun hh=>absurd hh (by omega),fun j h1 h2 hh=>by omega⟩
structure Bits (u ws:List Nat):Prop where
 len:ws.length=(u.length+63)/64
 lt:∀k,(h:k<ws.length)→ws[k]<2^64
 bit:∀k j,(h:k<ws.length)→j<64→(ws[k]).testBit j=decide (0<u.getD (64*k+j) 0)
theorem ctz_spec {n x:Nat} (h0:x≠0) (h:x<2^n):x.testBit (Lib.ctz n x)=true∧(∀j,j<Lib.ctz n x→x.testBit j=false)∧Lib.ctz n x<n:=by
 obtain⟨m,hm,hk⟩:=Lib.ctzFrom_spec n x (by omega) h;have e:Lib.ctz n x=Lib.ctzFrom n x:=by simp [Lib.ctz,h0]
 rw [e];generalize Lib.ctzFrom n x=k at *;subst hm;refine⟨?_,fun j hj=>?_,hk⟩
 ·rw [Nat.testBit_two_pow_mul];simp [Nat.testBit_zero]
 ·rw [Nat.testBit_two_pow_mul];simp;omega
theorem r_ {u:List Nat} {i:Nat} (h:i<u.length):u.getD i 0=u[i]:=by simp [List.getD,h]
theorem J_k {u ws:List Nat} (hb:Bits u ws) {busy:Bool} {i:Nat} (hi:i<u.length) (hk:i/64<ws.length)
  (W:Nat) (hW:W=if busy then ws[i/64] else 2^64-1-ws[i/64]) :
  W<2^64∧(W >>> (i%64)=0→next u busy i=next u busy ((i/64+1)*64)) ∧
  (W >>> (i%64)≠0→next u busy i=min (i+Lib.ctz 64 (W >>> (i%64))) u.length∧Lib.ctz 64 (W >>> (i%64))<64):=by
 have hwl:=hb.lt _ hk;have hWl:W<2^64:=by subst hW;split<;>omega
 have hbit:∀j,j<64→W.testBit j=(decide (0<u.getD (64*(i/64)+j) 0)==busy):=by
  intro j hj;have h1:=hb.bit _ j hk hj;subst hW;cases busy with
  | true=>simp [h1]
  | false =>
   rw [if_neg (by simp),show 2^64-1-ws[i/64]=2^64-(ws[i/64]+1) from by omega,Nat.testBit_two_pow_sub_succ hwl,h1];simp [hj]
 have hhigh:∀j,64≤j→W.testBit j=false:=fun j hj=>Nat.testBit_lt_two_pow (Nat.lt_of_lt_of_le hWl (Nat.pow_le_pow_right (by decide) hj));have hs:W >>> (i%64)<2^64:=Nat.lt_of_le_of_lt (Nat.shiftRight_le _ _) hWl;have hsb:∀t,(W >>> (i%64)).testBit t=W.testBit (i%64+t):=fun t=>Nat.testBit_shiftRight ..;have hval:∀t,i%64+t<64→(W >>> (i%64)).testBit t=(decide (0<u.getD (i+t) 0)==busy):=by
  intro t ht;rw [hsb,hbit _ ht]
  congr 3
  congr 1
  omega
 have hlt:∀t,(W >>> (i%64)).testBit t=true→i%64+t<64:=by
  intro t ht;rcases Nat.lt_or_ge (i%64+t) 64 with h|h
  ·exact h
  ·rw [hsb,hhigh _ h] at ht;cases ht
 refine⟨hWl,fun h0=>?_,fun h0=>?_⟩
 ·rw [o_e (64-i%64) i ?_]
  ·congr 1;omega
  ·intro t ht hh;have:=hval t (by omega);rw [h0,Nat.zero_testBit,r_ hh] at this;intro e;rw [e] at this;simp at this
 ·obtain⟨c1,c2,c3⟩:=ctz_spec h0 hs;generalize Lib.ctz 64 (W >>> (i%64))=c at *;have hc:=hlt c c1;refine⟨?_,c3⟩;rw [o_e c i ?_]
  ·by_cases hin:i+c<u.length
   ·rw [next_hit hin,Nat.min_eq_left (by omega)];have:=hval c hc;rw [c1,r_ hin] at this;simpa using this.symm
   ·rw [X_e (by omega),Nat.min_eq_right (by omega)]
  ·intro t ht hh;have:=hval t (by omega);rw [c2 t ht,r_ hh] at this;intro e;rw [e] at this;simp at this
end Go.Fr
