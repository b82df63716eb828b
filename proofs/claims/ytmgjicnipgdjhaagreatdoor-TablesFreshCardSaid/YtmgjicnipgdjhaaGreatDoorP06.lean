import Derived.Test.YtmgjicnipgdjhaaGreatDoorP05
import Derived.Sort.AssemblyPlain
import Derived.Sort.LotD5
set_option linter.unusedVariables false
set_option linter.unusedSimpArgs false
namespace Go.Sh
variable {P:Program}
theorem append_addr {t e ty:TypeId} {z:Value} {size bytes:Nat} (E:ElemT P t e z size bytes) {w:World} {K:Value→World→Prop} {B:Nat}
  {p:Option Addr} {n c:Nat} {xs:List Value} (h:Sl w B e size p n c xs) (hB:B≤w.heap.size)
  {a:Addr} {m c':Nat} {news:List Value} (hcell:∀j u,news[j]?=some u→w.cell? (a.add j)=some u) (hl:news.length=m*size) (h1:∀u∈news,u.oneCell'=true)
  (h63:n+m≤maxLen) (hbytes:(n+m)*bytes≤140737488355328)
  (k:∀p' c' w',Sl w' B e size p' (n+m) c' (xs++news)→Fr (On p) w w'→(∀b,On p' b→On p b∨w.heap.size≤b)→K (.slice p' (n+m) c') w') :
  RunV P (Builtin.append_ #[t,t] ty #[.slice p n c,.slice (some a) m c']) w K:=by
 have hi:=E.info
 cases hinf:P.info? e with
 | none=>rw [hinf] at hi;cases hi
 | some i =>
  rw [hinf] at hi
  simp only [Option.map_some,Option.some.injEq,Prod.mk.injEq] at hi
  obtain⟨hz,hs,hb⟩:=hi
  obtain⟨v',w',hrun,how,hgr,hiff⟩:=run_append_own w B t ty e i z size bytes E.und hinf hz hs hb E.zs E.pos (.slice p n c) n xs h a m c' news hl hcell h1 h63 hbytes hB
  obtain⟨p',c1,rfl⟩:∃p' c1,v'=.slice p' (n+m) c1:=by
   rcases how.2 with ⟨h0,h1⟩|⟨g,cap,cur,h0,_⟩
   ·exact⟨none,0,by rw [h0,h1]⟩
   ·exact⟨_,_,h0⟩
  refine⟨_,w',hrun,k p' c1 w' how ⟨hgr.os,hgr.output,hgr.tape,hgr.size,fun k hk hn=>hgr.block k hk fun h'=>hn (On.own.1 h')⟩ fun b' hb'=>?_⟩
  rcases Nat.lt_or_ge b' w.heap.size with hlt|hge
  ·left
   obtain⟨a',rfl,rfl⟩:=hb'
   rcases h.2 with ⟨h0,hn0⟩|⟨g,cap,cur,hv,hbg,hg,hnc,hcm,hcs,htake⟩
   ·injection h0 with h0 h2 h3;subst h0 h2 h3
    by_cases hm:m=0
    ·subst hm;have:=hiff.2 ⟨rfl,rfl⟩;injection this with this;cases this
    ·subst hs hb
     have hr:=run_append_nil (P:=P) w t ty e i z E.und hinf hz a m c' news hl hcell (by omega) (by simp only [maxLen] at h63;omega) (by have hb:=hbytes;simp only [Nat.zero_add] at hb;omega)
     rw [hrun] at hr
     injection hr with h1 h2
     injection h1 with h1
     injection h1 with h1
     rw [h1] at hlt
     exact absurd hlt (by show ¬w.heap.size<w.heap.size;omega)
   ·injection hv with h1 h2 h3;subst h1 h3
    subst hs hb
    by_cases hroom:n+m≤c
    ·have hfit:n*i.size+news.length≤cur.size:=by rw [hl,hcs,←Nat.add_mul];exact Nat.mul_le_mul_right _ hroom
     have hr:=run_append_room (P:=P) (ty:=ty) w t e i E.und hinf g n c cur hg a m c' news hl hcell (by assumption) hroom hfit
     rw [hrun] at hr
     injection hr with h1 h2
     injection h1 with h1
     injection h1 with h1
     exact⟨_,rfl,by rw [h1]⟩
    ·have holds:∀j u,xs[j]?=some u→w.cell? ((⟨g,0,none⟩:Addr).add j)=some u:=World.ownsRow.cells h (g:=g) rfl
     have hr:=run_append_grow (P:=P) w t ty e i z E.und hinf hz ⟨g,0,none⟩ n c xs h.1 holds a m c' news hl hcell (by omega) (by simp only [maxLen] at h63;omega) (growslice_fits (by omega) hbytes)
     rw [hrun] at hr
     injection hr with h1 h2
     injection h1 with h1
     injection h1 with h1
     rw [h1] at hlt
     exact absurd hlt (by show ¬w.heap.size<w.heap.size;omega)
  ·exact .inr hge
theorem append_from {t e ty:TypeId} {z:Value} {size bytes:Nat} (E:ElemT P t e z size bytes) {w:World} {K:Value→World→Prop} {B:Nat}
  {p:Option Addr} {n c:Nat} {xs:List Value} (h:Sl w B e size p n c xs) (hB:B≤w.heap.size)
  {q:Option Addr} {m c':Nat} {news:List Value} (hR:Rd w q news) (hl:news.length=m*size) (hq:q=none→c'=0) (h1:∀u∈news,u.oneCell'=true)
  (h63:n+m≤maxLen) (hbytes:(n+m)*bytes≤140737488355328)
  (k:∀p' c' w',Sl w' B e size p' (n+m) c' (xs++news)→Fr (On p) w w'→(∀b,On p' b→On p b∨w.heap.size≤b)→K (.slice p' (n+m) c') w') :
  RunV P (Builtin.append_ #[t,t] ty #[.slice p n c,.slice q m c']) w K:=by
 cases q with
 | some a =>
  refine append_addr E h hB (a:=a) (fun j u hj=>?_) hl h1 h63 hbytes k
  obtain⟨b,o,e,hc⟩:=hR j u hj
  cases e
  rw [←at0_add,at0_mk]
  exact hc
 | none =>
  have hn:news=[]:=by
   cases news with
   | nil=>rfl
   | cons v r=>obtain⟨b,o,e,_⟩:=hR 0 v rfl;cases e
  subst hn
  have hm:m=0:=by
   rcases Nat.eq_zero_or_pos m with h|h
   ·exact h
   ·have:=Nat.mul_pos h E.pos;simp at hl;omega
  subst hm
  rw [hq rfl]
  exact append_src E h hB ⟨by simp,.inl ⟨rfl,rfl,rfl⟩⟩ h1 h63 hbytes k
end Go.Sh
set_option maxRecDepth 10000
namespace Go.Proofs.YtmgjicnipgdjhaaGreatDoor
open Go Go.Sh Go.Fr
structure RootS where
 rb:Nat
 tm:Nat
 first:Nat
 count:Nat
 blocks:List Tr
 tabs:List (Nat×Nat)
def tabVals (l:List (Nat×Nat)):List (Int×Value):=l.map fun x=>((x.1:Int),.int .i64 (x.2:Int))
structure RootAt (w:World) (ro:Ro) (at_:Nat) (R:RootS):Prop where
 st:∃p c,Has w R.rb [.int .i64 (R.first:Int),.int .i64 (R.count:Int),.slice p R.blocks.length c,.map (some R.tm)]∧Sl w 0 57 8 p R.blocks.length c (trCells R.blocks)∧∀x,On p x→ro x=(18,at_)
 rr:ro R.rb=(17,at_)
 tm:MapIs w R.tm .u32 (tabVals R.tabs)
 rt:ro R.tm=(19,at_)
theorem RootAt.ext {w:World} {ro ro':Ro} {at_:Nat} {R:RootS} (h:RootAt w ro at_ R) (e:RExt w ro ro'):RootAt w ro' at_ R:=by
 obtain⟨p,c,h1,h2,h3⟩:=h.st
 exact⟨⟨p,c,h1,h2,fun x hx=>by rw [e x (h2.lt x hx).2];exact h3 x hx⟩,by rw [e _ h1.lt];exact h.rr,h.tm,by rw [e _ (mapIs_lt h.tm)];exact h.rt⟩
def RootK (ro:Ro) (at_:Nat) (x:Nat):Prop:=ro x=(17,at_)∨ro x=(18,at_)∨ro x=(19,at_)
theorem RootAt.fr {w w':World} {ro:Ro} {at_:Nat} {R:RootS} (h:RootAt w ro at_ R) {S:Nat→Prop} (f:Fr S w w') (hS:∀x,RootK ro at_ x→¬S x):RootAt w' ro at_ R:=by
 obtain⟨p,c,h1,h2,h3⟩:=h.st
 exact⟨⟨p,c,h1.fr f (hS _ (.inl h.rr)),h2.fr f (fun x hx=>hS x (.inr (.inl (h3 x hx)))),h3⟩,h.rr,h.tm.fr f (hS _ (.inr (.inr h.rt))),h.rt⟩
structure Ids where
 I:MIds
 b:Nat
 bu:Nat
 bd:Nat
 s:Nat
 e:Nat
 rm:Nat
structure St where
 M:Mst
 p:Pool
 l:List Qr
 roots:List (Nat×RootS)
def rootVals (l:List (Nat×RootS)):List (Int×Value):=l.map fun x=>((x.1:Int),.pointer (some ⟨x.2.rb,0,none⟩))
structure EdAt (w:World) (ro:Ro) (J:Ids) (n:Nat) (roots:List (Nat×RootS)):Prop where
 st:Has w J.e [.pointer (some ⟨J.I.m,0,none⟩),.pointer (some ⟨J.b,0,none⟩),.pointer (some ⟨J.s,0,none⟩),.int .i64 (n:Int),.map (some J.rm)]
 re:(ro J.e).1=15
 rm:MapIs w J.rm .u64 (rootVals roots)
 rr:(ro J.rm).1=16
 root:∀x∈roots,RootAt w ro x.1 x.2
 nd:(roots.map (·.1)).Nodup
theorem EdAt.ext {w:World} {ro ro':Ro} {J:Ids} {n:Nat} {roots:List (Nat×RootS)} (h:EdAt w ro J n roots) (e:RExt w ro ro'):EdAt w ro' J n roots :=
 ⟨h.st,by rw [e _ h.st.lt];exact h.re,h.rm,by rw [e _ (mapIs_lt h.rm)];exact h.rr,fun x hx=>(h.root x hx).ext e,h.nd⟩
theorem EdAt.fr {w w':World} {ro:Ro} {J:Ids} {n:Nat} {roots:List (Nat×RootS)} (h:EdAt w ro J n roots) {S:Nat→Prop} (f:Fr S w w') (hS:∀x,15≤(ro x).1→¬S x):EdAt w' ro J n roots :=
 ⟨h.st.fr f (hS _ (by rw [h.re];decide)),h.re,h.rm.fr f (hS _ (by rw [h.rr];decide)),h.rr,fun x hx=>(h.root x hx).fr f (fun y hy=>hS y (by rcases hy with e|e|e<;>rw [e]<;>simp)),h.nd⟩
theorem EdAt.fr0 {w w':World} {ro:Ro} {J:Ids} {n:Nat} {roots:List (Nat×RootS)} (h:EdAt w ro J n roots) (f:Fr0 w w'):EdAt w' ro J n roots:=h.fr f fun _ _ h=>h
structure Sys (w:World) (ro:Ro) (J:Ids) (fr n:Nat) (S:St):Prop where
 gl:Gl w
 low:Low ro
 mach:MachAt w ro J.I fr S.M
 ps:PSAt w ro J.b J.bu J.bd J.s S.p S.l
 ed:EdAt w ro J n S.roots
abbrev FrR (ro:Ro) (w w':World):Prop:=Fr (fun b=>(ro b).1≠0) w w'
theorem FrK.R {l:List Nat} {ro:Ro} {w w':World} (f:FrK l ro w w') (h0:0∉l):FrR ro w w':=f.mono fun b _ hb e=>h0 (by rw [e] at hb;exact hb)
theorem FrR.then {ro ro':Ro} {w w1 w2:World} (h:FrR ro w w1) (e:RExt w ro ro') (k:FrR ro' w1 w2):FrR ro w w2 :=
 ⟨k.os.trans h.os,k.output.trans h.output,k.tape.trans h.tape,Nat.le_trans h.size k.size,fun b hb hn =>
  (k.block b (Nat.lt_of_lt_of_le hb h.size) (by rw [e b hb];exact hn)).trans (h.block b hb hn)⟩
theorem Sys.ext {w:World} {ro ro':Ro} {J:Ids} {fr n:Nat} {S:St} (h:Sys w ro J fr n S) (e:RExt w ro ro'):Sys w ro' J fr n S:=⟨h.gl,h.low.ext h.gl e,h.mach.ext e,h.ps.ext e,h.ed.ext e⟩
theorem Sys.fr0 {w w':World} {ro:Ro} {J:Ids} {fr n:Nat} {S:St} (h:Sys w ro J fr n S) (f:Fr0 w w'):Sys w' ro J fr n S:=⟨h.gl.fr0 f,h.low,h.mach.fr0 f,h.ps.fr0 f,h.ed.fr0 f⟩
theorem FrK.ext {l:List Nat} {ro ro':Ro} {w w':World} (f:FrK l ro w w') (e:RExt w ro ro'):FrK l ro' w w':=f.mono fun b hb hS=>by rw [e b hb];exact hS
theorem Sys.frO {w w':World} {ro:Ro} {J:Ids} {fr n:Nat} {S:St} (h:Sys w ro J fr n S) {T:Nat→Prop} (f:Fr T w w') (hT:∀x,T x→(ro x).1=0) (hT7:∀x,x<7→¬T x):Sys w' ro J fr n S:=by
 refine⟨h.gl.fr f hT7,h.low,h.mach.fr f (fun b h1 _ hb=>by have:=hT b hb;omega),h.ps.fr f (fun x hx hb=>?_),h.ed.fr f (fun x hx hb=>by have:=hT x hb;omega)⟩
 rw [hT x hb] at hx
 simp at hx
theorem Sys.machT {w w':World} {ro ro':Ro} {J:Ids} {fr n:Nat} {S:St} (h:Sys w ro J fr n S) {M':Mst} (e:RExt w ro ro') (H:MachAt w' ro' J.I fr M') (f:FrK machK ro w w'):Sys w' ro' J fr n { S with M:=M' }:=by
 have h':=h.ext e
 have f':=f.ext e
 refine⟨h.gl.frK f h.low (by decide),h'.low,H,h'.ps.fr f' (fun x hx hx'=>?_),h'.ed.fr f' (fun x hx hx'=>?_)⟩
 ·simp only [psK,machK,List.mem_cons,List.not_mem_nil,or_false] at hx hx';omega
 ·simp only [machK,List.mem_cons,List.not_mem_nil,or_false] at hx';omega
theorem Sys.psT {w w':World} {ro ro':Ro} {J:Ids} {fr n:Nat} {S:St} (h:Sys w ro J fr n S) {p':Pool} {l':List Qr} (e:RExt w ro ro') (H:PSAt w' ro' J.b J.bu J.bd J.s p' l') (f:FrK psK ro w w'):Sys w' ro' J fr n { S with p:=p',l:=l' }:=by
 have h':=h.ext e
 have f':=f.ext e
 refine⟨h.gl.frK f h.low (by decide),h'.low,h'.mach.fr f' (fun x h1 h2 hx'=>?_),H,h'.ed.fr f' (fun x hx hx'=>?_)⟩
 ·simp only [psK,List.mem_cons,List.not_mem_nil,or_false] at hx';omega
 ·simp only [psK,List.mem_cons,List.not_mem_nil,or_false] at hx';omega
def updR (l:List (Nat×RootS)) (at_:Nat) (R:RootS):List (Nat×RootS):=l.map fun x=>if x.1=at_ then (at_,R) else x
theorem updR_keys (l:List (Nat×RootS)) (at_:Nat) (R:RootS):(updR l at_ R).map (·.1)=l.map (·.1):=by
 unfold updR
 rw [List.map_map]
 apply List.map_congr_left
 intro x _
 simp only [Function.comp_apply]
 split
 ·rename_i h;exact h.symm
 ·rfl
theorem nd_uniq {α β:Type} {f:α→β}:∀{l:List α},(l.map f).Nodup→∀{x y:α},x∈l→y∈l→f x=f y→x=y
 | [],_,x,y,hx,_,_=>by simp at hx
 | z :: r,h,x,y,hx,hy,e=>by
  rw [List.map_cons,List.nodup_cons] at h
  rcases List.mem_cons.1 hx with rfl|hx'<;>rcases List.mem_cons.1 hy with rfl|hy'
  ·rfl
  ·exact absurd (List.mem_map.2 ⟨y,hy',e.symm⟩) h.1
  ·exact absurd (List.mem_map.2 ⟨x,hx',e⟩) h.1
  ·exact nd_uniq h.2 hx' hy' e
theorem updR_vals {l:List (Nat×RootS)} {at_:Nat} {R R':RootS} (hnd:(l.map (·.1)).Nodup) (hm:(at_,R)∈l) (hrb:R'.rb=R.rb):rootVals (updR l at_ R')=rootVals l:=by
 unfold rootVals updR
 rw [List.map_map]
 apply List.map_congr_left
 intro x hx
 simp only [Function.comp_apply]
 split
 ·rename_i h
  have:x=(at_,R):=nd_uniq hnd hx hm h
  rw [this,hrb]
 ·rfl
theorem Sys.rootT {w w':World} {ro ro':Ro} {J:Ids} {fr n:Nat} {S:St} (h:Sys w ro J fr n S) {at_:Nat} {R R':RootS} (hm:(at_,R)∈S.roots) (hrb:R'.rb=R.rb) (e:RExt w ro ro') (H:RootAt w' ro' at_ R') (f:Fr (RootK ro at_) w w') :
  Sys w' ro' J fr n { S with roots:=updR S.roots at_ R' }:=by
 have h':=h.ext e
 have f':Fr (RootK ro' at_) w w':=f.mono fun b hb hS=>by unfold RootK at *;rw [e b hb];exact hS
 have hk:∀x,RootK ro' at_ x→17≤(ro' x).1:=fun x hx=>by rcases hx with e|e|e<;>rw [e]<;>simp
 have he:=h'.ed
 refine⟨h'.gl.fr f' (fun b hb hS=>by have:=hk b hS;rw [h'.low b hb] at this;omega),h'.low,h'.mach.fr f' (fun x h1 h2 hx=>by have:=hk x hx;omega),h'.ps.fr f' (fun x hx hx'=>?_),?_⟩
 ·have:=hk x hx'
  simp only [psK,List.mem_cons,List.not_mem_nil,or_false] at hx;omega
 ·refine⟨he.st.fr f' (fun hx=>by have:=hk _ hx;rw [he.re] at this;omega),he.re,?_,he.rr,fun x hx=>?_,by rw [updR_keys];exact he.nd⟩
  ·rw [updR_vals he.nd hm hrb]
   exact he.rm.fr f' (fun hx=>by have:=hk _ hx;rw [he.rr] at this;omega)
  ·unfold updR at hx
   obtain⟨y,hy,rfl⟩:=List.mem_map.1 hx
   split
   ·exact H
   ·rename_i hne
    refine (he.root y hy).fr f' (fun z h1 h2=>?_)
    rcases h1 with e1|e1|e1<;>rcases h2 with e2|e2|e2<;>rw [e1] at e2<;>simp at e2<;>exact hne e2
theorem T131:MapT prog 131 35 3 .u32 (.int .i64 0):=⟨by kernel_rfl,by kernel_rfl,by kernel_rfl⟩
theorem T120:MapT prog 120 30 121 .u64 (.pointer none):=⟨by kernel_rfl,by kernel_rfl,by kernel_rfl⟩
def Ro.cut (ro:Ro) (w:World):Ro:=fun x=>if x<w.heap.size then ro x else (0,0)
theorem RExt.cut {w:World} {ro:Ro}:RExt w ro (ro.cut w):=fun x hx=>by simp only [Ro.cut,if_pos hx]
theorem Ro.cut_new {ro:Ro} {w:World} {x:Nat} (h:w.heap.size≤x):((ro.cut w) x).1=0:=by simp only [Ro.cut,if_neg (show ¬x<w.heap.size by omega)]
def pokeM (M:Mst) (pa v:Nat):Mst:=⟨setW M.mem pa v,pushEv M.evs ⟨1,pa,v⟩⟩
def pokes (M:Mst) (pa v:Nat):Nat→Mst
 | 0=>M
 | i+1=>pokeM (pokes M pa v i) (pa+4*i) v
theorem wErr_lt {fr pa:Nat} (h:wErr fr pa=0):pa%4=0∧pa<fr*4096:=by
 unfold wErr at h
 split at h
 ·omega
 ·split at h
  ·omega
  ·omega
theorem f64 {w:World} {ro:Ro} {J:Ids} {fr n:Nat} {S:St} (hS:Sys w ro J fr n S) {p:Option Addr} {k c x pa:Nat} (hp:Rd w p (List.replicate k (.int .u32 (x:Int)))) (hon:∀b,On p b→(ro b).1=0) (hx:x<2^32) (hk:k≤16) (hfr:fr≤65536)
  (hok:∀i,i<k→wErr fr (pa+4*i)=0) :
  Ret prog 64 #[.pointer (some ⟨J.e,0,none⟩),.int .u64 (pa:Int),.slice p k c] w fun v w'=>v=.tuple #[]∧∃ro',RExt w ro ro'∧Sys w' ro' J fr n { S with M:=pokes S.M pa x k }∧FrK machK ro w w':=by
 refine F64_of _ _ _ _ _ _ _ ?_
 unfold F64;try dsimp only [li_,lp_,ui_]
 refine Loop.by (fun s w'=>∃i:Nat,∃ro',i≤k∧s=[.int .i64 (i:Int)]∧RExt w ro ro'∧Sys w' ro' J fr n { S with M:=pokes S.M pa x i }∧FrK machK ro w w') (fun s _=>match s with | [.int _ i]=>k-i.toNat|_=>0) ⟨0,ro,by omega,rfl,RExt.refl _ _,hS,Fr.refl _ _⟩ ?_
 rintro _ w1 ⟨i,ro1,hi,rfl,e1,hS1,f1⟩
 simp only [UnC_cons,UnN_nil,AsI_int]
 refine BIf_cases (fun hlt=>?_) (fun hge=>?_)
 ·have hik:i<k:=by omega
  have hp1:=hp.fr f1 (fun b hb h=>by rw [hon b hb] at h;exact absurd h (by decide))
  obtain⟨b,o,hpo,hc⟩:=hp1 i (.int .u32 (x:Int)) (by simp [hik])
  rw [hpo,NilP_some]
  refine⟨by omega,by omega,?_⟩
  rw [at0_mk,Int.toNat_natCast,Nat.mul_one]
  refine⟨_,hc,AsI_int.2 ?_⟩
  have hst:=hS1.ed.st
  try simp only [hst.ld_iff,sb_,Nat.reduceAdd]
  have hw:=wErr_lt (hok i hik)
  rw [wu64 (n:=(i:Int)) (by omega) (by omega),wu64 (n:=4*(i:Int)) (by omega) (by omega),wu64 (n:=(pa:Int)+4*(i:Int)) (by omega) (by omega),show (pa:Int)+4*(i:Int)=((pa+4*i:Nat):Int) by omega,w64 (n:=(i:Int)+1) (by omega) (by omega)]
  refine Ret.use (f127 hS1.mach (pa+4*i) x (hok i hik) hx) ?_
  rintro _ w2 ⟨rfl,ro2,e2,hM2,f2⟩
  rw [AsI_int]
  exact⟨⟨i+1,ro2,by omega,rfl,e1.trans e2 f1.size,hS1.machT e2 hM2 f2,f1.then e1 f2⟩,by omega⟩
 ·obtain rfl:i=k:=by omega
  exact⟨by trivial,ro1,e1,hS1,f1⟩
def tab? (l:List (Nat×Nat)) (m:Nat):Option Nat:=(l.find? fun x=>x.1==m).map (·.2)
theorem at_tabVals (l:List (Nat×Nat)) (m:Nat):at? (tabVals l) (m:Int)=(tab? l m).map fun t=>.int .i64 (t:Int):=by
 unfold at? tab? tabVals
 rw [List.find?_map,Option.map_map,Option.map_map]
 have:((fun p:Int×Value=>p.1==(m:Int)) ∘ fun x:Nat×Nat=>((x.1:Int),Value.int .i64 (x.2:Int)))=fun x=>x.1==m:=by
  funext x
  simp only [Function.comp_apply]
  by_cases e:x.1=m
  ·simp [e]
  ·rw [beq_eq_false_iff_ne.2 e,beq_eq_false_iff_ne];omega
 rw [this]
 rfl
def placeOf (R:RootS) (at_:Nat) (t:Tr):Nat:=if t.paged=true then (tab? R.tabs t.mib).getD 0*1024+t.va/4096%256*4 else at_+t.mib*4
theorem page_wrap {va:Nat} (h:va<2^32):andI .u32 (shrI .u32 (va:Int) 12) 255=((va/4096%256:Nat):Int):=by
 have e1:shrI .u32 (va:Int) 12=((va >>> 12:Nat):Int):=shrI_nat (n:=12) (by decide)
 have h2:va >>> 12<2^32:=by rw [Nat.shiftRight_eq_div_pow];omega
 rw [e1,show (255:Int)=((255:Nat):Int) from rfl,andI_u32 h2 (by decide),Nat.shiftRight_eq_div_pow,show 255=2^8-1 from rfl,Nat.and_two_pow_sub_one_eq_mod]
theorem f54 {w:World} {ro:Ro} {J:Ids} {fr n:Nat} {S:St} (hS:Sys w ro J fr n S) {at_:Nat} {R:RootS} (hm:(at_,R)∈S.roots) (t:Tr) (hva:t.va<2^32) {x:Nat} (hx:x<2^32) (hfr:fr≤65536) (hr:reps t.size=1∨reps t.size=16)
  (ht:∀v,tab? R.tabs t.mib=some v→v<2^30) (hat:at_<2^40) (hok:∀i,i<reps t.size→wErr fr (placeOf R at_ t+4*i)=0) :
  Ret prog 54 #[.pointer (some ⟨J.e,0,none⟩),.int .u64 (at_:Int),.pointer (some ⟨R.rb,0,none⟩),t.v,.int .u32 (x:Int)] w fun v w'=>v=.tuple #[]∧∃ro',RExt w ro ro'∧Sys w' ro' J fr n { S with M:=pokes S.M (placeOf R at_ t) x (reps t.size) }∧FrK machK ro w w':=by
 refine F54_of _ _ _ _ _ _ _ _ _ _ _ _ _ _ ?_
 unfold F54;try dsimp only [Liuviiubb,lb_,li_,lm_,ui_]
 refine New.mk fun w1 n1 f1 s1=>?_
 obtain⟨pb,cb,hst,hsl,hro⟩:=(hS.ed.root _ hm).st
 have htm:=(hS.ed.root _ hm).tm
 have hcut:=(hS.ext (RExt.cut (w:=w)))
 refine Join.at (fun s w'=>s=[.int .u64 ((placeOf R at_ t:Nat):Int)]∧Fr0 w1 w') ?_ ?_
 ·try simp only [n1.ld_iff,sb_,Nat.reduceAdd]
  refine Ret.use (f89 t) ?_
  rintro _ w2 ⟨rfl,f2⟩
  rw [AsB_bool]
  have n2:=n1.fr0 f2
  have hst2:=(hst.fr0 f1).fr0 f2
  refine BIf_b (fun e=>?_) (fun e=>?_)
  ·try simp only [n2.ld_iff,hst2.ld_iff,sb_,Nat.reduceAdd]
   rw [mib_wrap hva]
   refine lookup1_ok T131 (((htm.fr f1 (fun h=>h)).fr f2 (fun h=>h)).fr (S:=fun _=>False) (Qt.refl w2).drew.fr (fun h=>h)) _ ?_
   rw [at_tabVals]
   have e2:(((tab? R.tabs (t.va/1048576)).map fun t:Nat=>Value.int .i64 (t:Int)).getD (.int .i64 0))=.int .i64 (((tab? R.tabs t.mib).getD 0:Nat):Int):=by
    unfold Tr.mib
    cases tab? R.tabs (t.va/1048576)<;>rfl
   simp only [] at e2 ⊢
   rw [e2,AsI_int]
   have ht':(tab? R.tabs t.mib).getD 0<2^30:=by
    cases h:tab? R.tabs t.mib with
    | none=>simp
    | some v=>simpa using ht v h
   have hpl:placeOf R at_ t=(tab? R.tabs t.mib).getD 0*1024+t.va/4096%256*4:=by unfold placeOf;rw [if_pos e]
   refine⟨?_,f2.trans (Qt.refl w2).drew.fr⟩
   rw [hpl,page_wrap hva]
   generalize (tab? R.tabs t.mib).getD 0=T at ht'
   rw [wu64 (n:=(T:Int)) (by omega) (by omega),wu64 (n:=(T:Int)*1024) (by omega) (by omega),wu64 (n:=((t.va/4096%256:Nat):Int)) (by omega) (by omega),wu64 (n:=((t.va/4096%256:Nat):Int)*4) (by omega) (by omega),wu64 (by omega) (by omega)]
   simp only [List.cons.injEq,Value.int.injEq,true_and,and_true]
   omega
  ·try simp only [n2.ld_iff,sb_,Nat.reduceAdd]
   rw [mib_wrap hva]
   have hpl:placeOf R at_ t=at_+t.va/1048576*4:=by unfold placeOf;rw [if_neg (by rw [e];decide)];rfl
   refine⟨?_,f2⟩
   rw [hpl,wu64 (n:=((t.va/1048576:Nat):Int)) (by omega) (by omega),wu64 (n:=((t.va/1048576:Nat):Int)*4) (by omega) (by omega),wu64 (by omega) (by omega)]
   simp only [List.cons.injEq,Value.int.injEq,true_and,and_true]
   omega
 ·rintro _ w2 ⟨rfl,f2⟩
  simp only [UnC_cons,UnN_nil,AsI_int]
  refine RunV.build1 E35 (by decide) rfl fun w3 n3 f3 s3=>?_
  rw [AsSl_slice]
  have n13:=(n1.fr0 f2).fr0 f3
  try simp only [n13.ld_iff,sb_,Nat.reduceAdd]
  refine Ret.use (f109 t.size) ?_
  rintro _ _ ⟨rfl,hw⟩
  obtain rfl:=hw.symm
  rw [AsI_int]
  have f13:=(f1.trans f2).trans f3
  refine Ret.use (f108 (x:=(x:Int)) n3 hr) ?_
  rintro _ w4 ⟨q,rfl,h4,f4,hq⟩
  rw [AsSl_slice]
  have f14:=f13.trans f4
  have hS4:=(hS.ext (RExt.cut (w:=w))).fr0 f14
  have hrd:Rd w4 (some ⟨q,0,none⟩) (List.replicate (reps t.size) (.int .u32 (x:Int))):=fun i v hi=>⟨q,0,rfl,by rw [Nat.zero_add,h4.cell];exact hi⟩
  refine Ret.use (f64 hS4 hrd (fun b hb=>by obtain⟨a,h,rfl⟩:=hb;injection h with h;subst h;exact Ro.cut_new (Nat.le_trans f13.size hq)) hx (by omega) hfr hok) ?_
  rintro _ w5 ⟨rfl,ro5,e5,hS5,f5⟩
  simp only [sb_,Nat.reduceAdd]
  exact⟨by trivial,ro5,RExt.cut.trans e5 f14.size,hS5,FrK.then (f14.mono fun _ _ h=>h.elim) RExt.cut f5⟩
def dropM (M:Mst) (k:Int) (word:Int):Mst:=⟨M.mem,pushEv M.evs ⟨3,k,IntKind.u32.wrap (dropVa k word+IntKind.u32.wrap (dropAs word))⟩⟩
theorem f55 {w:World} {ro:Ro} {J:Ids} {fr n:Nat} {S:St} (hS:Sys w ro J fr n S) (op2:Int) (ho:op2=1∨op2=2) (word:Int) :
  Ret prog 55 #[.pointer (some ⟨J.e,0,none⟩),.int .i64 op2,.int .u32 word] w fun v w'=>v=.tuple #[]∧∃ro',RExt w ro ro'∧Sys w' ro' J fr n { S with M:=dropM S.M (op2+1) word }∧FrK machK ro w w':=by
 refine F55_of _ _ _ _ _ ?_
 unfold F55;try dsimp only [lp_]
 have hst:=hS.ed.st
 try simp only [hst.ld_iff,sb_,Nat.reduceAdd]
 have key:Ret prog 80 #[.pointer (some ⟨J.I.m,0,none⟩),.agg #[.int .i64 8,.int .i64 0,.int .i64 7,.int .i64 op2],.int .u32 word,.bool false] w fun r w' =>
   r=.int .i64 0∧∃ro',RExt w ro ro'∧MachAt w' ro' J.I fr (dropM S.M (op2+1) word)∧FrK machK ro w w':=by
  rcases ho with rfl|rfl
  ·exact f80d1 hS.gl.gr hS.mach word
  ·exact f80d2 hS.gl.gr hS.mach word
 refine Ret.use key ?_
 rintro _ w1 ⟨rfl,ro1,e1,H1,f1⟩
 rw [AsI_int]
 exact⟨by trivial,ro1,e1,hS.machT e1 H1 f1,f1⟩
def findR (l:List Tr) (va:Nat):Nat×Bool :=
 if exactAt l va=true then (findIx l va,true) else match l[findIx l va-1]? with
  | some b=>if 0<findIx l va∧va<b.tend then (findIx l va-1,true) else (findIx l va,false)
  | none=>(findIx l va,false)
theorem f66 {w:World} {ro:Ro} {at_:Nat} {R:RootS} (hG:Gl w) (h:RootAt w ro at_ R) (hs:R.blocks.Pairwise fun a b=>a.va<b.va) (hl:R.blocks.length≤1000000000000) (hva':∀t∈R.blocks,t.va<4294967296) (va:Nat) (hva:va<4294967296) :
  Ret prog 66 #[.pointer (some ⟨R.rb,0,none⟩),.int .u32 (va:Int)] w fun v w'=>v=.tuple #[.int .i64 ((findR R.blocks va).1:Int),.bool (findR R.blocks va).2]∧Fr0 w w':=by
 obtain⟨p,c,h1,h2,h3⟩:=h.st
 refine F66_of _ _ _ _ ?_
 unfold F66;try dsimp only [Uib,ls_,ub_,ui_]
 simp only [at0_mk,Nat.zero_add]
 refine h1.ld rfl (AsSl_slice.2 ?_)
 refine Ret.use (f130 h2.rd hl hs va) ?_
 rintro _ w1 ⟨rfl,f1⟩
 simp only [sb_,Nat.reduceAdd]
 have hle:=findIx_le R.blocks va
 unfold findR
 cases he:exactAt R.blocks va with
 | true =>
  simp only [Bool.not_true,BIf_false,if_true]
  exact⟨by trivial,f1⟩
 | false =>
  simp only [Bool.not_false,BIf_true,Bool.false_eq_true,if_false]
  refine BIf_cases (fun hgt=>?_) (fun hle0=>?_)
  ·obtain⟨b,hb⟩:∃b,R.blocks[findIx R.blocks va-1]?=some b:=⟨R.blocks[findIx R.blocks va-1]'(by omega),List.getElem?_eq_getElem _⟩
   rw [hb]
   have e1:IntKind.i64.wrap ((findIx R.blocks va:Int)-1)=((findIx R.blocks va-1:Nat):Int):=by rw [w64 (by omega) (by omega)];omega
   rw [e1]
   refine (h1.fr0 f1).ld rfl (AsSl_slice.2 ?_)
   refine tr_ld (h2.fr0 f1).rd rfl hb (by omega) ?_
   refine Ret.use (f115 (hG.fr0 f1).gd b (hva' b (List.mem_of_getElem? hb))) ?_
   rintro _ w2 ⟨rfl,f2⟩
   rw [AsI_int,wu64 (n:=(va:Int)) (by omega) (by omega)]
   simp only
   refine BIf_cases (fun hlt=>?_) (fun hge=>?_)
   ·rw [if_pos ⟨by omega,by omega⟩]
    exact⟨rfl,f1.trans f2⟩
   ·rw [if_neg (by omega)]
    exact⟨rfl,f1.trans f2⟩
  ·refine⟨?_,f1⟩
   have:¬0<findIx R.blocks va:=by omega
   split
   ·rw [if_neg (by omega)]
   ·rfl
theorem tabVals_filter (l:List (Nat×Nat)) (m:Nat):(tabVals l).filter (fun p=>p.1 != (m:Int))=tabVals (l.filter fun x=>decide (x.1≠m)):=by
 unfold tabVals
 rw [List.filter_map]
 congr 1
 apply List.filter_congr
 intro x _
 simp only [Function.comp_apply]
 by_cases e:x.1=m
 ·simp [e]
 ·have:((x.1:Int) != (m:Int))=true:=by rw [bne_iff_ne];omega
  rw [this];simp [e]
theorem Fr.K {w w':World} {ro:Ro} {at_:Nat} (f:Fr (RootK ro at_) w w'):FrR ro w w':=f.mono fun b _ hb e=>by rcases hb with h|h|h<;>rw [h] at e<;>cases e
theorem f58 {w:World} {ro:Ro} {J:Ids} {fr n:Nat} {S:St} (hS:Sys w ro J fr n S) {at_:Nat} {R:RootS} (hm:(at_,R)∈S.roots) {m T:Nat} (hm2:m<4096) (hT:tab? R.tabs m=some T) (hT2:T<2^30) (hfr:fr≤65536) (hok:wErr fr (at_+4*m)=0) :
  Ret prog 58 #[.pointer (some ⟨J.e,0,none⟩),.int .u64 (at_:Int),.pointer (some ⟨R.rb,0,none⟩),.int .u32 (m:Int)] w fun v w'=>v=.tuple #[]∧∃ro' e p' l',SDrop S.p S.l (T:Int) e p' l'∧RExt w ro ro' ∧
   Sys w' ro' J fr n ⟨pokes S.M (at_+4*m) 0 1,p',l',updR S.roots at_ { R with tabs:=R.tabs.filter fun x=>decide (x.1≠m) }⟩∧FrR ro w w':=by
 have hat:=wErr_lt hok
 refine F58_of _ _ _ _ _ _ ?_
 unfold F58;try dsimp only [lm_,lp_]
 refine RunV.build1 E35 (by decide) rfl fun w1 n1 f1 s1=>?_
 rw [AsSl_slice]
 have hS1:=(hS.ext (RExt.cut (w:=w))).fr0 f1
 rw [wu64 (n:=(m:Int)) (by omega) (by omega),wu64 (n:=(m:Int)*4) (by omega) (by omega),wu64 (n:=(at_:Int)+(m:Int)*4) (by omega) (by omega),show (at_:Int)+(m:Int)*4=((at_+4*m:Nat):Int) by omega]
 refine Ret.use (f64 (x:=0) (k:=1) hS1 (fun i v hi=>⟨w.heap.size,0,rfl,by rw [Nat.zero_add,n1.cell];exact hi⟩) (fun b hb=>by obtain⟨a,h,rfl⟩:=hb;injection h with h;subst h;exact Ro.cut_new (Nat.le_refl _)) (by decide) (by decide) hfr (fun i hi=>by
  have:i=0:=by omega
  subst this;exact hok)) ?_
 rintro _ w2 ⟨rfl,ro2,e2,hS2,f2⟩
 simp only [sb_,Nat.reduceAdd]
 have g2:FrR ro w w2:=FrR.then (f1.mono fun _ _ h=>h.elim) RExt.cut (f2.R (by decide))
 have e02:RExt w ro ro2:=RExt.cut.trans e2 f1.size
 have hst:=hS2.ed.st
 have hR:=hS2.ed.root _ hm
 obtain⟨pb,cb,h1,h2,h3⟩:=hR.st
 try simp only [hst.ld_iff,h1.ld_iff,sb_,Nat.reduceAdd]
 refine lookup1_ok T131 (hR.tm.fr (S:=fun _=>False) (Qt.refl w2).drew.fr (fun h=>h)) _ ?_
 rw [at_tabVals]
 simp only [hT,Option.map_some,Option.getD_some,AsI_int]
 have hS2':=hS2.fr0 (Qt.refl w2).drew.fr
 refine Ret.use (ps_drop hS2'.ps hS2'.gl hS2'.low (T:Int) (by omega)) ?_
 rintro _ w3 ⟨e,p',l',ro3,rfl,hd,e3,hP3,f3⟩
 rw [AsI_int]
 have hS3:=hS2'.psT e3 hP3 f3
 have f23:FrK psK ro2 w2 w3:=f3.of_drew
 have hR3:=hS3.ed.root _ hm
 obtain⟨pb3,cb3,h13,h23,h33⟩:=hR3.st
 try simp only [h13.ld_iff,sb_,Nat.reduceAdd]
 refine delete_ok T131 hR3.tm _ fun w4 m4 f4 s4=>?_
 simp only [sb_,Nat.reduceAdd]
 rw [tabVals_filter] at m4
 have hK:Fr (RootK ro3 at_) w3 w4:=f4.mono fun b _ hb=>by have:b=R.tm:=hb;subst this;exact .inr (.inr hR3.rt)
 have hne1:R.rb≠R.tm:=fun h=>by have a:=hR3.rr;rw [h] at a;have b:=hR3.rt;rw [a] at b;cases b
 have hR4:RootAt w4 ro3 at_ { R with tabs:=R.tabs.filter fun x=>decide (x.1≠m) }:=by
  refine⟨⟨pb3,cb3,h13.fr f4 hne1,h23.fr f4 (fun x hx hb=>?_),h33⟩,hR3.rr,m4,hR3.rt⟩
  have hb:x=R.tm:=hb
  have a:=h33 x hx;rw [hb] at a;have b:=hR3.rt;rw [a] at b;cases b
 have hS4:=hS3.rootT hm (R':={ R with tabs:=R.tabs.filter fun x=>decide (x.1≠m) }) rfl (RExt.refl _ _) hR4 hK
 refine⟨by trivial,ro3,e,p',l',hd,e02.trans e3 g2.size,hS4,?_⟩
 exact g2.then e02 (FrR.then (f23.R (by decide)) (fun x hx=>e3 x hx) (Fr.K hK))
def Tr.wf (t:Tr):Prop:=t.va<4294967296
def Tr.bad (n:Nat) (t:Tr):Bool:=!(t.right && t.ng && decide (t.tend≤2^(32-n)))
def MayE (n:Nat) (blocks l:List Tr) (e:Nat):Prop :=
 (e=1∧∃t∈l,t.bad n=true) ∨
 (e=141∧(∀t∈l,t.bad n=false)∧∃i t,l[i]?=some t∧((∃b∈blocks,clashB t b=true)∨∃b∈l.take i,clashB t b=true)) ∨
 (e=0∧(∀t∈l,t.bad n=false)∧∀i t,l[i]?=some t→(∀b∈blocks,clashB t b=false)∧∀b∈l.take i,clashB t b=false)
theorem shl_end {n:Nat} (h:1≤n∧n≤7):0≤IntKind.i64.wrap (32-(n:Int))∧shlI .u64 1 (IntKind.i64.wrap (32-(n:Int)))=((2^(32-n):Nat):Int):=by
 have:n=1∨n=2∨n=3∨n=4∨n=5∨n=6∨n=7:=by omega
 rcases this with rfl|rfl|rfl|rfl|rfl|rfl|rfl<;>exact⟨by decide,by kernel_rfl⟩
theorem mem_of_get_lt {α:Type} {l:List α} {p:α→Prop} (h:∀k t,k<l.length→l[k]?=some t→p t):∀t∈l,p t:=by
 intro t ht
 obtain⟨k,hk,rfl⟩:=List.mem_iff_getElem.1 ht
 exact h k _ hk (List.getElem?_eq_getElem hk)
theorem f60 {w:World} {ro:Ro} {J:Ids} {fr n:Nat} {S:St} (hS:Sys w ro J fr n S) {at_:Nat} {R:RootS} (hm:(at_,R)∈S.roots) (hn:1≤n∧n≤7) {q:Option Addr} {c:Nat} {l:List Tr} (hl:Rd w q (trCells l)) (hc:l.length≤c) (hll:l.length≤9000000000000)
  (hwf:∀t∈l,t.wf) (hwb:∀t∈R.blocks,t.wf) (hbl:R.blocks.length≤1000000000000) :
  Ret prog 60 #[.pointer (some ⟨J.e,0,none⟩),.pointer (some ⟨R.rb,0,none⟩),.slice q l.length c] w fun v w'=>∃e:Nat,v=.int .i64 (e:Int)∧MayE n R.blocks l e∧Fr0 w w':=by
 refine F60_of _ _ _ _ _ _ _ ?_
 unfold F60;try dsimp only [Liuviiubb,S_8,Uii,ce_,lb_,li_,ls_,ui_]
 refine Loop.by (fun s w'=>∃i:Nat,∃x:Int,i≤l.length∧s=[.int .i64 (i:Int),.int .i64 x]∧Fr0 w w'∧∀k t,k<i→l[k]?=some t→t.bad n=false) (fun s _=>match s with | [.int _ i,_]=>l.length-i.toNat|_=>0) ⟨0,0,by omega,rfl,Fr.refl _ _,fun _ _ h=>absurd h (by omega)⟩ ?_
 rintro _ w1 ⟨i,x,hi,rfl,f1,hb⟩
 simp only [UnC_cons,UnN_nil,AsI_int]
 refine BIf_cases (fun hlt=>?_) (fun hge=>?_)
 ·obtain⟨t,ht⟩:∃t,l[i]?=some t:=⟨l[i]'(by omega),List.getElem?_eq_getElem _⟩
  have htm:=List.mem_of_getElem? ht
  refine tr_ld (hl.fr0 f1) rfl ht hlt ?_
  refine New8 (fun w2 n2 f2 s2=>?_)
  try simp only [n2.ld_iff,sb_,Nat.reduceAdd]
  have hS2:=(hS.fr0 f1).fr0 f2
  refine Ret.use (f114 hS2.gl.gd.drew t (hwf t htm)) ?_
  rintro _ w3 ⟨rfl,f3⟩
  replace f3:=f3.of_drew
  rw [AsB_bool]
  have n3:=n2.fr0 f3
  have hS3:=hS2.fr0 f3
  have f13:=(f1.trans f2).trans f3
  refine BIf_not.2 (BIf_b (fun e1=>?_) (fun e1=>?_))
  ·try simp only [n3.ld_iff,sb_,Nat.reduceAdd]
   refine BIf_not.2 (BIf_b (fun e2=>?_) (fun e2=>?_))
   ·have hst:=hS3.ed.st
    try simp only [hst.ld_iff,sb_,Nat.reduceAdd]
    obtain⟨h0,h1⟩:=shl_end hn
    refine NN.mk h0 ?_
    refine Ret.use (f115 hS3.gl.gd t (hwf t htm)) ?_
    rintro _ w4 ⟨rfl,f4⟩
    rw [AsI_int,h1]
    refine⟨(hst.fr0 f4).cell.trans rfl,?_⟩
    refine BIf_cases (fun hgt=>?_) (fun hle=>?_)
    ·refine⟨1,rfl,.inl ⟨rfl,t,htm,?_⟩,f13.trans f4⟩
     unfold Tr.bad
     rw [decide_eq_false (by omega),Bool.and_false];rfl
    ·rw [w64 (n:=(i:Int)+1) (by omega) (by omega)]
     refine⟨⟨i+1,x,by omega,rfl,f13.trans f4,fun k t' hk ht'=>?_⟩,(by first|omega|(simp only [Int.toNat_natCast];omega))⟩
     by_cases hki:k=i
     ·subst hki
      rw [ht] at ht';injection ht' with ht';subst ht'
      unfold Tr.bad
      rw [e1,e2,decide_eq_true (by omega)];rfl
     ·exact hb k t' (by omega) ht'
   ·refine⟨1,rfl,.inl ⟨rfl,t,htm,?_⟩,f13⟩
    unfold Tr.bad
    rw [e2,Bool.and_false,Bool.false_and];rfl
  ·refine⟨1,rfl,.inl ⟨rfl,t,htm,?_⟩,f13⟩
   unfold Tr.bad
   rw [e1,Bool.false_and,Bool.false_and];rfl
 ·have hgood:∀t∈l,t.bad n=false:=mem_of_get_lt fun k t hk ht=>hb k t (by omega) ht
  refine Loop.by (fun s w'=>∃i:Nat,∃x:Int,i≤l.length∧s=[.int .i64 (i:Int),.int .i64 x]∧Fr0 w w'∧∀k t,k<i→l[k]?=some t→(∀b∈R.blocks,clashB t b=false)∧∀b∈l.take k,clashB t b=false) (fun s _=>match s with | [.int _ i,_]=>l.length-i.toNat|_=>0) ⟨0,x,by omega,rfl,f1,fun _ _ h=>absurd h (by omega)⟩ ?_
  rintro _ w2 ⟨i,x,hi,rfl,f2,hb2⟩
  simp only [UnC_cons,UnN_nil,AsI_int]
  refine BIf_cases (fun hlt=>?_) (fun hge2=>?_)
  ·obtain⟨t,ht⟩:∃t,l[i]?=some t:=⟨l[i]'(by omega),List.getElem?_eq_getElem _⟩
   have htm:=List.mem_of_getElem? ht
   refine tr_ld (hl.fr0 f2) rfl ht hlt ?_
   refine New8 (fun w3 n3 f3 s3=>?_)
   have hS3:=(hS.fr0 f2).fr0 f3
   have f03:=f2.trans f3
   obtain⟨pb,cb,h1,h2,h3⟩:=(hS3.ed.root _ hm).st
   simp only [at0_mk,Nat.zero_add]
   refine h1.ld rfl (AsSl_slice.2 ?_)
   refine Loop.by (fun s w'=>∃j:Nat,∃x:Int,j≤R.blocks.length∧s=[.int .i64 (j:Int),.int .i64 x]∧Fr0 w3 w'∧∀k b,k<j→R.blocks[k]?=some b→clashB t b=false) (fun s _=>match s with | [.int _ i,_]=>R.blocks.length-i.toNat|_=>0) ⟨0,x,by omega,rfl,Fr.refl _ _,fun _ _ h=>absurd h (by omega)⟩ ?_
   rintro _ w4 ⟨j,y,hj,rfl,f4,hb3⟩
   simp only [UnC_cons,UnN_nil,AsI_int]
   refine BIf_cases (fun hltj=>?_) (fun hgej=>?_)
   ·obtain⟨b,hbj⟩:∃b,R.blocks[j]?=some b:=⟨R.blocks[j]'(by omega),List.getElem?_eq_getElem _⟩
    have hbm:=List.mem_of_getElem? hbj
    refine tr_ld (h2.rd.fr0 f4) rfl hbj hltj ?_
    refine New8 (fun w5 n5 f5 s5=>?_)
    have n35:=(n3.fr0 f4).fr0 f5
    try simp only [n5.ld_iff,n35.ld_iff,sb_,Nat.reduceAdd]
    refine Ret.use (f116 (((hS3.gl.fr0 f4).fr0 f5).gd) t b (hwf t htm) (hwb b hbm)) ?_
    rintro _ w6 ⟨rfl,f6⟩
    rw [AsB_bool]
    have f46:=(f4.trans f5).trans f6
    refine BIf_b (fun e=>?_) (fun e=>?_)
    ·exact⟨141,rfl,.inr (.inl ⟨rfl,hgood,i,t,ht,.inl ⟨b,hbm,e⟩⟩),f03.trans f46⟩
    ·rw [w64 (n:=(j:Int)+1) (by omega) (by omega)]
     refine⟨⟨j+1,y,by omega,rfl,f46,fun k b' hk hb'=>?_⟩,(by first|omega|(simp only [Int.toNat_natCast];omega))⟩
     by_cases hkj:k=j
     ·subst hkj;rw [hbj] at hb';injection hb' with hb';subst hb';exact e
     ·exact hb3 k b' (by omega) hb'
   ·refine⟨by omega,by omega,?_⟩
    have hbs:∀b∈R.blocks,clashB t b=false:=mem_of_get_lt fun k b hk hbk=>hb3 k b (by omega) hbk
    simp only [Int.toNat_natCast,Nat.sub_zero,slAddr_zero]
    refine Loop.by (fun s w'=>∃j:Nat,∃x:Int,j≤i∧s=[.int .i64 (j:Int),.int .i64 x]∧Fr0 w4 w'∧∀k b,k<j→l[k]?=some b→clashB t b=false) (fun s _=>match s with | [.int _ j,_]=>i-j.toNat|_=>0) ⟨0,y,by omega,rfl,Fr.refl _ _,fun _ _ h=>absurd h (by omega)⟩ ?_
    rintro _ w5 ⟨j,y,hj,rfl,f5,hb4⟩
    simp only [UnC_cons,UnN_nil,AsI_int]
    have f05:=(f03.trans f4).trans f5
    refine BIf_cases (fun hltj=>?_) (fun hgej=>?_)
    ·obtain⟨b,hbj⟩:∃b,l[j]?=some b:=⟨l[j]'(by omega),List.getElem?_eq_getElem _⟩
     have hbm:=List.mem_of_getElem? hbj
     refine tr_ld (hl.fr0 f05) rfl hbj hltj ?_
     refine New8 (fun w6 n6 f6 s6=>?_)
     have n36:=((n3.fr0 f4).fr0 f5).fr0 f6
     try simp only [n6.ld_iff,n36.ld_iff,sb_,Nat.reduceAdd]
     refine Ret.use (f116 (((((hS3.gl.fr0 f4).fr0 f5).fr0 f6)).gd) t b (hwf t htm) (hwf b hbm)) ?_
     rintro _ w7 ⟨rfl,f7⟩
     rw [AsB_bool]
     have f57:=f6.trans f7
     refine BIf_b (fun e=>?_) (fun e=>?_)
     ·refine⟨141,rfl,.inr (.inl ⟨rfl,hgood,i,t,ht,.inr ⟨b,?_,e⟩⟩),f05.trans f57⟩
      refine List.mem_of_getElem? (i:=j) ?_
      rw [List.getElem?_take,if_pos (by omega)];exact hbj
     ·rw [w64 (n:=(j:Int)+1) (by omega) (by omega)]
      refine⟨⟨j+1,y,by omega,rfl,f5.trans f57,fun k b' hk hb'=>?_⟩,(by first|omega|(simp only [Int.toNat_natCast];omega))⟩
      by_cases hkj:k=j
      ·subst hkj;rw [hbj] at hb';injection hb' with hb';subst hb';exact e
      ·exact hb4 k b' (by omega) hb'
    ·rw [w64 (n:=(i:Int)+1) (by omega) (by omega)]
     refine⟨⟨i+1,y,by omega,rfl,f05,fun k t' hk ht'=>?_⟩,(by first|omega|(simp only [Int.toNat_natCast];omega))⟩
     by_cases hki:k=i
     ·subst hki
      rw [ht] at ht';injection ht' with ht';subst ht'
      refine⟨hbs,mem_of_get_lt fun k' b hk' hbk=>?_⟩
      rw [List.length_take] at hk'
      rw [List.getElem?_take] at hbk
      split at hbk
      ·exact hb4 k' b (by omega) hbk
      ·cases hbk
     ·exact hb2 k t' (by omega) ht'
  ·exact⟨0,rfl,.inr (.inr ⟨rfl,hgood,fun k t ht=>hb2 k t (by have:=(List.getElem?_eq_some_iff.1 ht).1;omega) ht⟩),f2⟩
theorem f182 {w:World} {y:Value} {s:Nat} {fs:List Value} {p:Option Addr} {c:Nat} (J:Nat→World→Prop) (hJ:J fs.length w) (hlen:fs.length≤1000000000000) (hread:∀i w',J i w'→Has w' s [.slice p fs.length c]∧Rd w' p fs)
  (step:∀i f,fs[i]?=some f→∀w',J (i+1) w'→∀K:Value→World→Prop,(∀w'',J i w''→K (.bool true) w'')→FnY prog y [.int .i64 (i:Int),f] w' K) :
  Ret prog 182 #[y,.pointer (some ⟨s,0,none⟩)] w fun v w'=>J 0 w':=by
 refine F182c_of _ _ _ _ ?_
 unfold F182c;try dsimp only [ls_,ui_]
 refine (hread _ _ hJ).1.ld rfl (AsSl_slice.2 ?_)
 have e0:IntKind.i64.wrap ((fs.length:Int)-1)=(fs.length:Int)-1:=w64 (by omega) (by omega)
 rw [e0]
 refine Loop.by (fun st w'=>∃i:Nat,i≤fs.length∧st=[.int .i64 ((i:Int)-1)]∧J i w') (fun st _=>match st with | [.int _ i]=>(i+1).toNat|_=>0) ⟨fs.length,Nat.le_refl _,rfl,hJ⟩ ?_
 rintro _ w1 ⟨i,hi,rfl,h1⟩
 simp only [UnC_cons,UnN_nil,AsI_int]
 refine BIf_cases (fun hge=>?_) (fun hlt=>?_)
 ·obtain⟨k,rfl⟩:∃k,i=k+1:=⟨i-1,by omega⟩
  have hk:((k+1:Nat):Int)-1=(k:Int):=by omega
  rw [hk]
  obtain⟨f,hf⟩:∃f,fs[k]?=some f:=⟨fs[k]'(by omega),List.getElem?_eq_getElem _⟩
  obtain⟨r1,r2⟩:=hread _ _ h1
  refine r1.ld rfl (AsSl_slice.2 ?_)
  obtain⟨b,o,hp,hc⟩:=r2 k f hf
  rw [hp,NilP_some]
  refine⟨by omega,by omega,?_⟩
  rw [at0_mk,Int.toNat_natCast,Nat.mul_one]
  refine⟨_,hc,?_⟩
  refine step k f hf w1 h1 _ fun w2 h2=>?_
  rw [AsB_bool]
  simp only [Bool.not_true,BIf_false]
  rw [w64 (n:=(k:Int)-1) (by omega) (by omega)]
  exact⟨⟨k,by omega,rfl,h2⟩,(by first|omega|(simp only [Int.toNat_natCast];omega))⟩
 ·obtain rfl:i=0:=by omega
  exact h1
inductive Chain (p0:Pool) (l0:List Qr):List Nat→Pool→List Qr→Prop
 | nil:Chain p0 l0 [] p0 l0
 | snoc {ns:List Nat} {p p':Pool} {l l':List Qr} {r:Nat} (h:Chain p0 l0 ns p l) (ho:SlabOk l) (hs:STake p l r 0 p' l'):Chain p0 l0 (ns++[r]) p' l'
theorem Chain.last {p0 p:Pool} {l0 l:List Qr} {ns:List Nat} {r:Nat} (h:Chain p0 l0 (ns++[r]) p l):∃p1 l1,Chain p0 l0 ns p1 l1∧SlabOk l1∧STake p1 l1 r 0 p l:=by
 generalize he:ns++[r]=ms at h
 cases h with
 | nil=>simp at he
 | snoc h ho hs =>
  obtain⟨rfl,e⟩:=List.append_inj' he rfl
  injection e with e;subst e
  exact⟨_,_,h,ho,hs⟩
def undoV (ea nb:Nat):Value:=.func (.func 121) #[] #[.pointer (some ⟨ea,0,none⟩),.pointer (some ⟨nb,0,none⟩)]
structure BackAt (w:World) (ro:Ro) (J:Ids) (u ea:Nat) (p:Option Addr) (c:Nat) (nbs ns:List Nat):Prop where
 st:Has w u [.slice p nbs.length c]
 rd:Rd w p (nbs.map (undoV ea))
 he:Has w ea [.pointer (some ⟨J.e,0,none⟩)]
 len:nbs.length=ns.length
 n:∀(i b n:Nat),nbs[i]?=some b→ns[i]?=some n→Has w b [.int .i64 (n:Int)]∧(ro b).1=0
 ru:(ro u).1=0
 re:(ro ea).1=0
 rp:∀b,On p b→(ro b).1=0
 lt:∀n∈ns,n<2^31
theorem BackAt.fr {w w':World} {ro:Ro} {J:Ids} {u ea c:Nat} {p:Option Addr} {nbs ns:List Nat} (h:BackAt w ro J u ea p c nbs ns) {T:Nat→Prop} (f:Fr T w w') (hT:∀x,x<w.heap.size→(ro x).1=0→¬T x):BackAt w' ro J u ea p c nbs ns:=by
 have f':Fr (fun x=>T x∧x<w.heap.size) w w':=f.mono fun b hb hS=>⟨hS,hb⟩
 exact⟨h.st.fr f' (fun ⟨h1,h2⟩=>hT _ h2 h.ru h1),h.rd.fr f' (fun b hb ⟨h1,h2⟩=>hT _ h2 (h.rp b hb) h1),h.he.fr f' (fun ⟨h1,h2⟩=>hT _ h2 h.re h1),h.len,fun i b n h1 h2=>⟨(h.n i b n h1 h2).1.fr f' (fun ⟨h3,h4⟩=>hT _ h4 (h.n i b n h1 h2).2 h3),(h.n i b n h1 h2).2⟩,h.ru,h.re,h.rp,h.lt⟩
theorem f121 {w:World} {ro:Ro} {J:Ids} {fr n:Nat} {S:St} (hS:Sys w ro J fr n S) {ea nb t:Nat} (h1:Has w ea [.pointer (some ⟨J.e,0,none⟩)]) (h2:Has w nb [.int .i64 (t:Int)]) (ht:t<2^31) :
  Ret prog 121 #[.pointer (some ⟨ea,0,none⟩),.pointer (some ⟨nb,0,none⟩)] w fun v w'=>v=.tuple #[]∧∃e p' l' ro',SDrop S.p S.l (t:Int) e p' l'∧RExt w ro ro'∧Sys w' ro' J fr n { S with p:=p',l:=l' }∧FrK psK ro w w':=by
 refine F121c_of _ _ _ _ ?_
 unfold F121c;try dsimp only [li_,lp_]
 have hst:=hS.ed.st
 refine h1.ld rfl (AsP_pointer.2 ?_)
 rw [NilP_some]
 try simp only [hst.ld_iff,h2.ld_iff,sb_,Nat.reduceAdd]
 have hS':=hS.fr0 (Qt.refl w).drew.fr
 refine Ret.use (ps_drop hS'.ps hS'.gl hS'.low (t:Int) (by omega)) ?_
 rintro _ w1 ⟨e,p',l',ro',rfl,hd,e1,hP,f1⟩
 rw [AsI_int]
 exact⟨by trivial,e,p',l',ro',hd,fun x hx=>e1 x hx,hS'.psT e1 hP f1,f1.of_drew⟩
theorem _root_.Go.Sh.Fr.thenS {T T':Nat→Prop} {a b c:World} (h:Fr T a b) (k:Fr T' b c) (hs:∀x,x<a.heap.size→T' x→T x):Fr T a c :=
 ⟨k.os.trans h.os,k.output.trans h.output,k.tape.trans h.tape,Nat.le_trans h.size k.size,fun x hx hn=>(k.block x (Nat.lt_of_lt_of_le hx h.size) fun h'=>hn (hs x hx h')).trans (h.block x hx hn)⟩
theorem f118 {w:World} (p:Option Addr) (n c:Nat):Ret prog 118 #[.slice p n c] w fun v w'=>v=.func (.func 182) #[] #[.pointer (some ⟨w.heap.size,0,none⟩)]∧Has w' w.heap.size [.slice p n c]∧Fr0 w w'∧w'.heap.size=w.heap.size+1:=by
 refine F118_of _ _ _ _ _ ?_
 unfold F118
 exact New.mk fun w1 n1 f1 s1=>⟨rfl,n1,f1,s1⟩
theorem f117 {w:World} {ro:Ro} {J:Ids} {fr n:Nat} {S:St} (hS:Sys w ro J fr n S) {u ea c:Nat} {p:Option Addr} {nbs ns:List Nat} (hB:BackAt w ro J u ea p c nbs ns) (hl:ns.length≤1000000000000) {p0:Pool} {l0:List Qr} (hC:Chain p0 l0 ns S.p S.l) (hok:SlabOk S.l) :
  Ret prog 117 #[.pointer (some ⟨u,0,none⟩)] w fun v w'=>v=.tuple #[]∧∃ro',RExt w ro ro'∧Sys w' ro' J fr n { S with p:=p0,l:=l0 }∧FrK psK ro w w':=by
 have hlen:=hB.len
 have hsz:=hS.gl.gr.size
 refine F117c_of _ _ _ ?_
 unfold F117c;try dsimp only [ls_]
 refine hB.st.ld rfl (AsSl_slice.2 ?_)
 refine Ret.use (f118 _ _ _) ?_
 rintro _ w1 ⟨rfl,n1,f1,s1⟩
 refine⟨182,_,_,rfl,by kernel_rfl,?_⟩
 intro y L Rdy Bsy hL hR hBs hY w2 f2 s2 hdef hrdy
 have g2:=f1.trans f2
 have hS2:=(hS.ext (RExt.cut (w:=w))).fr0 g2
 have hLn:((ro.cut w) L).1=0:=Ro.cut_new (by omega)
 have n2:=n1.fr0 f2
 obtain⟨T,hT⟩:∃T:Nat→Prop,T=fun b=>((ro.cut w) b).1∈psK∨b=L:=⟨_,rfl⟩
 have hTL:T L:=by rw [hT];exact .inr rfl
 have hback:∀w',Fr T w2 w'→BackAt w' ro J u ea p c nbs ns:=fun w' f=>by
  refine hB.fr ((g2.mono fun _ _ h=>h.elim).trans f) fun x hx h0 hTx=>?_
  rw [hT] at hTx
  rcases hTx with h|h
  ·rw [RExt.cut x hx,h0] at h;simp at h
  ·omega
 refine Ret.use (R:=fun v w'=>∃ro' p l,Chain p0 l0 (ns.take 0) p l∧SlabOk l∧RExt w2 (ro.cut w) ro'∧Sys w' ro' J fr n { S with p:=p,l:=l }∧Fr T w2 w'∧Rdy w') (f182 (fun i w'=>∃ro' p l,Chain p0 l0 (ns.take i) p l∧SlabOk l∧RExt w2 (ro.cut w) ro'∧Sys w' ro' J fr n { S with p:=p,l:=l }∧Fr T w2 w'∧Rdy w')
  (fs:=nbs.map (undoV ea)) (p:=p) (c:=c) ⟨ro.cut w,S.p,S.l,by rw [List.length_map,hlen,List.take_length];exact hC,hok,RExt.refl _ _,hS2,Fr.refl _ _,hrdy⟩ (by rw [List.length_map];omega) (fun i w'=>?_) (fun i f hf w'=>?_)) ?_
 ·rintro ⟨ro',p',l',h1,h2,h3,h4,h5,h6⟩
  refine⟨?_,(hback _ h5).rd⟩
  have:Has w2 w.heap.size [.slice p (nbs.map (undoV ea)).length c]:=by rw [List.length_map];exact n2
  refine this.fr h5 fun hx=>?_
  rw [hT] at hx
  rcases hx with h|h
  ·rw [Ro.cut_new (Nat.le_refl _)] at h;simp at h
  ·omega
 ·rintro ⟨ro',p',l',h1,h2,h3,h4,h5,h6⟩ K hK
  rw [List.getElem?_map] at hf
  obtain⟨nb,hnb,rfl⟩:=Option.map_eq_some_iff.1 hf
  have hil:=(List.getElem?_eq_some_iff.1 hnb).1
  obtain⟨t,ht⟩:∃t,ns[i]?=some t:=⟨ns[i]'(by omega),List.getElem?_eq_getElem _⟩
  have e1:ns.take (i+1)=ns.take i++[t]:=by rw [List.take_add_one,ht];rfl
  rw [e1] at h1
  obtain⟨p1,l1,c1,c2,c3⟩:=h1.last
  have hL':(ro' L).1=0:=by rw [h3 L (by omega)];exact hLn
  refine .inr (hY _ _ _ h6 ?_)
  simp only [UnC_cons,UnN_nil]
  refine⟨h6,fun w3 hb3 f3 s3=>?_⟩
  have f03:Fr T w2 w3:=h5.thenS f3 fun x _ hx=>by rw [show x=L from hx];exact hTL
  have hS3:=h4.frO f3 (fun x hx=>by rw [show x=L from hx];exact hL') (fun x hx h=>by have h:x=L:=h;omega)
  have hb:=hback _ f03
  refine .inl ⟨121,_,_,rfl,by kernel_rfl,?_⟩
  refine Ret.use (f121 hS3 hb.he (hb.n i nb t hnb ht).1 (hB.lt t (List.mem_of_getElem? ht))) ?_
  rintro _ w4 ⟨rfl,e,p4,l4,ro4,hd,e4,hS4,f4⟩
  simp only [sb_,Nat.reduceAdd]
  obtain⟨-,rfl,rfl⟩:=SDrop.det h2 hd (c3.undo c2)
  have hL4:(ro4 L).1=0:=by rw [e4 L (by have:=f03.size;omega)];exact hL'
  refine⟨hBs _ _ _ f4 (by rw [hL'];decide) hb3,fun w5 hr5 f5 s5=>hK w5 ?_⟩
  refine⟨ro4,p4,l4,c1,c2,fun x hx=>(e4 x (by have:=h5.size;have:=f3.size;omega)).trans (h3 x hx),?_,?_,hr5⟩
  ·exact hS4.frO f5 (fun x hx=>by rw [show x=L from hx];exact hL4) (fun x hx h=>by have h:x=L:=h;omega)
  ·refine (f03.thenS f4 fun x hx h=>?_).thenS f5 fun x _ hx=>by rw [show x=L from hx];exact hTL
   rw [hT];rw [h3 x hx] at h;exact .inl h
 ·rintro v w3 ⟨ro',p',l',h1,h2,h3,h4,h5,h6⟩
  refine⟨h6,fun w4 f4 s4=>?_⟩
  have e0:p'=p0∧l'=l0:=by
   rw [List.take_zero] at h1
   generalize hz:([]:List Nat)=z at h1
   cases h1 with
   | nil=>exact⟨rfl,rfl⟩
   | snoc=>simp at hz
  obtain⟨rfl,rfl⟩:=e0
  have hL':(ro' L).1=0:=by rw [h3 L (by omega)];exact hLn
  have hS4:=h4.frO f4 (fun x hx=>by rw [show x=L from hx];exact hL') (fun x hx h=>by have h:x=L:=h;omega)
  have f24:Fr T w2 w4:=h5.thenS f4 fun x _ hx=>by rw [show x=L from hx];exact hTL
  have hD:((ro.cut w) w1.heap.size).1=0:=Ro.cut_new (by omega)
  have hd4:w4.heap[w1.heap.size]?=some (.deferred (some [])):=by
   rw [f24.block _ (by omega) (fun hx=>by
    rw [hT] at hx
    rcases hx with h|h
    ·rw [hD] at h;simp at h
    ·omega)]
   exact hdef
  refine⟨hd4,fun w5 f5 s5=>?_⟩
  have hD':(ro' w1.heap.size).1=0:=by rw [h3 _ (by omega)];exact hD
  refine⟨rfl,ro',fun x hx=>(h3 x (by have:=g2.size;omega)).trans (RExt.cut x hx),hS4.frO f5 (fun x hx=>by rw [show x=_ from hx];exact hD') (fun x hx h=>by have h:x=w1.heap.size:=h;omega),?_⟩
  have f25:Fr (fun b=>T b∨b=w1.heap.size) w2 w5:=(f24.mono fun _ _ h=>.inl h).thenS f5 fun x _ hx=>.inr hx
  refine⟨f25.os.trans g2.os,f25.output.trans g2.output,f25.tape.trans g2.tape,Nat.le_trans g2.size f25.size,fun x hx hn=>(f25.block x (Nat.lt_of_lt_of_le hx g2.size) fun h=>?_).trans (g2.block x hx fun h=>h)⟩
  rcases h with h|h
  ·rw [hT] at h
   rcases h with h|h
   ·rw [RExt.cut x hx] at h;exact hn h
   ·omega
  ·omega
def needs (tabs mine:List (Nat×Nat)) (t:Tr):Bool:=t.paged && !(tab? tabs t.mib).isSome && !(tab? mine t.mib).isSome
inductive TakeI (tabs:List (Nat×Nat)) (p0:Pool) (l0:List Qr):List Tr→List (Nat×Nat×Bool)→List (Nat×Nat)→Pool→List Qr→Prop
 | nil:TakeI tabs p0 l0 [] [] [] p0 l0
 | skip {ts:List Tr} {got:List (Nat×Nat×Bool)} {mine:List (Nat×Nat)} {p:Pool} {l:List Qr} {t:Tr} (h:TakeI tabs p0 l0 ts got mine p l) (hn:needs tabs mine t=false):TakeI tabs p0 l0 (ts++[t]) got mine p l
 | one {ts:List Tr} {got:List (Nat×Nat×Bool)} {mine:List (Nat×Nat)} {p p':Pool} {l l':List Qr} {t:Tr} {r:Nat} (h:TakeI tabs p0 l0 ts got mine p l) (hn:needs tabs mine t=true) (ho:SlabOk l) (hs:STake p l r 0 p' l') :
   TakeI tabs p0 l0 (ts++[t]) (got++[(ts.length,r,!decide (r/4∈l.map Qr.f))]) (mine++[(t.mib,r)]) p' l'
theorem TakeI.chain {tabs:List (Nat×Nat)} {p0 p:Pool} {l0 l:List Qr} {ts:List Tr} {got:List (Nat×Nat×Bool)} {mine:List (Nat×Nat)} (h:TakeI tabs p0 l0 ts got mine p l):Chain p0 l0 (mine.map (·.2)) p l:=by
 induction h with
 | nil=>exact .nil
 | skip _ _ ih=>exact ih
 | one _ _ ho hs ih=>rw [List.map_append];exact .snoc ih ho hs
theorem TakeI.idx {tabs:List (Nat×Nat)} {p0 p:Pool} {l0 l:List Qr} {ts:List Tr} {got:List (Nat×Nat×Bool)} {mine:List (Nat×Nat)} (h:TakeI tabs p0 l0 ts got mine p l):∀g∈got,g.1<ts.length:=by
 induction h with
 | nil=>intro g hg;simp at hg
 | skip _ _ ih=>intro g hg;have:=ih g hg;simp;omega
 | one _ _ _ _ ih =>
  intro g hg
  rcases List.mem_append.1 hg with hg|hg
  ·have:=ih g hg;simp;omega
  ·simp at hg;subst hg;simp
theorem TakeI.mine_len {tabs:List (Nat×Nat)} {p0 p:Pool} {l0 l:List Qr} {ts:List Tr} {got:List (Nat×Nat×Bool)} {mine:List (Nat×Nat)} (h:TakeI tabs p0 l0 ts got mine p l):mine.length≤ts.length:=by
 induction h with
 | nil=>simp
 | skip _ _ ih=>simp;omega
 | one _ _ _ _ ih=>simp;omega
def TakeFail (tabs:List (Nat×Nat)) (p0:Pool) (l0:List Qr) (ts:List Tr) (e:Nat):Prop :=
 e≠0∧∃i t got mine p l r p' l',ts[i]?=some t∧TakeI tabs p0 l0 (ts.take i) got mine p l∧needs tabs mine t=true∧STake p l r e p' l'
def gotVals (l:List (Nat×Nat×Bool)):List (Int×Value):=l.map fun g=>((g.1:Int),.agg #[.int .i64 (g.2.1:Int),.bool g.2.2])
theorem T147:MapT prog 147 3 151 .i64 (.agg #[.int .i64 0,.bool false]):=⟨by kernel_rfl,by kernel_rfl,by kernel_rfl⟩
theorem E225:ElemT prog 225 1 Value.nilFunc 1 8:=⟨by kernel_rfl,by kernel_rfl,rfl,by decide⟩
structure TkAt (w:World) (ro:Ro) (J:Ids) (gm mm u ea:Nat) (got:List (Nat×Nat×Bool)) (mine:List (Nat×Nat)) (pu:Option Addr) (cu:Nat) (nbs:List Nat):Prop where
 hg:MapIs w gm .i64 (gotVals got)
 rg:ro gm=(0,1)
 hm:MapIs w mm .u32 (tabVals mine)
 rm:ro mm=(0,2)
 hu:Has w u [.slice pu nbs.length cu]
 ru:ro u=(0,3)
 he:Has w ea [.pointer (some ⟨J.e,0,none⟩)]
 re:ro ea=(0,4)
 sl:Sl w 0 1 1 pu nbs.length cu (nbs.map (undoV ea))
 rp:∀b,On pu b→ro b=(0,5)
 len:nbs.length=mine.length
 n:∀(i b:Nat) (x:Nat×Nat),nbs[i]?=some b→mine[i]?=some x→Has w b [.int .i64 (x.2:Int)]∧ro b=(0,6)
 lt:∀x∈mine,x.2<2^31
theorem TkAt.ext {w:World} {ro ro':Ro} {J:Ids} {gm mm u ea cu:Nat} {got:List (Nat×Nat×Bool)} {mine:List (Nat×Nat)} {pu:Option Addr} {nbs:List Nat} (h:TkAt w ro J gm mm u ea got mine pu cu nbs) (e:RExt w ro ro'):TkAt w ro' J gm mm u ea got mine pu cu nbs :=
 ⟨h.hg,(e _ (mapIs_lt h.hg)).trans h.rg,h.hm,(e _ (mapIs_lt h.hm)).trans h.rm,h.hu,(e _ h.hu.lt).trans h.ru,h.he,(e _ h.he.lt).trans h.re,h.sl,fun b hb=>(e _ (h.sl.lt b hb).2).trans (h.rp b hb),h.len,fun i b x h1 h2=>⟨(h.n i b x h1 h2).1,(e _ (h.n i b x h1 h2).1.lt).trans (h.n i b x h1 h2).2⟩,h.lt⟩
theorem TkAt.fr {w w':World} {ro:Ro} {J:Ids} {gm mm u ea cu:Nat} {got:List (Nat×Nat×Bool)} {mine:List (Nat×Nat)} {pu:Option Addr} {nbs:List Nat} (h:TkAt w ro J gm mm u ea got mine pu cu nbs) {T:Nat→Prop} (f:Fr T w w') (hT:∀x,1≤(ro x).2→(ro x).2≤6→(ro x).1=0→¬T x):TkAt w' ro J gm mm u ea got mine pu cu nbs:=by
 have hh:∀x k,1≤k→k≤6→ro x=(0,k)→¬T x:=fun x k h1 h2 h3=>hT x (by rw [h3];exact h1) (by rw [h3];exact h2) (by rw [h3])
 exact⟨h.hg.fr f (hh _ 1 (by decide) (by decide) h.rg),h.rg,h.hm.fr f (hh _ 2 (by decide) (by decide) h.rm),h.rm,h.hu.fr f (hh _ 3 (by decide) (by decide) h.ru),h.ru,h.he.fr f (hh _ 4 (by decide) (by decide) h.re),h.re,h.sl.fr f (fun b hb=>hh _ 5 (by decide) (by decide) (h.rp b hb)),h.rp,h.len,
  fun i b x h1 h2=>⟨(h.n i b x h1 h2).1.fr f (hh _ 6 (by decide) (by decide) (h.n i b x h1 h2).2),(h.n i b x h1 h2).2⟩,h.lt⟩
theorem TkAt.fr0 {w w':World} {ro:Ro} {J:Ids} {gm mm u ea cu:Nat} {got:List (Nat×Nat×Bool)} {mine:List (Nat×Nat)} {pu:Option Addr} {nbs:List Nat} (h:TkAt w ro J gm mm u ea got mine pu cu nbs) (f:Fr0 w w'):TkAt w' ro J gm mm u ea got mine pu cu nbs:=h.fr f fun _ _ _ _ h=>h
theorem TkAt.frK {w w':World} {ro:Ro} {J:Ids} {gm mm u ea cu:Nat} {got:List (Nat×Nat×Bool)} {mine:List (Nat×Nat)} {pu:Option Addr} {nbs:List Nat} (h:TkAt w ro J gm mm u ea got mine pu cu nbs) {ks:List Nat} (f:FrK ks ro w w') (h0:0∉ks):TkAt w' ro J gm mm u ea got mine pu cu nbs:=h.fr f fun x _ _ h1 hx=>h0 (by rw [h1] at hx;exact hx)
theorem TkAt.back {w:World} {ro:Ro} {J:Ids} {gm mm u ea cu:Nat} {got:List (Nat×Nat×Bool)} {mine:List (Nat×Nat)} {pu:Option Addr} {nbs:List Nat} (h:TkAt w ro J gm mm u ea got mine pu cu nbs):BackAt w ro J u ea pu cu nbs (mine.map (·.2)):=by
 refine⟨h.hu,h.sl.rd,h.he,by rw [List.length_map];exact h.len,fun i b n h1 h2=>?_,by rw [h.ru],by rw [h.re],fun b hb=>by rw [h.rp b hb],fun n hn=>?_⟩
 ·rw [List.getElem?_map] at h2
  obtain⟨x,hx,rfl⟩:=Option.map_eq_some_iff.1 h2
  obtain⟨k1,k2⟩:=h.n i b x h1 hx
  exact⟨k1,by rw [k2]⟩
 ·obtain⟨x,hx,rfl⟩:=List.mem_map.1 hn
  exact h.lt x hx
theorem ro_ne {ro:Ro} {a b i j:Nat} (ha:ro a=(0,i)) (hb:ro b=(0,j)) (hij:i≠j):a≠b:=fun e=>by rw [e,hb] at ha;injection ha with _ h;exact hij h.symm
theorem at_gotVals {got:List (Nat×Nat×Bool)} {i:Nat} (h:∀g∈got,g.1<i):at? (gotVals got) (i:Int)=none:=by
 unfold at? gotVals
 rw [List.find?_eq_none.2,Option.map_none]
 intro x hx
 obtain⟨g,hg,rfl⟩:=List.mem_map.1 hx
 have:=h g hg
 simp
 omega
theorem tab_val (l:List (Nat×Nat)) (m:Nat):(at? (tabVals l) (m:Int)).getD (.int .i64 0)=.int .i64 (((tab? l m).getD 0:Nat):Int):=by
 rw [at_tabVals];cases tab? l m<;>rfl
theorem tab_has (l:List (Nat×Nat)) (m:Nat):(at? (tabVals l) (m:Int)).isSome=(tab? l m).isSome:=by
 rw [at_tabVals];cases tab? l m<;>rfl
theorem f61 {w:World} {ro:Ro} {J:Ids} {fr n:Nat} {S:St} (hS:Sys w ro J fr n S) {at_:Nat} {R:RootS} (hm:(at_,R)∈S.roots) {q:Option Addr} {c:Nat} {l:List Tr} (hl:Rd w q (trCells l)) (hon:l≠[]→∀b,On q b→(ro b).1=0) (hll:l.length≤1000000000000)
  (hwf:∀t∈l,t.wf) (hok:SlabOk S.l) :
  Ret prog 61 #[.pointer (some ⟨J.e,0,none⟩),.pointer (some ⟨R.rb,0,none⟩),.slice q l.length c] w fun v w' =>
   (∃(e:Nat) (ro':Ro),v=.tuple #[.map none,.nilFunc,.int .i64 (e:Int)]∧TakeFail R.tabs S.p S.l l e∧RExt w ro ro'∧Sys w' ro' J fr n S∧FrK psK ro w w') ∨
   (∃(ro':Ro) (got:List (Nat×Nat×Bool)) (mine:List (Nat×Nat)) (p':Pool) (l':List Qr) (gm mm u ea cu:Nat) (pu:Option Addr) (nbs:List Nat),v=.tuple #[.map (some gm),.func (.func 117) #[] #[.pointer (some ⟨u,0,none⟩)],.int .i64 0] ∧
    TakeI R.tabs S.p S.l l got mine p' l'∧SlabOk l'∧RExt w ro ro'∧Sys w' ro' J fr n { S with p:=p',l:=l' }∧FrK psK ro w w'∧TkAt w' ro' J gm mm u ea got mine pu cu nbs):=by
 have hsz:=hS.gl.gr.size
 refine F61_of _ _ _ _ _ _ _ ?_
 unfold F61;try dsimp only [Liuviiubb,S_8,Uib,Uii,ce_,lb_,li_,lm_,lp_,ls_,ub_,ui_,um_]
 refine New.mk fun wa na fa sa=>?_
 refine makeMap_ok .i64 fun wb nb fb sb=>?_
 rw [AsM_map]
 refine makeMap_ok .u32 fun wc nc fc sc=>?_
 rw [AsM_map]
 refine New.mk fun wd nd fd sd=>?_
 have g0:=((fa.trans fb).trans fc).trans fd
 obtain⟨ro0,hro0⟩:∃ro0:Ro,ro0=fun x=>if x<w.heap.size then ro x else if x=w.heap.size then (0,4) else if x=wa.heap.size then (0,1) else if x=wb.heap.size then (0,2) else if x=wc.heap.size then (0,3) else (0,0):=⟨_,rfl⟩
 have e0:RExt w ro ro0:=fun x hx=>by rw [hro0];simp only [if_pos hx]
 have hS0:=(hS.ext e0).fr0 g0
 have hT0:TkAt wd ro0 J wa.heap.size wb.heap.size wc.heap.size w.heap.size [] [] none 0 []:=by
  refine⟨(nb.fr fc (fun h=>h)).fr fd (fun h=>h),?_,nc.fr fd (fun h=>h),?_,nd,?_,((na.fr0 fb).fr0 fc).fr0 fd,?_,Sl.nil _ _ _ _,fun b hb=>?_,rfl,fun i b x h=>by simp at h,fun x hx=>by simp at hx⟩
  ·rw [hro0];simp only;rw [if_neg (by omega),if_neg (by omega)];simp
  ·rw [hro0];simp only;rw [if_neg (by omega),if_neg (by omega),if_neg (by omega)];simp
  ·rw [hro0];simp only;rw [if_neg (by omega),if_neg (by omega),if_neg (by omega),if_neg (by omega)];simp
  ·rw [hro0];simp only;rw [if_neg (by omega)];simp
  ·obtain⟨a,h,_⟩:=hb;cases h
 have F0:FrK psK ro w wd:=g0.mono fun _ _ h=>h.elim
 have z1:w.heap.size≤wa.heap.size:=fa.size
 have z2:wa.heap.size≤wb.heap.size:=fb.size
 have z3:wb.heap.size≤wc.heap.size:=fc.size
 generalize hgm:wa.heap.size=gm at *
 generalize hmm:wb.heap.size=mm at *
 generalize hu:wc.heap.size=u at *
 generalize hea:w.heap.size=ea at *
 clear hro0
 refine Loop.by (fun s w'=>∃(i:Nat) (x:Int) (v:Value) (pm:Option Nat) (ro':Ro) (got:List (Nat×Nat×Bool)) (mine:List (Nat×Nat)) (p':Pool) (l':List Qr) (cu:Nat) (pu:Option Addr) (nbs:List Nat),
   i≤l.length∧s=[.int .i64 (i:Int),.int .i64 x,v,.map pm]∧TakeI R.tabs S.p S.l (l.take i) got mine p' l'∧SlabOk l'∧RExt w ro ro'∧Sys w' ro' J fr n { S with p:=p',l:=l' }∧FrK psK ro w w'∧TkAt w' ro' J gm mm u ea got mine pu cu nbs∧∀b,On pu b→ea≤b)
  (fun s _=>match s with | [.int _ i,_,_,_]=>l.length-i.toNat|_=>0)
  ⟨0,0,.nilFunc,none,ro0,[],[],S.p,S.l,0,none,[],by omega,rfl,.nil,hok,e0,hS0,F0,hT0,fun b hb=>by obtain⟨a,h,_⟩:=hb;cases h⟩ ?_
 rintro _ w1 ⟨i,x,v,pm,ro1,got,mine,p1,l1,cu,pu,nbs,hi,rfl,hTI,hok1,e1,hS1,F1,hT1,hpu⟩
 simp only [UnC_cons,UnN_nil,AsI_int,AsM_map]
 refine BIf_cases (fun hlt=>?_) (fun hge=>?_)
 ·obtain⟨t,ht⟩:∃t,l[i]?=some t:=⟨l[i]'(by omega),List.getElem?_eq_getElem _⟩
  have htm:=List.mem_of_getElem? ht
  have hva:t.va<2^32:=hwf t htm
  have htake:l.take (i+1)=l.take i++[t]:=by rw [List.take_add_one,ht];rfl
  refine Join.at (fun s w'=>∃(x:Int) (v:Value) (pm:Option Nat) (ro':Ro) (got:List (Nat×Nat×Bool)) (mine:List (Nat×Nat)) (p':Pool) (l':List Qr) (cu:Nat) (pu:Option Addr) (nbs:List Nat),
   s=[.int .i64 x,v,.map pm]∧TakeI R.tabs S.p S.l (l.take (i+1)) got mine p' l'∧SlabOk l'∧RExt w ro ro'∧Sys w' ro' J fr n { S with p:=p',l:=l' }∧FrK psK ro w w'∧TkAt w' ro' J gm mm u ea got mine pu cu nbs∧∀b,On pu b→ea≤b) ?_ ?_
  ·refine tr_ld (hl.fr F1 fun b hb h=>by rw [hon (fun h=>by rw [h] at ht;simp at ht) b hb] at h;simp at h) rfl ht hlt ?_
   refine New8 (fun w2 n2 f2 s2=>?_)
   have hS2:=(hS1.ext (RExt.cut (w:=w1))).fr0 f2
   have hT2:=(hT1.ext (RExt.cut (w:=w1))).fr0 f2
   have hR2:=hS2.ed.root _ hm
   obtain⟨pb,cb,h1,h2,h3⟩:=hR2.st
   have F2:FrK psK ro w w2:=F1.thenS f2 fun _ _ h=>h.elim
   have hea1:ea≤w1.heap.size:=by rw [←hea];exact F1.size
   have hea2:ea≤w2.heap.size:=by rw [←hea];exact F2.size
   try simp only [n2.ld_iff,h1.ld_iff,sb_,Nat.reduceAdd]
   rw [mib_wrap hva]
   refine lookup_ok T131 (hR2.tm.fr (S:=fun _=>False) (Qt.refl w2).drew.fr (fun h=>h)) _ ?_
   rw [show (((t.va/1048576:Nat):Int))=((t.mib:Nat):Int) from rfl,tab_val,tab_has]
   simp only [sb_,Nat.reduceAdd]
   try simp only [n2.ld_iff,sb_,Nat.reduceAdd]
   refine lookup_ok T131 (hT2.hm.fr (S:=fun _=>False) (Qt.refl w2).drew.fr (fun h=>h)) _ ?_
   rw [tab_val,tab_has]
   simp only [sb_,Nat.reduceAdd]
   try simp only [n2.ld_iff,sb_,Nat.reduceAdd]
   refine Ret.use (f89 t) ?_
   rintro _ w3 ⟨rfl,f3⟩
   replace f3:=f3.of_drew
   rw [AsB_bool]
   have F3:FrK psK ro w w3:=F2.thenS f3 fun _ _ h=>h.elim
   have hS3:=hS2.fr0 f3
   have hT3:=hT2.fr0 f3
   have e3:RExt w ro (ro1.cut w1):=fun x hx=>(RExt.cut x (Nat.lt_of_lt_of_le hx F1.size)).trans (e1 x hx)
   have skip:needs R.tabs mine t=false→∃(x_1:Int) (v_1:Value) (pm_1:Option Nat) (ro':Ro) (got:List (Nat×Nat×Bool)) (mine:List (Nat×Nat)) (p':Pool) (l':List Qr) (cu:Nat) (pu:Option Addr) (nbs:List Nat),
     [Value.int .i64 x,v,.map pm]=[.int .i64 x_1,v_1,.map pm_1]∧TakeI R.tabs S.p S.l (l.take (i+1)) got mine p' l'∧SlabOk l'∧RExt w ro ro'∧Sys w3 ro' J fr n { S with p:=p',l:=l' }∧FrK psK ro w w3∧TkAt w3 ro' J gm mm u ea got mine pu cu nbs∧∀b,On pu b→ea≤b :=
    fun h=>⟨x,v,pm,ro1.cut w1,got,mine,p1,l1,cu,pu,nbs,rfl,by rw [htake];exact .skip hTI h,hok1,e3,hS3,F3,hT3,hpu⟩
   refine BIf_not.2 (BIf_b (fun c1=>?_) (fun c1=>skip (by unfold needs;rw [c1];rfl)))
   refine BIf_b (fun c2=>skip (by unfold needs;rw [c2];simp)) (fun c2=>?_)
   refine BIf_b (fun c3=>skip (by unfold needs;rw [c3];simp)) (fun c3=>?_)
   have hneed:needs R.tabs mine t=true:=by unfold needs;rw [c1,c2,c3];rfl
   clear skip
   have he3:=hT3.he
   have hst3:=hS3.ed.st
   refine he3.ld rfl (AsP_pointer.2 ?_)
   rw [NilP_some]
   try simp only [hst3.ld_iff,sb_,Nat.reduceAdd]
   obtain⟨g,cg,hsl,hslr⟩:=hS3.ps.slab
   refine Ret.use (f119 hsl) ?_
   rintro _ w4 ⟨qo,co,rfl,hold,f4⟩
   rw [AsSl_slice]
   have hS4:=hS3.fr0 f4
   have hT4:=hT3.fr0 f4
   have F4:FrK psK ro w w4:=F3.thenS f4 fun _ _ h=>h.elim
   have he4:=hT4.he
   have hst4:=hS4.ed.st
   refine he4.ld rfl (AsP_pointer.2 ?_)
   rw [NilP_some]
   try simp only [hst4.ld_iff,sb_,Nat.reduceAdd]
   refine Ret.use (ps_take hS4.ps hS4.gl hS4.low) ?_
   rintro _ w5 ⟨r,er,p5,l5,ro5,rfl,hstk,e5,hP5,f5⟩
   have hS5:=hS4.psT e5 hP5 f5
   have hT5:=(hT4.ext e5).frK (f5.ext e5) (by decide)
   have F5:FrK psK ro w w5:=FrK.then F4 e3 f5
   obtain⟨g5,cg5,hsl5,-⟩:=hP5.slab
   have hrt:r<2^31:=by
    rcases hstk.least hok1 with ⟨_,_,_,_,_,h⟩|⟨_,_,_,h,_⟩|⟨_,_,_,_,_,_,h⟩
    ·have:=tabs_lt hsl5.ok h;omega
    ·omega
    ·have:=tabs_lt hsl5.ok h;omega
   simp only [sb_,Nat.reduceAdd]
   refine New.mk fun w6 n6 f6 s6=>?_
   try simp only [at0_mk,Nat.zero_add]
   refine n6.st (by simp) rfl fun w7 n7 f7 s7=>?_
   have f57:Fr0 w5 w7:=f6.new f7 (Nat.le_refl _)
   obtain⟨ro6,hro6⟩:∃ro6:Ro,ro6=fun x=>if x<w5.heap.size then ro5 x else if x=w5.heap.size then (0,6) else (0,0):=⟨_,rfl⟩
   have e6:RExt w5 ro5 ro6:=fun x hx=>by rw [hro6];simp only [if_pos hx]
   have hS7:=(hS5.ext e6).fr0 f57
   have hT7:=(hT5.ext e6).fr0 f57
   have F7:FrK psK ro w w7:=F5.thenS f57 fun _ _ h=>h.elim
   have e7:RExt w ro ro6:=fun x hx=>(e6 x (Nat.lt_of_lt_of_le hx F5.size)).trans ((e5 x (Nat.lt_of_lt_of_le hx F4.size)).trans (e3 x hx))
   have hml:mine.length≤1000000000000:=by have:=hTI.mine_len;rw [List.length_take] at this;omega
   refine BIf_ne (fun her=>?_) (fun her=>?_)
   ·refine .inl ⟨117,_,_,rfl,by kernel_rfl,?_⟩
    have hpl:p5=p1∧l5=l1:=by
     cases hstk with
     | old=>exact absurd rfl her
     | none=>exact⟨rfl,rfl⟩
     | fresh=>exact absurd rfl her
    refine Ret.use (f117 hS7 hT7.back (by rw [List.length_map];exact hml) (p0:=S.p) (l0:=S.l) (by rw [hpl.1,hpl.2];exact hTI.chain) (by rw [hpl.2];exact hok1)) ?_
    rintro _ w8 ⟨rfl,ro8,e8,hS8,f8⟩
    simp only [sb_,Nat.reduceAdd]
    exact .inl ⟨er,ro8,rfl,⟨fun h=>her (by rw [h];rfl),i,t,got,mine,p1,l1,r,p5,l5,ht,hTI,hneed,hstk⟩,fun x hx=>(e8 x (Nat.lt_of_lt_of_le hx F7.size)).trans (e7 x hx),hS8,FrK.then F7 e7 f8⟩
   ·obtain rfl:er=0:=by omega
    have hu7:=hT7.hu
    refine hu7.ld rfl (AsSl_slice.2 ?_)
    refine push_sl E225 (by decide) hT7.sl (Nat.zero_le _) rfl (by intro v hv;simp [Value.cells] at hv;subst hv;rfl) (by simp only [maxLen,hT7.len];omega) (by rw [hT7.len];omega) fun pu' cu' w8 hsl8 f8 hon8=>?_
    rw [AsSl_slice]
    have h7:7≤ea:=by omega
    have r5t:(ro6 w1.heap.size)=(0,0):=by
     rw [e6 _ (by have:=f2.size;have:=f3.size;have:=f4.size;have:=f5.size;omega),e5 _ (by have:=f3.size;have:=f4.size;omega)]
     simp only [Ro.cut,if_neg (show ¬w1.heap.size<w1.heap.size by omega)]
    have hqo:∀b,On qo b→ro6 b=(0,0):=fun b hb=>by
     have h9:=hold.lt b hb
     rw [e6 _ (by have:=f5.size;omega),e5 _ h9.2]
     simp only [Ro.cut,if_neg (show ¬b<w1.heap.size by have:=f2.size;have:=f3.size;omega)]
    have r6n:ro6 w5.heap.size=(0,6):=by rw [hro6];simp
    obtain⟨ro8,hro8⟩:∃ro8:Ro,ro8=fun x=>if x<w7.heap.size then ro6 x else (0,5):=⟨_,rfl⟩
    have e8:RExt w7 ro6 ro8:=fun x hx=>by rw [hro8];simp only [if_pos hx]
    have hpu8:∀b,On pu' b→ro8 b=(0,5)∧ea≤b:=fun b hb=>by
     rcases hon8 b hb with h|h
     ·exact⟨by rw [e8 b (hT7.sl.lt b h).2];exact hT7.rp b h,hpu b h⟩
     ·refine⟨by rw [hro8];simp only [if_neg (show ¬b<w7.heap.size by omega)],?_⟩
      have:=F7.size;omega
    have z7:ea≤w7.heap.size:=by rw [←hea];exact F7.size
    have hT7':=hT7.ext e8
    have F8:FrK psK ro w w8:=F7.thenS f8 fun x hx h=>by have:=hpu x h;omega
    have hS8:=(hS7.ext e8).frO f8 (fun x hx=>by rw [hT7'.rp x hx]) (fun x hx h=>by have:=hpu x h;omega)
    have tb7:Has w7 w1.heap.size t.cells:=by
     refine ((((n2.fr0 f3).fr0 f4).fr f5 ?_).fr0 f57)
     intro hx
     have:(ro1.cut w1 w1.heap.size).1=0:=Ro.cut_new (Nat.le_refl _)
     rw [this] at hx;simp at hx
    have old7:Sl w7 w3.heap.size 3 1 qo l1.length co (i64n (l1.map Qr.f)):=by
     refine ((hold.fr f5 ?_).fr0 f57)
     intro b hb hx
     have h9:=hold.lt b hb
     have:(ro1.cut w1 b).1=0:=Ro.cut_new (by have:=f2.size;have:=f3.size;omega)
     rw [this] at hx;simp at hx
    have np:∀{a k:Nat},ro6 a=(0,k)→k≠5→¬On pu a:=fun h1 h2 h3=>ro_ne h1 (hT7.rp _ h3) h2 rfl
    have tb8:=tb7.fr f8 (np r5t (by decide))
    have old8:=old7.fr f8 (fun b hb=>np (hqo b hb) (by decide))
    have nb8:Has w8 w5.heap.size [.int .i64 (r:Int)]:=(show Has w7 w5.heap.size [.int .i64 (r:Int)] by simpa using n7).fr f8 (np r6n (by decide))
    have g8:=hT7.hg.fr f8 (np hT7.rg (by decide))
    have m8:=hT7.hm.fr f8 (np hT7.rm (by decide))
    have u8:=hT7.hu.fr f8 (np hT7.ru (by decide))
    have a8:=hT7.he.fr f8 (np hT7.re (by decide))
    refine u8.st (by simp) rfl fun w9 u9 f9 s9=>?_
    have nu:∀{a k:Nat},ro6 a=(0,k)→k≠3→¬(a=u):=fun h1 h2 h3=>ro_ne h1 hT7.ru h2 h3
    have uge:7≤u∧ea≤u:=by omega
    have tb9:=tb8.fr f9 (nu r5t (by decide))
    have old9:=old8.fr f9 (fun b hb=>nu (hqo b hb) (by decide))
    have nb9:=nb8.fr f9 (nu r6n (by decide))
    have g9:=g8.fr f9 (nu hT7.rg (by decide))
    have m9:=m8.fr f9 (nu hT7.rm (by decide))
    have a9:=a8.fr f9 (nu hT7.re (by decide))
    have hS9:=hS8.frO f9 (fun x hx=>by rw [show x=u from hx,hT7'.ru]) (fun x hx h=>by have h:x=u:=h;omega)
    have F9:FrK psK ro w w9:=F8.thenS f9 fun x hx h=>by have h:x=u:=h;omega
    refine nb9.ld rfl (AsI_int.2 ?_)
    refine nb9.ld rfl (AsI_int.2 ?_)
    have hr4:IntKind.i64.wrap ((r:Int).tdiv 4)=((r/4:Nat):Int):=by
     rw [show (4:Int)=((4:Nat):Int) from rfl,←Int.ofNat_tdiv,w64 (by omega) (by omega)]
    rw [hr4]
    have hL:i64n (l1.map Qr.f)=((l1.map Qr.f).map fun n=>((n:Nat):Int)).map (Value.int .i64):=by unfold i64n;simp only [List.map_map];rfl
    have h122:=f122 (w:=w9.drew) (p:=qo) (l:=(l1.map Qr.f).map fun n=>((n:Nat):Int)) (c:=co) (by rw [←hL];exact old9.rd.qt (Qt.refl w9).drew) (by rw [List.length_map,List.length_map];have h9:l1.length≤268435456:=hsl.ok.len;omega) ((r/4:Nat):Int)
    rw [List.length_map,List.length_map] at h122
    refine Ret.use h122 ?_
    rintro _ _ ⟨rfl,hw⟩
    obtain rfl:=hw.symm
    have hdec:decide ((((r/4:Nat):Int))∈(l1.map Qr.f).map fun n=>((n:Nat):Int))=decide (r/4∈l1.map Qr.f):=by
     congr 1
     rw [eq_iff_iff,List.mem_map]
     constructor
     ·rintro ⟨y,hy,e⟩
      have:y=r/4:=by omega
      rw [←this];exact hy
     ·intro h;exact⟨_,h,rfl⟩
    rw [hdec,AsB_bool]
    refine⟨nb9.drew.cell.trans rfl,?_⟩
    refine mapUpdate_new T147 (g9.fr (S:=fun _=>False) (Qt.refl w9).drew.fr (fun h=>h)) (at_gotVals fun g hg=>by have:=hTI.idx g hg;rw [List.length_take] at this;omega) _ fun w10 g10 f10 s10=>?_
    replace f10:=f10.of_drew
    have ng:∀{a k:Nat},ro6 a=(0,k)→k≠1→¬(a=gm):=fun h1 h2 h3=>ro_ne h1 hT7.rg h2 h3
    have tb10:=tb9.fr f10 (ng r5t (by decide))
    have nb10:=nb9.fr f10 (ng r6n (by decide))
    have m10:=m9.fr f10 (ng hT7.rm (by decide))
    have u10:=u9.fr f10 (ng hT7.ru (by decide))
    have a10:=a9.fr f10 (ng hT7.re (by decide))
    have hS10:=hS9.frO f10 (fun x hx=>by rw [show x=gm from hx,hT7'.rg]) (fun x hx h=>by have h:x=gm:=h;omega)
    have F10:FrK psK ro w w10:=F9.thenS f10 fun x hx h=>by have h:x=gm:=h;omega
    have tb10':Has w10 w1.heap.size [.int .i64 t.size,.int .u32 (t.va:Int),.int .u64 (t.pa:Int),.int .i64 t.dom,.int .i64 t.ap,.int .u32 (t.bits:Int),.bool t.ng,.bool t.xn]:=tb10
    try simp only [tb10'.ld_iff,nb10.ld_iff,sb_,Nat.reduceAdd]
    rw [mib_wrap hva]
    have hmn:at? (tabVals mine) ((t.va/1048576:Nat):Int)=none:=by
     rw [at_tabVals]
     have:tab? mine (t.va/1048576)=none:=by
      have h9:tab? mine t.mib=none:=by
       cases h:tab? mine t.mib with
       | none=>rfl
       | some v=>rw [h] at c3;cases c3
      exact h9
     rw [this];rfl
    refine mapUpdate_new T131 m10 hmn _ fun w11 m11 f11 s11=>?_
    have nm:∀{a k:Nat},ro6 a=(0,k)→k≠2→¬(a=mm):=fun h1 h2 h3=>ro_ne h1 hT7.rm h2 h3
    have nb11:=nb10.fr f11 (nm r6n (by decide))
    have hS11:=hS10.frO f11 (fun x hx=>by rw [show x=mm from hx,hT7'.rm]) (fun x hx h=>by have h:x=mm:=h;omega)
    have F11:FrK psK ro w w11:=F10.thenS f11 fun x hx h=>by have h:x=mm:=h;omega
    have hlen:=hT7.len
    refine⟨x,v,pm,ro8,got++[(i,r,!decide (r/4∈l1.map Qr.f))],mine++[(t.mib,r)],p5,l5,cu',pu',nbs++[w5.heap.size],rfl,?_,hsl5.ok,?_,hS11,F11,?_,fun b hb=>(hpu8 b hb).2⟩
    ·rw [htake]
     have:=TakeI.one hTI hneed hok1 hstk
     rw [List.length_take,Nat.min_eq_left hi] at this
     exact this
    ·exact fun x hx=>(e8 x (Nat.lt_of_lt_of_le hx F7.size)).trans (e7 x hx)
    ·have ou:∀{a:Nat} {k:Nat},ro8 a=(0,k)→k≠3→¬(a=u):=fun h1 h2 h3=>ro_ne h1 hT7'.ru h2 h3
     have og:∀{a:Nat} {k:Nat},ro8 a=(0,k)→k≠1→¬(a=gm):=fun h1 h2 h3=>ro_ne h1 hT7'.rg h2 h3
     have om:∀{a:Nat} {k:Nat},ro8 a=(0,k)→k≠2→¬(a=mm):=fun h1 h2 h3=>ro_ne h1 hT7'.rm h2 h3
     have r8n:ro8 w5.heap.size=(0,6):=by rw [e8 _ (by have:=n7.lt;omega)];exact r6n
     refine⟨?_,hT7'.rg,?_,hT7'.rm,?_,hT7'.ru,a10.fr f11 (nm hT7.re (by decide)),hT7'.re,?_,fun b hb=>(hpu8 b hb).1,by rw [List.length_append,List.length_append,hlen];rfl,?_,?_⟩
     ·have:=g10.fr f11 (nm hT7.rg (by decide))
      unfold gotVals at this ⊢
      rw [List.map_append]
      exact this
     ·unfold tabVals at m11 ⊢
      rw [List.map_append]
      exact m11
     ·have:=u10.fr f11 (nm hT7.ru (by decide))
      rw [List.length_append]
      exact this
     ·have:=((hsl8.fr f9 (fun b hb=>ou (hpu8 b hb).1 (by decide))).fr f10 (fun b hb=>og (hpu8 b hb).1 (by decide))).fr f11 (fun b hb=>om (hpu8 b hb).1 (by decide))
      rw [List.length_append,List.map_append]
      exact this
     ·intro j b y hj hy
      rw [List.getElem?_append] at hj hy
      by_cases hjl:j<mine.length
      ·rw [if_pos (by omega)] at hj
       rw [if_pos hjl] at hy
       obtain⟨q1,q2⟩:=hT7'.n j b y hj hy
       exact⟨((((q1.fr f8 (fun h=>ro_ne q2 (hT7'.rp _ h) (by decide) rfl)).fr f9 (ou q2 (by decide))).fr f10 (og q2 (by decide))).fr f11 (om q2 (by decide))),q2⟩
      ·rw [if_neg (by omega)] at hj
       rw [if_neg hjl] at hy
       rw [hlen] at hj
       cases hz:j-mine.length with
       | zero =>
        rw [hz] at hj hy
        simp at hj hy
        subst hj hy
        exact⟨nb11,r8n⟩
       | succ k=>rw [hz] at hj;simp at hj
     ·intro y hy
      rcases List.mem_append.1 hy with hy|hy
      ·exact hT7.lt y hy
      ·simp at hy;subst hy;exact hrt
  ·rintro _ w2 ⟨x',v',pm',ro',got',mine',p',l',cu',pu',nbs',rfl,k1,k2,k3,k4,k5,k6,k7⟩
   simp only [UnC_cons,UnN_nil,AsI_int,AsM_map]
   rw [w64 (n:=(i:Int)+1) (by omega) (by omega)]
   exact⟨⟨i+1,x',v',pm',ro',got',mine',p',l',cu',pu',nbs',by omega,rfl,k1,k2,k3,k4,k5,k6,k7⟩,(by first|omega|(simp only [Int.toNat_natCast];omega))⟩
 ·obtain rfl:i=l.length:=by omega
  rw [List.take_length] at hTI
  exact .inr ⟨ro1,got,mine,p1,l1,gm,mm,u,ea,cu,pu,nbs,rfl,hTI,hok1,e1,hS1,F1,hT1⟩
theorem clash_comm (a b:Tr):clashB a b=clashB b a:=by
 unfold clashB meets
 rw [show decide (b.mib=a.mib)=decide (a.mib=b.mib) by rw [decide_eq_decide];exact eq_comm,show decide (b.dom≠a.dom)=decide (a.dom≠b.dom) by rw [decide_eq_decide];exact ne_comm]
 cases decide (a.va<b.tend)<;>cases decide (b.va<a.tend)<;>cases a.paged<;>cases b.paged<;>rfl
structure Good (n:Nat) (t:Tr):Prop where
 right:t.right=true
 ng:t.ng=true
 en:t.tend≤2^(32-n)
theorem good_of {n:Nat} {t:Tr} (h:t.bad n=false):Good n t:=by
 unfold Tr.bad at h
 simp only [Bool.not_eq_false',Bool.and_eq_true,decide_eq_true_eq] at h
 exact⟨h.1.1,h.1.2,h.2⟩
theorem bytes_pos {s:Int} (h:sized s=true):4096≤bytesOf s:=by
 rcases sized_cases h with h|h|h|h<;>subst h<;>decide
theorem right_sized {t:Tr} (h:t.right=true):sized t.size=true:=(right_parts h).1
theorem right_aligned {t:Tr} (h:t.right=true):t.va%4096=0:=by
 obtain⟨h1,h2,_⟩:=right_parts h
 unfold place at h2
 simp only [Bool.and_eq_true,decide_eq_true_eq] at h2
 have h3:=h2.1
 rcases sized_cases h1 with e|e|e|e<;>rw [e] at h3
 ·have:shOf 1=12:=by decide
  rw [this] at h3;omega
 ·have:shOf 2=16:=by decide
  rw [this] at h3;omega
 ·have:shOf 3=20:=by decide
  rw [this] at h3;omega
 ·have:shOf 4=24:=by decide
  rw [this] at h3;omega
theorem Good.lt {n:Nat} {t:Tr} (h:Good n t) (hn:1≤n∧n≤7):t.va<2^(32-n):=by
 have h1:=bytes_pos (right_sized h.right)
 have h2:=h.en
 unfold Tr.tend at h2
 omega
theorem Good.wf {n:Nat} {t:Tr} (h:Good n t) (hn:1≤n∧n≤7):t.wf:=by
 have h1:=h.lt hn
 have:2^(32-n)≤2^32:=Nat.pow_le_pow_right (by decide) (by omega)
 unfold Tr.wf
 omega
structure BlkOk (n:Nat) (l:List Tr):Prop where
 good:∀t∈l,Good n t
 sep:l.Pairwise fun a b=>a.va<b.va∧clashB a b=false
theorem BlkOk.sorted {n:Nat} {l:List Tr} (h:BlkOk n l):l.Pairwise fun a b=>a.va<b.va:=h.sep.imp fun h=>h.1
theorem BlkOk.sub {n:Nat} {l l':List Tr} (h:BlkOk n l) (hs:l'.Sublist l):BlkOk n l':=⟨fun t ht=>h.good t (hs.subset ht),h.sep.sublist hs⟩
theorem len_sub:∀{L M:List Nat},L.Nodup→(∀x∈L,x∈M)→L.length≤M.length
 | [],_,_,_=>Nat.zero_le _
 | x :: L,M,h,hm=>by
  obtain⟨h1,h2⟩:=List.nodup_cons.1 h
  have:=len_sub (M:=M.erase x) h2 fun y hy=>by
   have hne:y≠x:=fun e=>h1 (by rw [←e];exact hy)
   exact (List.mem_erase_of_ne hne).2 (hm y (by simp [hy]))
  rw [List.length_erase_of_mem (hm x (by simp))] at this
  have hp:0<M.length:=List.length_pos_of_mem (hm x (by simp))
  simp only [List.length_cons]
  omega
theorem len_lt {L:List Nat} {N:Nat} (h:L.Nodup) (hl:∀x∈L,x<N):L.length≤N:=by
 have:=len_sub (M:=List.range N) h fun x hx=>List.mem_range.2 (hl x hx)
 rwa [List.length_range] at this
theorem noclash_pages {n:Nat} {a b:Tr} (ha:Good n a) (hb:Good n b) (h:clashB a b=false):a.va/4096≠b.va/4096:=by
 intro e
 have h1:=right_aligned ha.right
 have h2:=right_aligned hb.right
 have h3:=bytes_pos (right_sized ha.right)
 have h4:=bytes_pos (right_sized hb.right)
 have e2:a.va=b.va:=by omega
 unfold clashB meets Tr.tend at h
 rw [decide_eq_true (by omega:a.va<b.va+bytesOf b.size),decide_eq_true (by omega:b.va<a.va+bytesOf a.size)] at h
 simp at h
theorem good_len {n:Nat} (hn:1≤n∧n≤7) {l:List Tr} (hg:∀t∈l,Good n t) (hp:l.Pairwise fun a b=>clashB a b=false):l.length≤1048576:=by
 have h1:(l.map fun t=>t.va/4096).Nodup:=by
  rw [List.nodup_iff_pairwise_ne,List.pairwise_map]
  refine List.Pairwise.imp_of_mem (fun {a b} ha hb h=>noclash_pages (hg a ha) (hg b hb) h) hp
 have:=len_lt h1 (N:=1048576) fun x hx=>by
  obtain⟨t,ht,rfl⟩:=List.mem_map.1 hx
  have:=(hg t ht).wf hn
  unfold Tr.wf at this
  omega
 rwa [List.length_map] at this
theorem BlkOk.len {n:Nat} {l:List Tr} (hn:1≤n∧n≤7) (h:BlkOk n l):l.length≤1048576:=good_len hn h.good (h.sep.imp fun h=>h.2)
theorem may_pair {n:Nat} {blocks l:List Tr} (h:MayE n blocks l 0):(∀t∈l,Good n t)∧(∀t∈l,∀b∈blocks,clashB t b=false)∧l.Pairwise fun a b=>clashB b a=false:=by
 rcases h with ⟨h,_⟩|⟨h,_⟩|⟨_,h1,h2⟩
 ·exact absurd h (by decide)
 ·exact absurd h (by decide)
 refine⟨fun t ht=>good_of (h1 t ht),fun t ht b hb=>?_,?_⟩
 ·obtain⟨i,hi,rfl⟩:=List.getElem_of_mem ht
  exact (h2 i _ (List.getElem?_eq_getElem hi)).1 b hb
 ·refine List.pairwise_iff_getElem.2 fun i j hi hj hij=>?_
  refine (h2 j _ (List.getElem?_eq_getElem hj)).2 _ ?_
  refine List.mem_iff_getElem.2 ⟨i,by rw [List.length_take];omega,by rw [List.getElem_take]⟩
theorem may_len {n:Nat} (hn:1≤n∧n≤7) {blocks l:List Tr} (h:MayE n blocks l 0):l.length≤1048576:=by
 obtain⟨h1,_,h3⟩:=may_pair h
 exact good_len hn h1 (h3.imp fun h=>by rw [clash_comm];exact h)
def root? (l:List (Nat×RootS)) (a:Nat):Option RootS:=(l.find? fun x=>x.1==a).map (·.2)
theorem root_mem {l:List (Nat×RootS)} {a:Nat} {R:RootS} (h:root? l a=some R):(a,R)∈l:=by
 unfold root? at h
 obtain⟨x,hx,rfl⟩:=Option.map_eq_some_iff.1 h
 have h1:=List.find?_some hx
 have h2:=List.mem_of_find?_eq_some hx
 have:x.1=a:=by simpa using h1
 rw [←this];exact h2
theorem root_at {l:List (Nat×RootS)} {a:Nat} {R:RootS} (hnd:(l.map (·.1)).Nodup) (h:(a,R)∈l):root? l a=some R:=by
 unfold root?
 cases hf:l.find? fun x=>x.1==a with
 | none =>
  rw [List.find?_eq_none] at hf
  exact absurd (by simp) (hf _ h)
 | some x =>
  have h1:=List.find?_some hf
  have h2:=List.mem_of_find?_eq_some hf
  have:x=(a,R):=nd_uniq hnd h2 h (by simpa using h1)
  rw [this];rfl
theorem at_rootVals (l:List (Nat×RootS)) (a:Nat):at? (rootVals l) (a:Int)=(root? l a).map fun R=>.pointer (some ⟨R.rb,0,none⟩):=by
 unfold at? root? rootVals
 rw [List.find?_map,Option.map_map,Option.map_map]
 have:((fun p:Int×Value=>p.1==(a:Int)) ∘ fun x:Nat×RootS=>((x.1:Int),Value.pointer (some ⟨x.2.rb,0,none⟩)))=fun x=>x.1==a:=by
  funext x
  simp only [Function.comp_apply]
  by_cases e:x.1=a
  ·simp [e]
  ·rw [beq_eq_false_iff_ne.2 e,beq_eq_false_iff_ne];omega
 rw [this]
 rfl
theorem root_look {w:World} {ro:Ro} {J:Ids} {fr n:Nat} {S:St} (hS:Sys w ro J fr n S) (a:Nat) {K:Value→Prop} (h0:root? S.roots a=none→K (.tuple #[.pointer none,.bool false])) (h1:∀R,root? S.roots a=some R→K (.tuple #[.pointer (some ⟨R.rb,0,none⟩),.bool true])) :
  RunR prog (Instr.lookup 120 (.map (some J.rm)) (.int .u64 (a:Int)) true) w K:=by
 refine lookup_ok T120 hS.ed.rm _ ?_
 rw [at_rootVals]
 cases hr:root? S.roots a with
 | none=>exact h0 hr
 | some R=>exact h1 R hr
def FitsE (n:Nat) (S:St) (a:Nat) (l:List Tr) (e:Nat):Prop :=
 (root? S.roots a=none∧e=140)∨∃R,root? S.roots a=some R∧((MayE n R.blocks l e∧e≠0)∨(MayE n R.blocks l 0∧(TakeFail R.tabs S.p S.l l e∨(e=0∧∃got mine p' l',TakeI R.tabs S.p S.l l got mine p' l'))))
structure Std (n:Nat) (S:St):Prop where
 ok:SlabOk S.l
 wf:∀x∈S.roots,∀t∈x.2.blocks,t.wf
 len:∀x∈S.roots,x.2.blocks.length≤100000000
theorem f29 {w:World} {ro:Ro} {J:Ids} {fr n:Nat} {S:St} (hS:Sys w ro J fr n S) (hI:Std n S) (hn:1≤n∧n≤7) (a:Nat) {q:Option Addr} {c:Nat} {l:List Tr} (hl:Rd w q (trCells l)) (hon:l≠[]→∀b,On q b→(ro b).1=0) (hc:l.length≤c) (hll:l.length≤9000000000000) (hwf:∀t∈l,t.wf) :
  Ret prog 29 #[.pointer (some ⟨J.e,0,none⟩),.int .u64 (a:Int),.slice q l.length c] w fun v w'=>∃(e:Nat) (ro':Ro),v=.int .i64 (e:Int)∧FitsE n S a l e∧RExt w ro ro'∧Sys w' ro' J fr n S∧FrK psK ro w w':=by
 refine F29_of _ _ _ _ _ _ _ ?_
 unfold F29;try dsimp only [Upb,lm_,ub_,ui_,um_,up_]
 have hst:=hS.ed.st
 try simp only [hst.ld_iff,sb_,Nat.reduceAdd]
 refine root_look hS a (fun hr=>?_) (fun R hr=>?_)
 ·simp only [sb_,Nat.reduceAdd]
  exact⟨140,ro,rfl,.inl ⟨hr,rfl⟩,RExt.refl _ _,hS,Fr.refl _ _⟩
 ·simp only [sb_,Nat.reduceAdd]
  simp only [Bool.not_true,BIf_false]
  have hm:=root_mem hr
  refine Ret.use (f60 hS hm hn hl hc hll hwf (hI.wf _ hm) (Nat.le_trans (hI.len _ hm) (by decide))) ?_
  rintro _ w1 ⟨e,rfl,hmay,f1⟩
  rw [AsI_int]
  refine BIf_ne (fun he=>?_) (fun he=>?_)
  ·exact⟨e,ro,rfl,.inr ⟨R,hr,.inl ⟨hmay,fun h=>he (by rw [h];rfl)⟩⟩,RExt.refl _ _,hS.fr0 f1,f1.mono fun _ _ h=>h.elim⟩
  ·obtain rfl:e=0:=by omega
   have hll:l.length≤1000000000000:=Nat.le_trans (may_len hn hmay) (by decide)
   refine Ret.use (f61 (hS.fr0 f1) hm (hl.fr0 f1) hon hll hwf hI.ok) ?_
   rintro _ w2 (⟨e2,ro2,rfl,htf,e2',hS2,f2⟩|⟨ro2,got,mine,p',l',gm,mm,u,ea,cu,pu,nbs,rfl,hti,hok',e2',hS2,f2,hT2⟩)
   ·simp only [sb_,Nat.reduceAdd]
    refine BIf_eq (fun h=>absurd (by omega) htf.1) (fun _=>?_)
    exact⟨e2,ro2,rfl,.inr ⟨R,hr,.inr ⟨hmay,.inl htf⟩⟩,fun x hx=>e2' x (Nat.lt_of_lt_of_le hx f1.size),hS2,FrK.then (f1.mono fun _ _ h=>h.elim) (RExt.refl _ _) f2⟩
   ·simp only [sb_,Nat.reduceAdd]
    refine BIf_eq (fun _=>?_) (fun h=>absurd rfl h)
    refine .inl ⟨117,_,_,rfl,by kernel_rfl,?_⟩
    refine Ret.use (f117 hS2 hT2.back (by rw [List.length_map];have:=hti.mine_len;omega) (p0:=S.p) (l0:=S.l) hti.chain hok') ?_
    rintro _ w3 ⟨rfl,ro3,e3,hS3,f3⟩
    simp only [sb_,Nat.reduceAdd]
    have f02:FrK psK ro w w2:=FrK.then (f1.mono fun _ _ h=>h.elim) (RExt.refl _ _) f2
    have e02:RExt w ro ro2:=fun x hx=>e2' x (Nat.lt_of_lt_of_le hx f1.size)
    exact⟨0,ro3,rfl,.inr ⟨R,hr,.inr ⟨hmay,.inr ⟨rfl,got,mine,p',l',hti⟩⟩⟩,e02.trans e3 f02.size,hS3,FrK.then f02 e02 f3⟩
theorem f16 {w:World} {ro:Ro} {J:Ids} {fr n:Nat} {S:St} (hS:Sys w ro J fr n S) (hI:Std n S) (a:Nat) :
  Ret prog 16 #[.pointer (some ⟨J.e,0,none⟩),.int .u64 (a:Int)] w fun v w'=>Fr0 w w'∧((root? S.roots a=none∧v=.slice none 0 0) ∨
   ∃R p c,root? S.roots a=some R∧v=.slice p R.blocks.length c∧Sl w' w.heap.size 57 8 p R.blocks.length c (trCells R.blocks)):=by
 refine F16_of _ _ _ _ ?_
 unfold F16;try dsimp only [Upb,lm_,ls_,ub_,up_]
 have hst:=hS.ed.st
 try simp only [hst.ld_iff,sb_,Nat.reduceAdd]
 refine root_look hS a (fun hr=>?_) (fun R hr=>?_)
 ·simp only [sb_,Nat.reduceAdd]
  exact⟨Fr.refl _ _,.inl ⟨hr,by trivial⟩⟩
 ·simp only [sb_,Nat.reduceAdd]
  simp only [Bool.not_true,BIf_false]
  have hm:=root_mem hr
  obtain⟨p,c,h1,h2,h3⟩:=(hS.ed.root _ hm).st
  try simp only [h1.ld_iff,sb_,Nat.reduceAdd]
  refine Ret.use (f52 h2 (tr_one _) (Nat.le_trans (hI.len _ hm) (by decide))) ?_
  rintro _ w1 ⟨p',c',rfl,h4,f1⟩
  rw [AsSl_slice]
  exact⟨f1,.inr ⟨R,p',c',hr,rfl,h4⟩⟩
theorem f22 {w:World} {ro:Ro} {J:Ids} {fr n:Nat} {S:St} (hS:Sys w ro J fr n S) :
  Ret prog 22 #[.pointer (some ⟨J.e,0,none⟩)] w fun v w'=>∃q d,v=.slice q (tabs S.l).length d∧Sl w' w.heap.size 3 1 q (tabs S.l).length d (i64n (tabs S.l))∧Fr0 w w':=by
 refine F22_of _ _ _ ?_
 unfold F22;try dsimp only [lp_]
 have hst:=hS.ed.st
 try simp only [hst.ld_iff,sb_,Nat.reduceAdd]
 obtain⟨g,cg,hsl,hslr⟩:=hS.ps.slab
 refine Ret.use (f59 hsl) ?_
 rintro _ w1 ⟨q,d,rfl,h1,f1⟩
 rw [AsSl_slice]
 exact⟨q,d,rfl,h1,f1⟩
def cnt (n:Nat):Nat:=if n=1 then 2 else 1
theorem PTake.err {p p':Pool} {n al:Int} {r e:Nat} (h:PTake p n al r e p') (he:e≠0):p'=p∧r=0:=by
 cases h with
 | bad=>exact⟨rfl,rfl⟩
 | none=>exact⟨rfl,rfl⟩
 | ok=>exact absurd rfl he
def RootR (n:Nat) (S:St) (x e:Nat) (S':St):Prop :=
 (e≠0∧x=0∧PTake S.p (cnt n) (cnt n) 0 e S.p∧S'=S) ∨
 (e=0∧∃r p' rb tm,PTake S.p (cnt n) (cnt n) r 0 p'∧x=4096*r∧S'=⟨⟨wipeN S.M.mem r (cnt n),pushEv S.M.evs ⟨5,r,(cnt n:Nat)⟩⟩,p',S.l,S.roots++[(4096*r,⟨rb,tm,r,cnt n,[],[]⟩)]⟩)
theorem f41 {w:World} {ro:Ro} {J:Ids} {fr n:Nat} {S:St} (hS:Sys w ro J fr n S) (hfr:fr≤65536) (hfresh:∀r p',PTake S.p (cnt n) (cnt n) r 0 p'→root? S.roots (4096*r)=none∧r+cnt n≤fr) :
  Ret prog 41 #[.pointer (some ⟨J.e,0,none⟩)] w fun v w'=>∃(x e:Nat) (S':St) (ro':Ro),v=.tuple #[.int .u64 (x:Int),.int .i64 (e:Int)]∧RootR n S x e S'∧RExt w ro ro'∧Sys w' ro' J fr n S'∧FrR ro w w':=by
 refine F41_of _ _ _ ?_
 unfold F41;try dsimp only [Uii,li_,lm_,lp_,ui_]
 have hst:=hS.ed.st
 refine Join.at (fun s w'=>s=[.int .i64 ((cnt n:Nat):Int)]∧w'=w) ?_ ?_
 ·try simp only [hst.ld_iff,sb_,Nat.reduceAdd]
  refine BIf_eq (fun h=>?_) (fun h=>?_)
  ·have:n=1:=by omega
   exact⟨by unfold cnt;rw [if_pos this];rfl,by trivial⟩
  ·have:¬n=1:=by omega
   exact⟨by unfold cnt;rw [if_neg this];rfl,by trivial⟩
 ·rintro _ _ ⟨rfl,hw⟩
  obtain rfl:=hw.symm
  have hc:1≤cnt n∧cnt n≤2:=by unfold cnt;split<;>omega
  simp only [sb_,Nat.reduceAdd]
  try simp only [hst.ld_iff,sb_,Nat.reduceAdd]
  refine Ret.use (ps_ptake hS.ps hS.gl hS.low ((cnt n:Nat):Int) ((cnt n:Nat):Int) (by omega)) ?_
  rintro _ w1 ⟨r,e,p',rfl,hpt,hP1,f1⟩
  simp only [sb_,Nat.reduceAdd]
  have hS1:=hS.psT (RExt.refl _ _) hP1 f1
  refine BIf_ne (fun he=>?_) (fun he=>?_)
  ·have he':e≠0:=fun h=>he (by rw [h];rfl)
   obtain⟨rfl,rfl⟩:=hpt.err he'
   exact⟨0,e,S,ro,rfl,.inl ⟨he',rfl,hpt,rfl⟩,RExt.refl _ _,hS1,f1.R (by decide)⟩
  ·obtain rfl:e=0:=by omega
   obtain⟨hnone,hrf⟩:=hfresh r p' hpt
   have hst1:=hS1.ed.st
   try simp only [hst1.ld_iff,sb_,Nat.reduceAdd]
   refine Ret.use (f62 hS1.mach r (cnt n) hrf hc.1) ?_
   rintro _ w2 ⟨rfl,ro2,e2,hM2,f2⟩
   rw [AsI_int]
   have hS2:=hS1.machT e2 hM2 f2
   have hst2:=hS2.ed.st
   try simp only [hst2.ld_iff,sb_,Nat.reduceAdd]
   refine makeMap_ok .u32 fun w3 n3 f3 s3=>?_
   rw [AsM_map]
   refine New.mk fun w4 n4 f4 s4=>?_
   have f24:=f3.trans f4
   have f02:FrR ro w w2:=FrR.then (f1.R (by decide)) (RExt.refl _ _) (f2.R (by decide))
   have e02:RExt w ro ro2:=fun x hx=>e2 x (Nat.lt_of_lt_of_le hx f1.size)
   obtain⟨ro4,hro4⟩:∃ro4:Ro,ro4=fun x=>if x<w2.heap.size then ro2 x else if x=w2.heap.size then (19,4096*r) else if x=w3.heap.size then (17,4096*r) else (0,0):=⟨_,rfl⟩
   have e4:RExt w2 ro2 ro4:=fun x hx=>by rw [hro4];simp only [if_pos hx]
   have hS4:=(hS2.ext e4).fr0 f24
   have hz:IntKind.u64.wrap (IntKind.u64.wrap (r:Int)*4096)=((4096*r:Nat):Int):=by
    rw [wu64 (n:=(r:Int)) (by omega) (by omega),wu64 (by omega) (by omega)];omega
   rw [hz]
   have hnone':at? (rootVals S.roots) ((4096*r:Nat):Int)=none:=by rw [at_rootVals,hnone];rfl
   refine mapUpdate_new T120 hS4.ed.rm hnone' _ fun w5 m5 f5 s5=>?_
   have r3:ro4 w2.heap.size=(19,4096*r):=by rw [hro4];simp
   have r4:ro4 w3.heap.size=(17,4096*r):=by rw [hro4];simp only;rw [if_neg (by omega),if_neg (by omega)];simp
   have hrm:(ro4 J.rm).1=16:=hS4.ed.rr
   have hR5:RootAt w5 ro4 (4096*r) ⟨w3.heap.size,w2.heap.size,r,cnt n,[],[]⟩:=by
    refine⟨⟨none,0,(by simpa using n4.fr f5 (fun h=>by rw [←show w3.heap.size=J.rm from h,r4] at hrm;cases hrm)),Sl.nil _ _ _ _,fun b hb=>by obtain⟨a,h,_⟩:=hb;cases h⟩,r4,?_,r3⟩
    exact (n3.fr f4 (fun h=>h)).fr f5 (fun h=>by rw [←show w2.heap.size=J.rm from h,r3] at hrm;cases hrm)
   refine⟨4096*r,0,_,ro4,rfl,.inr ⟨rfl,r,p',w3.heap.size,w2.heap.size,hpt,rfl,rfl⟩,e02.trans e4 f02.size,⟨?_,hS4.low,?_,?_,?_⟩,?_⟩
   ·exact hS4.gl.fr f5 (fun b hb h=>by have h:b=J.rm:=h;have:=hS4.low b hb;rw [h,hrm] at this;cases this)
   ·exact hS4.mach.fr f5 (fun b h1 h2 h=>by have h:b=J.rm:=h;rw [h,hrm] at h2;omega)
   ·exact hS4.ps.fr f5 (fun b h1 h=>by have h:b=J.rm:=h;rw [h,hrm] at h1;simp at h1)
   ·have hed:=hS4.ed
    refine⟨hed.st.fr f5 (fun h=>by have h:J.e=J.rm:=h;have:=hed.re;rw [h,hrm] at this;cases this),hed.re,?_,hrm,?_,?_⟩
    ·unfold rootVals at m5 ⊢
     rw [List.map_append]
     exact m5
    ·intro x hx
     rcases List.mem_append.1 hx with hx|hx
     ·exact (hed.root x hx).fr f5 (fun y hy h=>by have h:y=J.rm:=h;rcases hy with h1|h1|h1<;>rw [h] at h1<;>rw [h1] at hrm<;>simp at hrm)
     ·simp at hx;subst hx;exact hR5
    ·rw [List.map_append,List.nodup_append]
     refine⟨hed.nd,by simp,fun x hx y hy e=>?_⟩
     simp at hy;subst hy;subst e
     obtain⟨z,hz1,hz2⟩:=List.mem_map.1 hx
     have hz3:(4096*r,z.2)∈S.roots:=by rw [←hz2];exact hz1
     have:=root_at hed.nd hz3
     have hn2:root? S.roots (4096*r)=none:=hnone
     rw [show root? S.roots (4096*r)=some z.2 from this] at hn2;cases hn2
   ·refine FrR.then f02 e02 ?_
    have:Fr (fun b=>(ro4 b).1≠0) w2 w5:=(f24.mono fun _ _ h=>h.elim).trans (f5.mono fun b _ h=>by have h:b=J.rm:=h;rw [h,hrm];decide)
    exact this.mono fun b hb h=>by rw [e4 b hb] at h;exact h
def pdrop (p:Pool) (first n:Int):Pool:=if (p.run first n).2=0 then p.turned (first-p.first).toNat (· - 1) n.toNat else p
def FreeR (S:St) (a e:Nat) (S':St):Prop :=
 (root? S.roots a=none∧e=140∧S'=S) ∨
 ∃R,root? S.roots a=some R∧((R.blocks≠[]∧e=141∧S'=S)∨(R.blocks=[]∧e=0∧S'=⟨S.M,pdrop S.p (R.first:Int) (R.count:Int),S.l,S.roots.filter fun x=>decide (x.1≠a)⟩))
theorem rootVals_filter (l:List (Nat×RootS)) (a:Nat):(rootVals l).filter (fun p=>p.1 != (a:Int))=rootVals (l.filter fun x=>decide (x.1≠a)):=by
 unfold rootVals
 rw [List.filter_map]
 congr 1
 apply List.filter_congr
 intro x _
 simp only [Function.comp_apply]
 by_cases e:x.1=a
 ·simp [e]
 ·have:((x.1:Int) != (a:Int))=true:=by rw [bne_iff_ne];omega
  rw [this];simp [e]
theorem f18 {w:World} {ro:Ro} {J:Ids} {fr n:Nat} {S:St} (hS:Sys w ro J fr n S) (a:Nat) (hsm:∀R,root? S.roots a=some R→R.first<2^40∧R.count<2^40)
  (hh:∀R,root? S.roots a=some R→R.blocks=[]→(S.p.run (R.first:Int) (R.count:Int)).2=0→Held (S.p.turned ((R.first:Int)-S.p.first).toNat (· - 1) (R.count:Int).toNat) S.l) :
  Ret prog 18 #[.pointer (some ⟨J.e,0,none⟩),.int .u64 (a:Int)] w fun v w'=>∃(e:Nat) (S':St),v=.int .i64 (e:Int)∧FreeR S a e S'∧Sys w' ro J fr n S'∧FrR ro w w':=by
 refine F18_of _ _ _ _ ?_
 unfold F18;try dsimp only [Uii,Upb,li_,lm_,lp_,ls_,ub_,ui_,up_]
 have hst:=hS.ed.st
 try simp only [hst.ld_iff,sb_,Nat.reduceAdd]
 refine root_look hS a (fun hr=>?_) (fun R hr=>?_)
 ·simp only [sb_,Nat.reduceAdd]
  exact⟨140,S,rfl,.inl ⟨hr,rfl,rfl⟩,hS,Fr.refl _ _⟩
 ·simp only [sb_,Nat.reduceAdd]
  simp only [Bool.not_true,BIf_false]
  have hm:=root_mem hr
  obtain⟨p,c,h1,h2,h3⟩:=(hS.ed.root _ hm).st
  try simp only [h1.ld_iff,sb_,Nat.reduceAdd]
  refine BIf_cases (fun hb=>?_) (fun hb=>?_)
  ·exact⟨141,S,rfl,.inr ⟨R,hr,.inl ⟨fun h=>by simp only [h,List.length_nil] at hb;omega,rfl,rfl⟩⟩,hS,Fr.refl _ _⟩
  ·have hnil:R.blocks=[]:=List.length_eq_zero_iff.1 (by omega)
   try simp only [hst.ld_iff,sb_,Nat.reduceAdd]
   refine delete_ok T120 hS.ed.rm _ fun w1 m1 f1 s1=>?_
   simp only [sb_,Nat.reduceAdd]
   rw [rootVals_filter] at m1
   have hrm:=hS.ed.rr
   have hed:=hS.ed
   have hS1:Sys w1 ro J fr n { S with roots:=S.roots.filter fun x=>decide (x.1≠a) }:=by
    refine⟨hS.gl.fr f1 (fun b hb h=>by have h:b=J.rm:=h;have:=hS.low b hb;rw [h,hrm] at this;cases this),hS.low,hS.mach.fr f1 (fun b h1 h2 h=>by have h:b=J.rm:=h;rw [h,hrm] at h2;omega),hS.ps.fr f1 (fun b h1 h=>by have h:b=J.rm:=h;rw [h,hrm] at h1;simp at h1),?_⟩
    refine⟨hed.st.fr f1 (fun h=>by have h:J.e=J.rm:=h;have:=hed.re;rw [h,hrm] at this;cases this),hed.re,m1,hrm,fun x hx=>?_,(List.Sublist.map _ List.filter_sublist).nodup hed.nd⟩
    exact (hed.root x (List.mem_filter.1 hx).1).fr f1 (fun y hy h=>by have h:y=J.rm:=h;rcases hy with h1|h1|h1<;>rw [h] at h1<;>rw [h1] at hrm<;>simp at hrm)
   have hst1:=hS1.ed.st
   have h11:=h1.fr f1 (fun h=>by
    have h:R.rb=J.rm:=h
    have:=(hed.root _ hm).rr
    rw [h] at this;rw [this] at hrm;simp at hrm)
   try simp only [hst1.ld_iff,h11.ld_iff,sb_,Nat.reduceAdd]
   have hsm':=hsm R hr
   have hS1':=hS1.fr0 (Qt.refl w1).drew.fr
   refine Ret.use (ps_pdrop hS1'.ps hS1'.gl hS1'.low (R.first:Int) (R.count:Int) (by omega) (by omega) (hh R hr hnil)) ?_
   have g1:FrR ro w w1.drew:=Fr.drew (f1.mono fun b _ h=>by have h:b=J.rm:=h;rw [h,hrm];decide)
   rintro _ w2 (⟨k1,rfl,hP2,f2⟩|⟨k1,rfl,hP2,f2⟩)
   ·simp only [sb_,Nat.reduceAdd]
    refine⟨0,_,rfl,.inr ⟨R,hr,.inr ⟨hnil,rfl,rfl⟩⟩,?_,g1.then (RExt.refl _ _) (f2.R (by decide))⟩
    have:=hS1'.psT (RExt.refl _ _) hP2 f2
    have e:pdrop S.p (R.first:Int) (R.count:Int)=S.p:=if_neg k1
    rw [e];exact this
   ·simp only [sb_,Nat.reduceAdd]
    refine⟨0,_,rfl,.inr ⟨R,hr,.inr ⟨hnil,rfl,rfl⟩⟩,?_,g1.then (RExt.refl _ _) (f2.R (by decide))⟩
    have:=hS1'.psT (RExt.refl _ _) hP2 f2
    have e:pdrop S.p (R.first:Int) (R.count:Int)=S.p.turned ((R.first:Int)-S.p.first).toNat (· - 1) (R.count:Int).toNat:=if_pos k1
    rw [e];exact this
theorem f40 {w:World} {ro:Ro} {I:MIds} {fr n b bu bd:Nat} {M:Mst} {p:Pool} (hG:Gl w) (hlow:Low ro) (hM:MachAt w ro I fr M) (hP:PoolAt w b bu bd p) (hr:∀x,Own b bu bd x→(ro x).1=12) (hn:1≤n∧n≤7) (hfit:p.first+p.u.length≤fr) :
  Ret prog 40 #[.pointer (some ⟨I.m,0,none⟩),.pointer (some ⟨b,0,none⟩),.int .i64 (n:Int)] w fun v w'=>∃(J:Ids) (ro':Ro),v=.tuple #[.pointer (some ⟨J.e,0,none⟩),.int .i64 0]∧J.I=I∧J.b=b∧J.bu=bu∧J.bd=bd∧RExt w ro ro'∧Sys w' ro' J fr n ⟨M,p,[],[]⟩∧Fr0 w w':=by
 have hfr:fr≤65536:=by obtain⟨L,hL⟩:=hM.ram;exact hL.small
 have fin:∀(w1:World),Fr0 w w1→(∃(J:Ids) (ro':Ro),True)→CallS prog 87 #[.pointer (some ⟨b,0,none⟩)] w1 fun v w'=>v=.tuple #[.pointer (some ⟨w1.heap.size,0,none⟩),.int .i64 0]∧SlabAt w' w1.heap.size b none 0 []∧Fr0 w w'∧w'.heap.size=w1.heap.size+1:=fun w1 f1 _=>by
  refine Ret.use (f87 b) ?_
  rintro _ w2 ⟨rfl,h1,h2,h3⟩
  exact⟨rfl,h1,f1.trans h2,h3⟩
 have tail:∀(w1 w2:World),Fr0 w w1→SlabAt w2 w1.heap.size b none 0 []→Fr0 w w2→w2.heap.size=w1.heap.size+1→RunV prog (Instr.makeMap 120 none) w2 fun v32 w33=>AsM v32 fun p34=>New w33 #[.pointer (some ⟨I.m,0,none⟩),.pointer (some ⟨b,0,none⟩),.pointer (some ⟨w1.heap.size,0,none⟩),.int .i64 (n:Int),.map p34] 124 fun a35 w36 =>
   ∃(J:Ids) (ro':Ro),Value.tuple #[.pointer (some a35),.int .i64 0]=.tuple #[.pointer (some ⟨J.e,0,none⟩),.int .i64 0]∧J.I=I∧J.b=b∧J.bu=bu∧J.bd=bd∧RExt w ro ro'∧Sys w36 ro' J fr n ⟨M,p,[],[]⟩∧Fr0 w w36:=fun w1 w2 f1 hs f2 s2=>by
  refine makeMap_ok .u64 fun w3 m3 f3 s3=>?_
  rw [AsM_map]
  refine New.mk fun w4 n4 f4 s4=>?_
  have f04:=(f2.trans f3).trans f4
  have z1:=f1.size
  obtain⟨ro4,hro4⟩:∃ro4:Ro,ro4=fun x=>if x<w.heap.size then ro x else if x=w1.heap.size then (13,0) else if x=w2.heap.size then (16,0) else if x=w3.heap.size then (15,0) else (0,0):=⟨_,rfl⟩
  have e4:RExt w ro ro4:=fun x hx=>by rw [hro4];simp only [if_pos hx]
  refine⟨⟨I,b,bu,bd,w1.heap.size,w3.heap.size,w2.heap.size⟩,ro4,rfl,rfl,rfl,rfl,rfl,e4,⟨hG.fr0 f04,hlow.ext hG e4,(hM.ext e4).fr0 f04,⟨?_,⟨none,0,(hs.fr0 f3).fr0 f4,fun x hx=>?_⟩,fun x hx=>?_,?_,fun q hq=>by simp at hq⟩,⟨n4,?_,m3.fr f4 (fun h=>h),?_,fun x hx=>by simp at hx,by simp⟩⟩,f04⟩
  ·exact hP.fr f04 (fun h=>h) (fun h=>h) (fun h=>h)
  ·obtain⟨a,h,_⟩:=hx;cases h
  ·have hlt:x<w.heap.size:=by
    obtain⟨ws,_,h3⟩:=hP.ws
    rcases hx with rfl|rfl|rfl
    ·exact hP.st.lt
    ·exact hP.us.lt
    ·exact h3.lt
   rw [e4 x hlt];exact hr x hx
  ·rw [hro4];simp only;rw [if_neg (by omega)];simp
  ·rw [hro4];simp only;rw [if_neg (by omega),if_neg (by omega),if_neg (by omega)];simp
  ·rw [hro4];simp only;rw [if_neg (by omega),if_neg (by omega)];simp
 refine F40_of _ _ _ _ _ ?_
 unfold F40;try dsimp only [Uii,Upi,ce_,li_,ui_,up_]
 refine Ret.use (f21 hP) ?_
 rintro _ w1 ⟨rfl,f1⟩
 simp only [sb_,Nat.reduceAdd]
 refine New2 (fun w2 n2 f2 s2=>?_)
 have f02:=f1.trans f2
 refine BIf_neg (by omega) (BIf_neg (by omega) ?_)
 try simp only [n2.ld_iff,sb_,Nat.reduceAdd]
 refine BIf_cases (fun hpos=>?_) (fun hz=>?_)
 ·try simp only [n2.ld_iff,sb_,Nat.reduceAdd]
  have n2':=n2.drew
  refine Ret.use (f86 (hM.fr0 (f02.trans (Qt.refl w2).drew.fr))) ?_
  rintro _ _ ⟨rfl,hw⟩
  obtain rfl:=hw.symm
  rw [AsI_int]
  refine⟨n2'.cell.trans rfl,n2'.cell.trans rfl,?_⟩
  have hle:=hP.ok.le
  rw [w64 (n:=(p.first:Int)+(p.u.length:Int)) (by omega) (by omega)]
  refine BIf_neg (by omega) ?_
  refine Ret.use (fin _ f02.drew ⟨⟨I,0,0,0,0,0,0⟩,ro,trivial⟩) ?_
  rintro _ w3 ⟨rfl,h3,f3,s3⟩
  simp only [sb_,Nat.reduceAdd]
  refine BIf_ne (fun h=>absurd rfl h) (fun _=>?_)
  exact tail _ w3 f02.drew h3 f3 s3
 ·refine Ret.use (fin _ f02.drew ⟨⟨I,0,0,0,0,0,0⟩,ro,trivial⟩) ?_
  rintro _ w3 ⟨rfl,h3,f3,s3⟩
  simp only [sb_,Nat.reduceAdd]
  refine BIf_ne (fun h=>absurd rfl h) (fun _=>?_)
  exact tail _ w3 f02.drew h3 f3 s3
def tabEn (T:Nat) (dom:Int):En:=⟨1,T*1024,dom,false,0,0,false,false⟩
def tabW (T:Nat) (dom:Int):Nat:=(tabEn T dom).enc1.toNat
theorem tabW_eq (T:Nat) (dom:Int):((tabW T dom:Nat):Int)=(tabEn T dom).enc1:=Int.toNat_of_nonneg (enc1_lt _).1
theorem tabW_lt (T:Nat) (dom:Int):tabW T dom<2^32:=by have h1:=tabW_eq T dom;have h2:=(enc1_lt (tabEn T dom)).2;omega
def wordN (t:Tr):Nat:=t.word.toNat
theorem wordN_eq (t:Tr):((wordN t:Nat):Int)=t.word:=Int.toNat_of_nonneg (word_lt t).1
theorem wordN_lt (t:Tr):wordN t<2^32:=by have h1:=wordN_eq t;have h2:=(word_lt t).2;omega
def wipeSt (M:Mst) (f k:Nat):Mst:=⟨wipeN M.mem f k,pushEv M.evs ⟨5,f,k⟩⟩
def addTab (R:RootS) (g:Option (Nat×Bool)) (t:Tr):RootS:=match g with
 | some (T,_)=>{ R with tabs:=R.tabs++[(t.mib,T)] }
 | none=>R
def putR (R:RootS) (g:Option (Nat×Bool)) (t:Tr):RootS:={ addTab R g t with blocks:=insAt R.blocks (findR R.blocks t.va).1 t }
def hookM (a:Nat) (M:Mst) (g:Option (Nat×Bool)) (t:Tr):Mst:=match g with
 | some (T,f)=>pokes (if f=true then wipeSt M (T/4) 1 else M) (a+4*t.mib) (tabW T t.dom) 1
 | none=>M
def putM (a:Nat) (R:RootS) (M:Mst) (g:Option (Nat×Bool)) (t:Tr):Mst:=pokes (hookM a M g t) (placeOf (addTab R g t) a t) (wordN t) (reps t.size)
def got? (got:List (Nat×Nat×Bool)) (i:Nat):Option (Nat×Bool):=(got.find? fun x=>x.1==i).map (·.2)
def putN (a:Nat) (got:List (Nat×Nat×Bool)):List Tr→Nat→RootS×Mst→RootS×Mst
 | [],_,s=>s
 | t :: r,i,s=>putN a got r (i+1) (putR s.1 (got? got i) t,putM a s.1 s.2 (got? got i) t)
theorem putN_snoc (a:Nat) (got:List (Nat×Nat×Bool)):∀(l:List Tr) (i:Nat) (s:RootS×Mst) (t:Tr),putN a got (l++[t]) i s=(putR (putN a got l i s).1 (got? got (i+l.length)) t,putM a (putN a got l i s).1 (putN a got l i s).2 (got? got (i+l.length)) t)
 | [],i,s,t=>rfl
 | x :: r,i,s,t=>by
  show putN a got (r++[t]) (i+1) _=_
  rw [putN_snoc a got r (i+1) _ t,List.length_cons,show i+1+r.length=i+(r.length+1) by omega]
  rfl
theorem at_got (got:List (Nat×Nat×Bool)) (i:Nat):at? (gotVals got) (i:Int)=(got? got i).map fun g=>.agg #[.int .i64 (g.1:Int),.bool g.2]:=by
 unfold at? got? gotVals
 rw [List.find?_map,Option.map_map,Option.map_map]
 have:((fun p:Int×Value=>p.1==(i:Int)) ∘ fun g:Nat×Nat×Bool=>((g.1:Int),Value.agg #[.int .i64 (g.2.1:Int),.bool g.2.2]))=fun x=>x.1==i:=by
  funext x
  simp only [Function.comp_apply]
  by_cases e:x.1=i
  ·simp [e]
  ·rw [beq_eq_false_iff_ne.2 e,beq_eq_false_iff_ne];omega
 rw [this]
 rfl
structure PutPre (fr a:Nat) (R:RootS) (g:Option (Nat×Bool)) (t:Tr):Prop where
 right:t.right=true
 wf:t.wf
 tab:∀T f,g=some (T,f)→tab? R.tabs t.mib=none∧T<4*fr∧wErr fr (a+4*t.mib)=0
 place:∀i,i<reps t.size→wErr fr (placeOf (addTab R g t) a t+4*i)=0
 tl:∀v,tab? (addTab R g t).tabs t.mib=some v→v<2^30
 sorted:R.blocks.Pairwise fun a b=>a.va<b.va
 wfs:∀b∈R.blocks,b.wf
 len:R.blocks.length≤100000000000
theorem reps_right {t:Tr} (h:t.right=true):reps t.size=1∨reps t.size=16:=by
 have h1:=sized_cases (right_parts h).1
 unfold reps
 rcases h1 with h1|h1|h1|h1<;>rw [h1]<;>decide
theorem findR_le (l:List Tr) (va:Nat):(findR l va).1≤l.length:=by
 have:=findIx_le l va
 unfold findR
 split
 ·exact this
 ·split
  ·split
   ·simp only;omega
   ·exact this
  ·exact this
theorem updR_upd (l:List (Nat×RootS)) (a:Nat) (R R':RootS):updR (updR l a R) a R'=updR l a R':=by
 unfold updR
 rw [List.map_map]
 apply List.map_congr_left
 intro x _
 simp only [Function.comp_apply]
 by_cases h:x.1=a
 ·simp [h]
 ·simp [h]
theorem updR_mem {l:List (Nat×RootS)} {a:Nat} {R R':RootS} (h:(a,R)∈l):(a,R')∈updR l a R':=by
 unfold updR
 exact List.mem_map.2 ⟨(a,R),h,by simp⟩
theorem updR_self {l:List (Nat×RootS)} {a:Nat} {R:RootS} (hnd:(l.map (·.1)).Nodup) (h:(a,R)∈l):updR l a R=l:=by
 unfold updR
 have:l.map (fun x=>if x.1=a then (a,R) else x)=l.map id:=List.map_congr_left fun x hx=>by
  split
  ·rename_i e
   have:x=(a,R):=nd_uniq hnd hx h e
   rw [this];rfl
  ·rfl
 rw [this,List.map_id]
theorem Sys.blocksT {w w1 w2:World} {ro:Ro} {J:Ids} {fr n:Nat} {S:St} (hS:Sys w ro J fr n S) {a:Nat} {R:RootS} (hm:(a,R)∈S.roots) {p p':Option Addr} {c c':Nat} {blocks:List Tr}
  (h1:Has w R.rb [.int .i64 (R.first:Int),.int .i64 (R.count:Int),.slice p R.blocks.length c,.map (some R.tm)]) (h2:Sl w 0 57 8 p R.blocks.length c (trCells R.blocks)) (h3:∀x,On p x→ro x=(18,a))
  (hsl:Sl w1 0 57 8 p' blocks.length c' (trCells blocks)) (f1:Fr (On p) w w1) (hon:∀b,On p' b→On p b∨w.heap.size≤b)
  (hst:Has w2 R.rb [.int .i64 (R.first:Int),.int .i64 (R.count:Int),.slice p' blocks.length c',.map (some R.tm)]) (f2:Fr (·=R.rb) w1 w2) :
  ∃ro',RExt w ro ro'∧Sys w2 ro' J fr n { S with roots:=updR S.roots a { R with blocks:=blocks } }∧FrR ro w w2:=by
 have hR:=hS.ed.root _ hm
 obtain⟨ro',hro⟩:∃ro':Ro,ro'=fun x=>if x<w.heap.size then ro x else (18,a):=⟨_,rfl⟩
 have e:RExt w ro ro':=fun x hx=>by rw [hro];simp only [if_pos hx]
 have hp':∀x,On p' x→ro' x=(18,a):=fun x hx=>by
  rcases hon x hx with h|h
  ·rw [e x (h2.lt x h).2];exact h3 x h
  ·rw [hro];simp only [if_neg (show ¬x<w.heap.size by omega)]
 have hrb:ro' R.rb=(17,a):=by rw [e _ h1.lt];exact hR.rr
 have f12:Fr (RootK ro a) w w2:=(f1.mono fun x _ hx=>.inr (.inl (h3 x hx))).thenS f2 fun x _ hx=>.inl (by rw [show x=R.rb from hx];exact hR.rr)
 refine⟨ro',e,hS.rootT hm (R':={ R with blocks:=blocks }) rfl e ⟨⟨p',c',hst,hsl.fr f2 (fun x hx h=>?_),hp'⟩,hrb,?_,?_⟩ f12,Fr.K f12⟩
 ·have h:x=R.rb:=h
  have:=hp' x hx
  rw [h,hrb] at this;cases this
 ·have htm:=hR.rt
  refine (hR.tm.fr f1 (fun h=>?_)).fr f2 (fun h=>?_)
  ·have:=h3 _ h;rw [htm] at this;cases this
  ·have h:R.tm=R.rb:=h
   have h9:=hR.rr
   rw [←h] at h9
   rw [show ro R.tm=(19,a) from htm] at h9;cases h9
 ·rw [e _ (mapIs_lt hR.tm)];exact hR.rt
theorem Sys.tabsT {w w1:World} {ro:Ro} {J:Ids} {fr n:Nat} {S:St} (hS:Sys w ro J fr n S) {a:Nat} {R:RootS} (hm:(a,R)∈S.roots) {tabs:List (Nat×Nat)} (htm:MapIs w1 R.tm .u32 (tabVals tabs)) (f1:Fr (·=R.tm) w w1) :
  Sys w1 ro J fr n { S with roots:=updR S.roots a { R with tabs:=tabs } }∧FrR ro w w1:=by
 have hR:=hS.ed.root _ hm
 have f:Fr (RootK ro a) w w1:=f1.mono fun x _ hx=>.inr (.inr (by rw [show x=R.tm from hx];exact hR.rt))
 obtain⟨p,c,h1,h2,h3⟩:=hR.st
 refine⟨hS.rootT hm (R':={ R with tabs:=tabs }) rfl (RExt.refl _ _) ⟨⟨p,c,h1.fr f1 (fun h=>?_),h2.fr f1 (fun x hx h=>?_),h3⟩,hR.rr,htm,hR.rt⟩ f,Fr.K f⟩
 ·have h:R.rb=R.tm:=h
  have h9:=hR.rr
  rw [h] at h9
  rw [show ro R.tm=(19,a) from hR.rt] at h9;cases h9
 ·have h:x=R.tm:=h
  have:=h3 x hx
  rw [h] at this
  rw [show ro R.tm=(19,a) from hR.rt] at this;cases this
def PutE (n:Nat) (S:St) (a:Nat) (l:List Tr) (e:Nat) (S':St):Prop :=
 (e≠0∧FitsE n S a l e∧S'=S) ∨
 (e=0∧∃R got mine p' l',root? S.roots a=some R∧MayE n R.blocks l 0∧TakeI R.tabs S.p S.l l got mine p' l' ∧
  S'=⟨(putN a got l 0 (R,S.M)).2,p',l',updR S.roots a (putN a got l 0 (R,S.M)).1⟩)
theorem RExt.then {w w1:World} {a b c:Ro} (h:RExt w a b) (hs:w.heap.size≤w1.heap.size) (k:RExt w1 b c):RExt w a c:=h.trans k hs
theorem addTab_rb (R:RootS) (g:Option (Nat×Bool)) (t:Tr):(addTab R g t).rb=R.rb∧(addTab R g t).blocks=R.blocks∧(addTab R g t).tm=R.tm:=by
 cases g with
 | none=>exact⟨rfl,rfl,rfl⟩
 | some g=>obtain⟨T,f⟩:=g;exact⟨rfl,rfl,rfl⟩
theorem putN_ids (a:Nat) (got:List (Nat×Nat×Bool)):∀(l:List Tr) (i:Nat) (s:RootS×Mst),(putN a got l i s).1.rb=s.1.rb∧(putN a got l i s).1.tm=s.1.tm
 | [],i,s=>⟨rfl,rfl⟩
 | t :: r,i,s=>by
  have h:=putN_ids a got r (i+1) (putR s.1 (got? got i) t,putM a s.1 s.2 (got? got i) t)
  have h2:=addTab_rb s.1 (got? got i) t
  exact⟨h.1.trans h2.1,h.2.trans h2.2.2⟩
theorem f24 {w:World} {ro:Ro} {J:Ids} {fr n:Nat} {S:St} (hS:Sys w ro J fr n S) (hI:Std n S) (hfr:fr≤65536) (hn:1≤n∧n≤7) (a:Nat) (ha:a<2^40) {q:Option Addr} {c:Nat} {l:List Tr} (hl:Rd w q (trCells l)) (hon:l≠[]→∀b,On q b→(ro b).1=0) (hc:l.length≤c)
  (hll:l.length≤9000000000000) (hwf:∀t∈l,t.wf)
  (hpre:∀R got mine p' l',root? S.roots a=some R→MayE n R.blocks l 0→TakeI R.tabs S.p S.l l got mine p' l'→∀i t,l[i]?=some t→PutPre fr a (putN a got (l.take i) 0 (R,S.M)).1 (got? got i) t) :
  Ret prog 24 #[.pointer (some ⟨J.e,0,none⟩),.int .u64 (a:Int),.slice q l.length c] w fun v w'=>∃(e:Nat) (S':St) (ro':Ro),v=.int .i64 (e:Int)∧PutE n S a l e S'∧RExt w ro ro'∧Sys w' ro' J fr n S'∧FrR ro w w':=by
 refine F24_of _ _ _ _ _ _ _ ?_
 unfold F24;try dsimp only [C_8,Liuviiubb,S_8,Uib,Upb,Uui,ce_,lb_,li_,lm_,lp_,ls_,ub_,ui_,um_,up_]
 have hst:=hS.ed.st
 try simp only [hst.ld_iff,sb_,Nat.reduceAdd]
 refine root_look hS a (fun hr=>?_) (fun R hr=>?_)
 ·simp only [sb_,Nat.reduceAdd]
  exact⟨140,S,ro,rfl,.inl ⟨by decide,.inl ⟨hr,rfl⟩,rfl⟩,RExt.refl _ _,hS,Fr.refl _ _⟩
 simp only [sb_,Nat.reduceAdd]
 simp only [Bool.not_true,BIf_false]
 have hm:=root_mem hr
 refine Ret.use (f60 hS hm hn hl hc (by omega) hwf (hI.wf _ hm) (Nat.le_trans (hI.len _ hm) (by decide))) ?_
 rintro _ w1 ⟨e,rfl,hmay,f1⟩
 rw [AsI_int]
 refine BIf_ne (fun he=>?_) (fun he=>?_)
 ·have he':e≠0:=fun h=>he (by rw [h];rfl)
  exact⟨e,S,ro,rfl,.inl ⟨he',.inr ⟨R,hr,.inl ⟨hmay,he'⟩⟩,rfl⟩,RExt.refl _ _,hS.fr0 f1,f1.mono fun _ _ h=>h.elim⟩
 obtain rfl:e=0:=by omega
 have hll:l.length≤1048576:=may_len hn hmay
 refine Ret.use (f61 (hS.fr0 f1) hm (hl.fr0 f1) hon (by omega) hwf hI.ok) ?_
 rintro _ w2 (⟨e2,ro2,rfl,htf,e2',hS2,f2⟩|⟨ro2,got,mine,p',l',gm,mm,u,ea,cu,pu,nbs,rfl,hti,hok',e2',hS2,f2,hT2⟩)
 ·simp only [sb_,Nat.reduceAdd]
  refine BIf_ne (fun h=>?_) (fun h=>absurd (by omega) htf.1)
  exact⟨e2,S,ro2,rfl,.inl ⟨htf.1,.inr ⟨R,hr,.inr ⟨hmay,.inl htf⟩⟩,rfl⟩,fun x hx=>e2' x (Nat.lt_of_lt_of_le hx f1.size),hS2,FrR.then (f1.mono fun _ _ h=>h.elim) (RExt.refl _ _) (f2.R (by decide))⟩
 simp only [sb_,Nat.reduceAdd]
 refine BIf_ne (fun h=>absurd rfl h) (fun _=>?_)
 have F2:FrR ro w w2:=FrR.then (f1.mono fun _ _ h=>h.elim) (RExt.refl _ _) (f2.R (by decide))
 have E2:RExt w ro ro2:=fun x hx=>e2' x (Nat.lt_of_lt_of_le hx f1.size)
 have hself:updR S.roots a R=S.roots:=updR_self hS.ed.nd hm
 refine Loop.by (fun s w'=>∃(i:Nat) (ro':Ro),i≤l.length∧s=[.int .i64 (i:Int)]∧RExt w ro ro'∧Sys w' ro' J fr n ⟨(putN a got (l.take i) 0 (R,S.M)).2,p',l',updR S.roots a (putN a got (l.take i) 0 (R,S.M)).1⟩∧FrR ro w w'∧MapIs w' gm .i64 (gotVals got)∧(ro' gm).1=0)
  (fun s _=>match s with | [.int _ i]=>l.length-i.toNat|_=>0) ⟨0,ro2,by omega,rfl,E2,by rw [List.take_zero];show Sys w2 ro2 J fr n ⟨S.M,p',l',updR S.roots a R⟩;rw [hself];exact hS2,F2,hT2.hg,by rw [hT2.rg]⟩ ?_
 rintro _ w3 ⟨i,ro3,hi,rfl,E3,hS3,F3,hg3,hrg3⟩
 simp only [UnC_cons,UnN_nil,AsI_int]
 refine BIf_cases (fun hlt=>?_) (fun hge=>?_)
 ·obtain⟨t,ht⟩:∃t,l[i]?=some t:=⟨l[i]'(by omega),List.getElem?_eq_getElem _⟩
  have htm:=List.mem_of_getElem? ht
  have hva:t.va<2^32:=hwf t htm
  have P:=hpre R got mine p' l' hr hmay hti i t ht
  have htake:l.take (i+1)=l.take i++[t]:=by rw [List.take_add_one,ht];rfl
  have hnext:=putN_snoc a got (l.take i) 0 (R,S.M) t
  rw [←htake,List.length_take,Nat.min_eq_left hi,Nat.zero_add] at hnext
  have hids:=putN_ids a got (l.take i) 0 (R,S.M)
  generalize hst':putN a got (l.take i) 0 (R,S.M)=st at *
  obtain⟨Ri,Mi⟩:=st
  simp only at hids hS3 P hnext
  obtain⟨hrb,htmi⟩:=hids
  refine tr_ld (hl.fr F3 fun b hb h=>h (hon (fun h=>by rw [h] at ht;simp at ht) b hb)) rfl ht hlt ?_
  refine New8 (fun w4 n4 f4 s4=>?_)
  have E4:RExt w3 ro3 (ro3.cut w3):=RExt.cut
  have hS4:=(hS3.ext E4).fr0 f4
  have hg4:=hg3.fr f4 (fun h=>h)
  have hrg4:((ro3.cut w3) gm).1=0:=by rw [E4 _ (mapIs_lt hg3)];exact hrg3
  have htb:((ro3.cut w3) w3.heap.size).1=0:=Ro.cut_new (Nat.le_refl _)
  have hmi:(a,Ri)∈updR S.roots a Ri:=updR_mem hm
  have n4':Has w4 w3.heap.size t.cells:=n4
  refine Join.at (fun s w'=>s=[]∧∃ro',RExt w4 (ro3.cut w3) ro'∧Sys w' ro' J fr n ⟨hookM a Mi (got? got i) t,p',l',updR S.roots a (addTab Ri (got? got i) t)⟩∧FrR (ro3.cut w3) w4 w') ?_ ?_
  ·refine lookup_ok T147 hg4 _ ?_
   rw [at_got]
   cases hgi:got? got i with
   | none =>
    simp only [Option.map_none,Option.getD_none,Option.isSome_none]
    simp only [sb_,Nat.reduceAdd]
    refine New2 (fun w5 n5 f5 s5=>?_)
    simp only [BIf_false]
    exact⟨by trivial,ro3.cut w3,RExt.refl _ _,hS4.fr0 f5,f5.mono fun _ _ h=>h.elim⟩
   | some g =>
    obtain⟨T,f⟩:=g
    obtain⟨hT0,hT1,hT2'⟩:=P.tab T f hgi
    simp only [Option.map_some,Option.getD_some,Option.isSome_some]
    simp only [sb_,Nat.reduceAdd]
    refine New2 (fun w5 n5 f5 s5=>?_)
    simp only [BIf_true]
    have E5:RExt w4 (ro3.cut w3) ((ro3.cut w3).cut w4):=RExt.cut
    have hS5:=(hS4.ext E5).fr0 f5
    have hkb:(((ro3.cut w3).cut w4) w4.heap.size).1=0:=Ro.cut_new (Nat.le_refl _)
    have htb5:(((ro3.cut w3).cut w4) w3.heap.size).1=0:=by rw [E5 _ n4.lt];exact htb
    have n45:=n4'.fr0 f5
    refine Join.at (fun s w'=>s=[]∧∃ro',RExt w5 ((ro3.cut w3).cut w4) ro'∧Sys w' ro' J fr n ⟨if f=true then wipeSt Mi (T/4) 1 else Mi,p',l',updR S.roots a Ri⟩∧FrR ((ro3.cut w3).cut w4) w5 w') ?_ ?_
    ·try simp only [n5.ld_iff,sb_,Nat.reduceAdd]
     refine BIf_b (fun hf=>?_) (fun hf=>?_)
     ·have hst5:=hS5.ed.st
      try simp only [hst5.ld_iff,n5.ld_iff,sb_,Nat.reduceAdd]
      have hr4:IntKind.i64.wrap ((T:Int).tdiv 4)=((T/4:Nat):Int):=by
       rw [show (4:Int)=((4:Nat):Int) from rfl,←Int.ofNat_tdiv,w64 (by omega) (by omega)]
      rw [hr4,show (1:Int)=((1:Nat):Int) from rfl]
      refine Ret.use (f62 (hS5.fr0 (Qt.refl w5).drew.fr).mach (T/4) 1 (by omega) (by decide)) ?_
      rintro _ w6 ⟨rfl,ro6,E6,hM6,f6⟩
      rw [AsI_int]
      refine⟨by trivial,ro6,fun x hx=>E6 x hx,?_,(f6.R (by decide)).of_drew⟩
      rw [if_pos hf]
      exact (hS5.fr0 (Qt.refl w5).drew.fr).machT E6 hM6 f6
     ·refine⟨by trivial,_,RExt.refl _ _,?_,Fr.refl _ _⟩
      rw [if_neg (by rw [hf];decide)]
      exact hS5
    ·rintro _ w6 ⟨rfl,ro6,E6,hS6,F6⟩
     rw [UnN_nil]
     have n6:=n5.fr F6 (fun h=>h hkb)
     have n46:Has w6 w3.heap.size [.int .i64 t.size,.int .u32 (t.va:Int),.int .u64 (t.pa:Int),.int .i64 t.dom,.int .i64 t.ap,.int .u32 (t.bits:Int),.bool t.ng,.bool t.xn]:=n45.fr F6 (fun h=>h htb5)
     try simp only [n6.ld_iff,n46.ld_iff,sb_,Nat.reduceAdd]
     have hbase:IntKind.u64.wrap (IntKind.u64.wrap (T:Int)*1024)=((T*1024:Nat):Int):=by
      rw [wu64 (n:=(T:Int)) (by omega) (by omega),wu64 (by omega) (by omega)];omega
     rw [hbase]
     have hRt:=right_parts P.right
     have htab:(tabEn T t.dom).tab:=by
      refine⟨rfl,?_,hRt.2.2.1,rfl,rfl,rfl,rfl⟩
      unfold place tabEn
      simp only
      rw [decide_eq_true (show T*1024%2^10=0 by omega),decide_eq_true (show T*1024<2^32 by omega)]
      rfl
     refine Ret.use (f63 hS6.gl.gd (tabEn T t.dom) (.inr (.inl htab))) ?_
     rintro _ w7 ⟨rfl,f7⟩
     simp only [sb_,Nat.reduceAdd]
     have n47:=n46.fr0 f7
     have n7:=n6.fr0 f7
     try simp only [n47.ld_iff,sb_,Nat.reduceAdd]
     refine RunV.build1 E35 (by decide) rfl fun w8 n8 f8 s8=>?_
     rw [AsSl_slice]
     have E8:RExt w7 ro6 (ro6.cut w7):=RExt.cut
     have hS8:=((hS6.fr0 f7).ext E8).fr0 f8
     have n48:=n47.fr0 f8
     have n78:=n7.fr0 f8
     rw [mib_wrap hva]
     have hat8:IntKind.u64.wrap ((a:Int)+IntKind.u64.wrap (IntKind.u64.wrap ((t.va/1048576:Nat):Int)*4))=((a+4*t.mib:Nat):Int):=by
      rw [wu64 (n:=((t.va/1048576:Nat):Int)) (by omega) (by omega),wu64 (n:=((t.va/1048576:Nat):Int)*4) (by omega) (by omega),wu64 (by omega) (by omega)]
      unfold Tr.mib;omega
     rw [hat8]
     refine Ret.use (f64 (x:=tabW T t.dom) (k:=1) hS8 (fun j v hj=>⟨w7.heap.size,0,rfl,by rw [Nat.zero_add,n8.cell];rw [List.replicate_one,tabW_eq] at hj;exact hj⟩) (fun b hb=>by obtain⟨y,h,rfl⟩:=hb;injection h with h;subst h;exact Ro.cut_new (Nat.le_refl _)) (tabW_lt _ _) (by decide) hfr (fun j hj=>by
      have:j=0:=by omega
      subst this;exact hT2')) ?_
     rintro _ w9 ⟨rfl,ro9,E9,hS9,f9⟩
     simp only [sb_,Nat.reduceAdd]
     have hmi9:(a,Ri)∈updR S.roots a Ri:=hmi
     have hR9:=hS9.ed.root _ hmi9
     obtain⟨p9,c9,h91,h92,h93⟩:=hR9.st
     have hz3:w3.heap.size<w4.heap.size:=n4.lt
     have t9:((ro6.cut w7) w3.heap.size).1=0:=by
      rw [E8 _ (by have:=f5.size;have:=F6.size;have:=f7.size;omega),E6 _ (by have:=f5.size;omega)];exact htb5
     have k9:((ro6.cut w7) w4.heap.size).1=0:=by
      rw [E8 _ (by have:=F6.size;have:=f7.size;omega),E6 _ (by omega)];exact hkb
     have n49:=n48.fr f9 (fun h=>by rw [t9] at h;simp at h)
     have n79:=n78.fr f9 (fun h=>by rw [k9] at h;simp at h)
     rw [←hrb]
     try simp only [h91.ld_iff,n49.ld_iff,n79.ld_iff,sb_,Nat.reduceAdd]
     rw [mib_wrap hva]
     have hnone:at? (tabVals Ri.tabs) ((t.va/1048576:Nat):Int)=none:=by
      rw [at_tabVals]
      have:tab? Ri.tabs (t.va/1048576)=none:=hT0
      rw [this];rfl
     refine mapUpdate_new T131 (hR9.tm.fr (S:=fun _=>False) (Qt.refl w9).drew.fr (fun h=>h)) hnone _ fun w10 m10 f10 s10=>?_
     obtain⟨hS10,F10⟩:=(hS9.fr0 (Qt.refl w9).drew.fr).tabsT hmi9 (tabs:=Ri.tabs++[(t.mib,T)]) (by
      unfold tabVals at m10 ⊢
      rw [List.map_append]
      exact m10) f10
     rw [updR_upd] at hS10
     refine⟨by trivial,ro9,?_,hS10,?_⟩
     ·intro x hx
      have h5:=f5.size
      have h6:=F6.size
      have h7:=f7.size
      have h8:=f8.size
      rw [E9 x (by omega),E8 x (by omega),E6 x (by omega),E5 x hx]
     ·have G6:FrR (ro3.cut w3) w4 w6:=FrR.then (f5.mono fun _ _ h=>h.elim) E5 F6
      have GE6:RExt w4 (ro3.cut w3) ro6:=fun x hx=>(E6 x (by have:=f5.size;omega)).trans (E5 x hx)
      have G8:FrR (ro3.cut w3) w4 w8:=G6.trans ((f7.trans f8).mono fun _ _ h=>h.elim)
      have GE8:RExt w4 (ro3.cut w3) (ro6.cut w7):=fun x hx=>(E8 x (by have:=G6.size;have:=f7.size;omega)).trans (GE6 x hx)
      have G9:=FrR.then G8 GE8 (f9.R (by decide))
      have GE9:RExt w4 (ro3.cut w3) ro9:=fun x hx=>(E9 x (by have:=G8.size;omega)).trans (GE8 x hx)
      exact FrR.then G9 GE9 F10.of_drew
  ·rintro _ w5 ⟨rfl,ro5,E5,hS5,F5⟩
   rw [UnN_nil]
   obtain⟨r1,r2,r3⟩:=addTab_rb Ri (got? got i) t
   have hpl:=P.place
   have htl:=P.tl
   have hputM:putM a Ri Mi (got? got i) t=pokes (hookM a Mi (got? got i) t) (placeOf (addTab Ri (got? got i) t) a t) (wordN t) (reps t.size):=rfl
   have hputR:putR Ri (got? got i) t={ addTab Ri (got? got i) t with blocks:=insAt Ri.blocks (findR Ri.blocks t.va).1 t }:=rfl
   rw [hputM,hputR] at hnext
   generalize hR1:addTab Ri (got? got i) t=R1 at *
   generalize hM1:hookM a Mi (got? got i) t=M1 at *
   have hrb1:R.rb=R1.rb:=by rw [r1,hrb]
   rw [hrb1]
   have n5:Has w5 w3.heap.size [.int .i64 t.size,.int .u32 (t.va:Int),.int .u64 (t.pa:Int),.int .i64 t.dom,.int .i64 t.ap,.int .u32 (t.bits:Int),.bool t.ng,.bool t.xn]:=n4'.fr F5 (fun h=>h htb)
   try simp only [n5.ld_iff,sb_,Nat.reduceAdd]
   refine Ret.use (f65 hS5.gl.gd.drew t hva P.right) ?_
   rintro _ w6 ⟨rfl,f6⟩
   replace f6:=f6.of_drew
   rw [AsI_int]
   have n6:=n5.fr0 f6
   refine⟨⟨n6.cell.trans rfl,n6.cell.trans rfl,n6.cell.trans rfl,n6.cell.trans rfl,n6.cell.trans rfl,n6.cell.trans rfl,n6.cell.trans rfl,n6.cell.trans rfl,trivial⟩,?_⟩
   have hS6:=hS5.fr0 f6
   rw [←wordN_eq]
   have hm1:(a,R1)∈updR S.roots a R1:=updR_mem hm
   refine Ret.use (f54 hS6 hm1 t hva (wordN_lt t) hfr (reps_right P.right) htl ha hpl) ?_
   rintro _ w7 ⟨rfl,ro7,E7,hS7,f7⟩
   simp only [sb_,Nat.reduceAdd]
   have htb5:(ro5 w3.heap.size).1=0:=by rw [E5 _ n4.lt];exact htb
   have n7:=n6.fr f7 (fun h=>by rw [htb5] at h;simp at h)
   try simp only [n7.ld_iff,sb_,Nat.reduceAdd]
   have hR7:=hS7.ed.root _ hm1
   refine Ret.use (f66 hS7.gl hR7 (by simp only;rw [r2];exact P.sorted) (by simp only;rw [r2];have:=P.len;omega) (by simp only;rw [r2];exact P.wfs) t.va hva) ?_
   rintro _ w8 ⟨rfl,f8⟩
   simp only [sb_,Nat.reduceAdd]
   have hS8:=hS7.fr0 f8
   have n8:=n7.fr0 f8
   obtain⟨p8,c8,h81,h82,h83⟩:=(hS8.ed.root _ hm1).st
   have hx:=findR_le R1.blocks t.va
   have hbl:R1.blocks.length≤100000000000:=by rw [r2];exact P.len
   try simp only [h81.ld_iff,n8.ld_iff,sb_,Nat.reduceAdd]
   refine RunV.build1 E57 (by decide) rfl fun w9 n9 f9 s9=>?_
   rw [AsSl_slice]
   have f9':Fr0 w8 w9:=f9.of_drew
   refine⟨(h81.fr0 f9').cell.trans rfl,?_⟩
   have h82':=h82.fr0 f9'
   refine Ret.use (f67 h82' (by simp only;omega) (findR R1.blocks t.va).1 hx t (vb:=w8.drew.heap.size) n9 (fun h=>by have:=(h82.lt _ h).2;simp at this)) ?_
   rintro _ w10 ⟨p10,c10,rfl,h10,f10,hon10⟩
   rw [AsSl_slice]
   have h810:=(h81.fr0 f9').fr f10 (fun h=>by
    have h9:=h83 _ h
    have h9':=(hS8.ed.root _ hm1).rr
    rw [h9] at h9';cases h9')
   refine h810.st (by simp) rfl fun w11 n11 f11 s11=>?_
   have hil:=insAt_len (t:=t) hx
   obtain⟨ro11,E11,hS11,F11⟩:=hS8.blocksT hm1 (blocks:=insAt R1.blocks (findR R1.blocks t.va).1 t) h81 h82 h83 (by rw [hil];exact h10) ((f9'.mono fun _ _ h=>h.elim).trans f10) (fun b hb=>(hon10 b hb).imp id fun h=>Nat.le_trans f9'.size h) (by rw [hil];simpa using n11) f11
   have G8:FrR (ro3.cut w3) w4 w8:=(FrR.then (F5.trans (f6.mono fun _ _ h=>h.elim)) E5 (f7.R (by decide))).trans (f8.mono fun _ _ h=>h.elim)
   have GE7:RExt w4 (ro3.cut w3) ro7:=fun x hx=>(E7 x (by have:=F5.size;have:=f6.size;omega)).trans (E5 x hx)
   have G11:FrR (ro3.cut w3) w4 w11:=FrR.then G8 GE7 F11
   have GE11:RExt w4 (ro3.cut w3) ro11:=fun x hx=>(E11 x (by have:=G8.size;omega)).trans (GE7 x hx)
   have z34:=f4.size
   rw [w64 (n:=(i:Int)+1) (by omega) (by omega)]
   refine⟨⟨i+1,ro11,by omega,rfl,fun x hx=>(GE11 x (by have:=F3.size;omega)).trans ((E4 x (by have:=F3.size;omega)).trans (E3 x hx)),?_,?_,hg4.fr G11 (fun h=>h hrg4),?_⟩,(by first|omega|(simp only [Int.toNat_natCast];omega))⟩
   ·rw [hnext]
    have:=hS11
    rw [updR_upd] at this
    simp only at this ⊢
    rw [r2] at this
    exact this
   ·exact F3.then E3 (FrR.then (f4.mono fun _ _ h=>h.elim) E4 G11)
   ·rw [GE11 _ (mapIs_lt hg4)];exact hrg4
 ·obtain rfl:i=l.length:=by omega
  rw [List.take_length] at hS3
  exact⟨0,_,ro3,rfl,.inr ⟨rfl,R,got,mine,p',l',hr,hmay,hti,rfl⟩,E3,hS3,F3⟩
def chooseL (blocks:List Tr):List Nat→List Tr→Option (List Tr)
 | [],out=>some out
 | va :: r,out=>if (findR blocks va).2=true then match blocks[(findR blocks va).1]? with
   | some t=>if out.any (fun x=>decide (x.va=t.va))=true then none else chooseL blocks r (out++[t])
   | none=>none
  else none
def badCut (asid ap:Int) (bits:Nat) (ng:Bool):Prop:=asid<0∨asid>255∨ap<0∨ap>7∨bits>63∨ng=false
def ChoErr (S:St) (a:Nat) (asid ap:Int) (bits:Nat) (ng:Bool) (vas:List Nat) (e:Nat):Prop :=
 (root? S.roots a=none∧e=140)∨∃R,root? S.roots a=some R∧((badCut asid ap bits ng∧e=1)∨(¬badCut asid ap bits ng∧chooseL R.blocks vas []=none∧e=142))
def ChoOk (S:St) (a:Nat) (asid ap:Int) (bits:Nat) (ng:Bool) (vas:List Nat) (R:RootS) (out:List Tr):Prop :=
 root? S.roots a=some R∧¬badCut asid ap bits ng∧chooseL R.blocks vas []=some out
def seenVals (out:List Tr):List (Int×Value):=out.map fun t=>((t.va:Int),.int .i64 1)
theorem at_seen (out:List Tr) (va:Nat):at? (seenVals out) (va:Int)=if out.any (fun x=>decide (x.va=va))=true then some (.int .i64 1) else none:=by
 unfold at? seenVals
 induction out with
 | nil=>rfl
 | cons t r ih =>
  rw [List.map_cons,List.any_cons]
  by_cases e:t.va=va
  ·rw [List.find?_cons_of_pos (by simp [e]),if_pos (by simp [e])];rfl
  ·rw [List.find?_cons_of_neg (by simp;omega)]
   rw [ih]
   simp [e]
theorem findR_lt {l:List Tr} {va:Nat} (h:(findR l va).2=true):(findR l va).1<l.length:=by
 unfold findR at h ⊢
 have hle:=findIx_le l va
 split
 ·rename_i hx
  unfold exactAt at hx
  cases hg:l[findIx l va]? with
  | none=>rw [hg] at hx;cases hx
  | some t=>exact (List.getElem?_eq_some_iff.1 hg).1
 ·rename_i hx
  rw [if_neg hx] at h
  cases hg:l[findIx l va-1]? with
  | none=>rw [hg] at h;cases h
  | some b =>
   rw [hg] at h
   simp only at h ⊢
   have:=(List.getElem?_eq_some_iff.1 hg).1
   split
   ·exact this
   ·rename_i hn;rw [if_neg hn] at h;cases h
theorem nd_push {out:List Tr} {t:Tr} (hnd:(out.map (·.va)).Nodup) (hany:out.any (fun x=>decide (x.va=t.va))=false):((out++[t]).map (·.va)).Nodup:=by
 rw [List.map_append,List.nodup_append]
 refine⟨hnd,by simp,fun x hx y hy e=>?_⟩
 simp only [List.map_cons,List.map_nil,List.mem_singleton] at hy
 subst hy;subst e
 obtain⟨z,hz,hz2⟩:=List.mem_map.1 hx
 rw [List.any_eq_false] at hany
 exact hany z hz (by simpa using hz2)
theorem f53 {w:World} {ro:Ro} {J:Ids} {fr n:Nat} {S:St} (hS:Sys w ro J fr n S) (hI:Std n S) (a:Nat) (hso:∀R,root? S.roots a=some R→R.blocks.Pairwise fun a b=>a.va<b.va) (asid ap:Int) (bits:Nat) (ng xn:Bool) {q:Option Addr} {c:Nat} {vas:List Nat}
  (hq:Rd w q (vas.map fun v=>Value.int .u32 ((v:Nat):Int))) (hv:∀v∈vas,v<4294967296) (hvl:vas.length≤100000000000000) :
  Ret prog 53 #[.pointer (some ⟨J.e,0,none⟩),.int .u64 (a:Int),.int .i64 asid,.agg #[.int .i64 ap,.int .u32 (bits:Int),.bool ng,.bool xn],.slice q vas.length c] w fun v w'=>Fr0 w w' ∧
   ((∃e:Nat,v=.tuple #[.pointer none,.slice none 0 0,.int .i64 (e:Int)]∧ChoErr S a asid ap bits ng vas e) ∨
    (∃R out p c',v=.tuple #[.pointer (some ⟨R.rb,0,none⟩),.slice p out.length c',.int .i64 0]∧ChoOk S a asid ap bits ng vas R out∧Sl w' w.heap.size 57 8 p out.length c' (trCells out))):=by
 refine F53_of _ _ _ _ _ _ _ _ _ _ _ _ ?_
 unfold F53;try dsimp only [Liuviiubb,S_8,Uib,Uisisp,Upb,lb_,li_,lm_,ls_,ub_,ui_,up_,us_]
 refine New.mk fun w1 n1 f1 s1=>?_
 have hS1:=hS.fr0 f1
 have hst:=hS1.ed.st
 try simp only [hst.ld_iff,sb_,Nat.reduceAdd]
 refine root_look hS1 a (fun hr=>?_) (fun R hr=>?_)
 ·simp only [sb_,Nat.reduceAdd]
  exact⟨f1,.inl ⟨140,rfl,.inl ⟨hr,rfl⟩⟩⟩
 simp only [sb_,Nat.reduceAdd]
 simp only [Bool.not_true,BIf_false]
 have hm:=root_mem hr
 have bad:∀h:badCut asid ap bits ng,Fr0 w w1∧((∃e:Nat,Value.tuple #[.pointer none,.slice none 0 0,.int .i64 1]=.tuple #[.pointer none,.slice none 0 0,.int .i64 (e:Int)]∧ChoErr S a asid ap bits ng vas e) ∨
    (∃R out p c',Value.tuple #[.pointer none,.slice none 0 0,.int .i64 1]=.tuple #[.pointer (some ⟨R.rb,0,none⟩),.slice p out.length c',.int .i64 0]∧ChoOk S a asid ap bits ng vas R out∧Sl w1 w.heap.size 57 8 p out.length c' (trCells out))) :=
  fun h=>⟨f1,.inl ⟨1,rfl,.inr ⟨R,hr,.inl ⟨h,rfl⟩⟩⟩⟩
 refine BIf_cases (fun h=>bad (.inl h)) (fun b1=>?_)
 refine BIf_cases (fun h=>bad (.inr (.inl h))) (fun b2=>?_)
 try simp only [n1.ld_iff,sb_,Nat.reduceAdd]
 refine BIf_cases (fun h=>bad (.inr (.inr (.inl h)))) (fun b3=>?_)
 try simp only [n1.ld_iff,sb_,Nat.reduceAdd]
 refine BIf_cases (fun h=>bad (.inr (.inr (.inr (.inl h))))) (fun b4=>?_)
 try simp only [n1.ld_iff,sb_,Nat.reduceAdd]
 refine BIf_cases (fun h=>bad (.inr (.inr (.inr (.inr (.inl (by omega))))))) (fun b5=>?_)
 try simp only [n1.ld_iff,sb_,Nat.reduceAdd]
 refine BIf_not.2 (BIf_b (fun b6=>?_) (fun b6=>bad (.inr (.inr (.inr (.inr (.inr b6)))))))
 have hgood:¬badCut asid ap bits ng:=by
  rintro (h|h|h|h|h|h)
  ·exact b1 h
  ·exact b2 h
  ·exact b3 h
  ·exact b4 h
  ·exact b5 (by omega)
  ·rw [h] at b6;cases b6
 refine makeMap_ok .u32 fun w2 m2 f2 s2=>?_
 rw [AsM_map]
 have f02:=f1.trans f2
 have hlt1:w.heap.size≤w1.heap.size:=f1.size
 generalize hsm:w1.heap.size=sm at *
 refine Loop.by (fun s w'=>∃(i:Nat) (out:List Tr) (p:Option Addr) (c':Nat) (x:Int) (p1:Option Addr) (n1 c1:Nat) (p2:Option Addr),i≤vas.length∧s=[.int .i64 (i:Int),.slice p out.length c',.int .i64 x,.slice p1 n1 c1,.pointer p2] ∧
   chooseL R.blocks vas []=chooseL R.blocks (vas.drop i) out∧MapIs w' sm .u32 (seenVals out)∧Sl w' w.heap.size 57 8 p out.length c' (trCells out)∧Fr0 w w'∧(∀t∈out,t∈R.blocks)∧(out.map (·.va)).Nodup)
  (fun s _=>match s with | [.int _ i,_,_,_,_]=>vas.length-i.toNat|_=>0) ⟨0,[],none,0,0,none,0,0,none,by omega,rfl,rfl,m2,Sl.nil _ _ _ _,f02,by simp,by simp⟩ ?_
 rintro _ w3 ⟨i,out,p,c',x,p1,n1',c1,p2,hi,rfl,hch,hm3,hsl3,f3,hmem,hnd⟩
 have hol:out.length≤100000000:=by
  have h1:=len_sub (L:=out.map (·.va)) (M:=R.blocks.map (·.va)) hnd fun x hx=>by
   obtain⟨t,ht,rfl⟩:=List.mem_map.1 hx
   exact List.mem_map.2 ⟨t,hmem t ht,rfl⟩
  rw [List.length_map,List.length_map] at h1
  exact Nat.le_trans h1 (hI.len _ hm)
 simp only [UnC_cons,UnN_nil,AsI_int,AsSl_slice,AsP_pointer]
 refine BIf_cases (fun hlt=>?_) (fun hge=>?_)
 ·obtain⟨va,hva⟩:∃va,vas[i]?=some va:=⟨vas[i]'(by omega),List.getElem?_eq_getElem _⟩
  have hdrop:vas.drop i=va :: vas.drop (i+1):=by
   obtain⟨h1,h2⟩:=List.getElem?_eq_some_iff.1 hva
   rw [←h2];exact List.drop_eq_getElem_cons h1
  rw [hdrop] at hch
  obtain⟨b,o,hqp,hqc⟩:=(hq.fr0 f3) i (.int .u32 (va:Int)) (by simp [hva])
  rw [hqp,NilP_some]
  refine⟨by omega,by omega,?_⟩
  rw [at0_mk,Int.toNat_natCast]
  refine⟨_,hqc,AsI_int.2 ?_⟩
  have hS3:=hS.fr0 f3
  have hR3:=hS3.ed.root _ hm
  refine Ret.use (f66 hS3.gl hR3 (hso R hr) (Nat.le_trans (hI.len _ hm) (by decide)) (hI.wf _ hm) va (hv va (List.mem_of_getElem? hva))) ?_
  rintro _ w4 ⟨rfl,f4⟩
  simp only [sb_,Nat.reduceAdd]
  refine BIf_not.2 (BIf_b (fun hok=>?_) (fun hno=>?_))
  ·have hS4:=hS3.fr0 f4
   obtain⟨pb,cb,h1,h2,h3⟩:=(hS4.ed.root _ hm).st
   try simp only [h1.ld_iff,sb_,Nat.reduceAdd]
   obtain⟨t,ht⟩:∃t,R.blocks[(findR R.blocks va).1]?=some t:=⟨R.blocks[(findR R.blocks va).1]'(findR_lt hok),List.getElem?_eq_getElem _⟩
   refine tr_ld h2.rd rfl ht (by have:=findR_lt hok;omega) ?_
   refine New8 (fun w5 n5 f5 s5=>?_)
   have hch2:chooseL R.blocks (va :: vas.drop (i+1)) out=if out.any (fun x=>decide (x.va=t.va))=true then none else chooseL R.blocks (vas.drop (i+1)) (out++[t]):=by
    show (if (findR R.blocks va).2=true then _ else _)=_
    rw [if_pos hok,ht]
   rw [hch2] at hch
   have f35:=f4.trans f5
   have m5:=hm3.fr f35 (fun h=>h)
   have sl5:=hsl3.fr0 f35
   have f05:=f3.trans f35
   try simp only [n5.ld_iff,sb_,Nat.reduceAdd]
   refine lookup1_ok T131 m5 _ ?_
   rw [at_seen]
   have smne:∀{W:World},Has W w4.heap.size t.cells→MapIs W sm .u32 (seenVals out)→w4.heap.size≠sm:=fun h1 h2 h=>by
    obtain⟨tt,h1⟩:=h1
    obtain⟨es,ck,h2,_⟩:=h2
    rw [h,h2] at h1;cases h1
   have hne1:=smne n5 m5
   cases hany:out.any (fun x=>decide (x.va=t.va)) with
   | true =>
    simp only [if_true,Option.getD_some,AsI_int]
    rw [show IntKind.i64.wrap ((1:Int)+1)=2 from by kernel_rfl]
    refine mapUpdate_old T131 m5 (by rw [at_seen,if_pos hany]) _ fun w6 m6 f6 s6=>?_
    have n6:=n5.fr f6 hne1
    unfold Tr.cells at n6
    try simp only [n6.ld_iff,sb_,Nat.reduceAdd]
    refine lookup1_ok T131 m6 _ ?_
    rw [at_setAt (u:=.int .i64 1) (by rw [at_seen,if_pos hany])]
    simp only [Option.getD_some,AsI_int]
    refine BIf_pos (by decide) ?_
    refine⟨f05.new f6 hlt1,.inl ⟨142,rfl,.inr ⟨R,hr,.inr ⟨hgood,?_,rfl⟩⟩⟩⟩
    rw [hch,if_pos hany]
   | false =>
    simp only [Bool.false_eq_true,if_false,Option.getD_none,AsI_int]
    rw [show IntKind.i64.wrap ((0:Int)+1)=1 from by kernel_rfl]
    refine mapUpdate_new T131 m5 (by rw [at_seen,if_neg (by rw [hany];decide)]) _ fun w6 m6 f6 s6=>?_
    have n6:Has w6 w4.heap.size [.int .i64 t.size,.int .u32 (t.va:Int),.int .u64 (t.pa:Int),.int .i64 t.dom,.int .i64 t.ap,.int .u32 (t.bits:Int),.bool t.ng,.bool t.xn]:=n5.fr f6 hne1
    have m6':MapIs w6 sm .u32 (seenVals (out++[t])):=by
     unfold seenVals at m6 ⊢
     rw [List.map_append];exact m6
    try simp only [n6.ld_iff,sb_,Nat.reduceAdd]
    refine lookup1_ok T131 m6' _ ?_
    rw [at_seen,if_pos (by simp)]
    simp only [Option.getD_some,AsI_int]
    refine BIf_neg (by decide) ?_
    try simp only [n6.ld_iff,sb_,Nat.reduceAdd]
    have sl6:Sl w6 w.heap.size 57 8 p out.length c' (trCells out):=sl5.fr f6 (fun b hb h=>by
     have h:b=sm:=h
     obtain⟨es,ck,h2,_⟩:=m5
     rcases sl5.cases with ⟨h3,_⟩|⟨g,sp,h3,_,h4,_⟩
     ·obtain⟨aa,h5,_⟩:=hb;rw [h3] at h5;cases h5
     ·obtain⟨aa,h5,h6⟩:=hb
      rw [h3] at h5;injection h5 with h5;subst h5
      simp only at h6
      obtain⟨tt,h4⟩:=h4
      rw [h6,h,h2] at h4;cases h4)
    have f06:Fr0 w w6:=f05.new f6 hlt1
    refine push_sl E57 (by decide) sl6 f06.size rfl (fun v hv=>tr_cells_one t v hv) (by simp only [maxLen];omega) (by omega) fun pn cn w7 hsl7 f7 hon7=>?_
    rw [AsSl_slice,w64 (n:=(i:Int)+1) (by omega) (by omega)]
    have f07:Fr0 w w7:=f06.newS f7 (fun b hb=>(sl6.lt b hb).1)
    refine⟨⟨i+1,out++[t],pn,cn,x,p1,n1',c1,p2,by omega,by rw [List.length_append];rfl,?_,m6'.fr f7 (fun hb=>?_),?_,f07,fun u hu=>(List.mem_append.1 hu).elim (hmem u) (fun hu=>by rw [List.mem_singleton.1 hu];exact List.mem_of_getElem? ht),nd_push hnd hany⟩,(by first|omega|(simp only [Int.toNat_natCast];omega))⟩
    ·rw [hch,if_neg (by rw [hany];decide)]
    ·obtain⟨es,ck,h2,_⟩:=m6
     rcases sl6.cases with ⟨h3,_⟩|⟨g,sp,h3,_,h4,_⟩
     ·obtain⟨aa,h5,_⟩:=hb;rw [h3] at h5;cases h5
     ·obtain⟨aa,h5,h6⟩:=hb
      rw [h3] at h5;injection h5 with h5;subst h5
      simp only at h6
      obtain⟨tt,h4⟩:=h4
      rw [h6,h2] at h4;cases h4
    ·rw [List.length_append,trCells_app]
     have:trCells [t]=t.v.cells.toList:=by simp [trCells];rfl
     rw [this]
     exact hsl7
  ·refine⟨f3.trans f4,.inl ⟨142,rfl,.inr ⟨R,hr,.inr ⟨hgood,?_,rfl⟩⟩⟩⟩
   rw [hch]
   show (if (findR R.blocks va).2=true then _ else _)=_
   rw [if_neg (by rw [hno];decide)]
 ·obtain rfl:i=vas.length:=by omega
  rw [List.drop_length] at hch
  exact⟨f3,.inr ⟨R,out,p,c',rfl,⟨hr,hgood,hch⟩,hsl3⟩⟩
structure Xs where
 R:RootS
 M:Mst
 p:Pool
 l:List Qr
def Xs.st (x:Xs) (roots:List (Nat×RootS)) (a:Nat):St:=⟨x.M,x.p,x.l,updR roots a x.R⟩
def asWord (va:Nat) (asid:Int):Int:=IntKind.u32.wrap ((va:Int)+IntKind.u32.wrap asid)
def zeroM (a:Nat) (R:RootS) (M:Mst) (t:Tr):Mst:=pokes M (placeOf R a t) 0 (reps t.size)
def cutR (R:RootS) (t:Tr):RootS:={ R with blocks:=R.blocks.eraseIdx (findR R.blocks t.va).1 }
def cutM (a:Nat) (asid:Int) (R:RootS) (M:Mst) (t:Tr):Mst:=dropM (zeroM a R M t) 2 (asWord t.va asid)
def lastIn (l:List Tr) (t:Tr):Bool:=t.paged && !(l.any fun b=>b.paged && decide (b.mib=t.mib))
def unTab (R:RootS) (m:Nat):RootS:={ R with tabs:=R.tabs.filter fun x=>decide (x.1≠m) }
inductive CutStep (a:Nat) (asid:Int) (t:Tr):Xs→Xs→Prop
 | keep (x:Xs) (h:lastIn (cutR x.R t).blocks t=false):CutStep a asid t x ⟨cutR x.R t,cutM a asid x.R x.M t,x.p,x.l⟩
 | shut (x:Xs) (h:lastIn (cutR x.R t).blocks t=true) (T e:Nat) (p':Pool) (l':List Qr) (hT:tab? x.R.tabs t.mib=some T) (hd:SDrop x.p x.l (T:Int) e p' l') :
   CutStep a asid t x ⟨unTab (cutR x.R t) t.mib,pokes (cutM a asid x.R x.M t) (a+4*t.mib) 0 1,p',l'⟩
inductive CutRun (a:Nat) (asid:Int) (x:Xs):List Tr→Xs→Prop
 | nil:CutRun a asid x [] x
 | snoc {ts:List Tr} {y z:Xs} {t:Tr} (h:CutRun a asid x ts y) (hs:CutStep a asid t y z):CutRun a asid x (ts++[t]) z
structure CutPre (fr a:Nat) (R:RootS) (t:Tr):Prop where
 reps:reps t.size=1∨reps t.size=16
 wf:t.wf
 tl:∀v,tab? R.tabs t.mib=some v→v<2^30
 place:∀i,i<Go.Proofs.YtmgjicnipgdjhaaGreatDoor.reps t.size→wErr fr (placeOf R a t+4*i)=0
 sorted:R.blocks.Pairwise fun a b=>a.va<b.va
 wfs:∀b∈R.blocks,b.wf
 len:R.blocks.length≤100000000000
 ix:(findR R.blocks t.va).1<R.blocks.length
 tab:t.paged=true→∃T,tab? R.tabs t.mib=some T
 hook:wErr fr (a+4*t.mib)=0
def CutE (S:St) (a:Nat) (asid:Int) (vas:List Nat) (e:Nat) (S':St):Prop :=
 (e≠0∧ChoErr S a asid 0 0 true vas e∧S'=S) ∨
 (e=0∧∃R out y,ChoOk S a asid 0 0 true vas R out∧CutRun a asid ⟨R,S.M,S.p,S.l⟩ out y∧S'=y.st S.roots a)
theorem ChoErr.ne {S:St} {a:Nat} {asid ap:Int} {bits:Nat} {ng:Bool} {vas:List Nat} {e:Nat} (h:ChoErr S a asid ap bits ng vas e):e≠0:=by
 rcases h with ⟨_,h⟩|⟨_,_,⟨_,h⟩|⟨_,_,h⟩⟩<;>omega
theorem CutRun.ids {a:Nat} {asid:Int} {x y:Xs} {ts:List Tr} (h:CutRun a asid x ts y):y.R.rb=x.R.rb∧y.R.tm=x.R.tm:=by
 induction h with
 | nil=>exact⟨rfl,rfl⟩
 | snoc _ hs ih =>
  cases hs with
  | keep=>exact ih
  | shut=>exact ih
theorem f44 {w:World} {ro:Ro} {J:Ids} {fr n:Nat} {S:St} (hS:Sys w ro J fr n S) (hI:Std n S) (hfr:fr≤65536) (a:Nat) (ha:a<2^40) (hso:∀R,root? S.roots a=some R→R.blocks.Pairwise fun a b=>a.va<b.va) (asid:Int)
  {q:Option Addr} {c:Nat} {vas:List Nat} (hq:Rd w q (vas.map fun v=>Value.int .u32 ((v:Nat):Int))) (hv:∀v∈vas,v<4294967296) (hvl:vas.length≤100000000000000) (hol:∀R out,ChoOk S a asid 0 0 true vas R out→out.length≤1000000000)
  (hpre:∀R out,ChoOk S a asid 0 0 true vas R out→∀i t,out[i]?=some t→∀y,CutRun a asid ⟨R,S.M,S.p,S.l⟩ (out.take i) y→CutPre fr a y.R t) :
  Ret prog 44 #[.pointer (some ⟨J.e,0,none⟩),.int .u64 (a:Int),.int .i64 asid,.slice q vas.length c] w fun v w'=>∃(e:Nat) (S':St) (ro':Ro),v=.int .i64 (e:Int)∧CutE S a asid vas e S'∧RExt w ro ro'∧Sys w' ro' J fr n S'∧FrR ro w w':=by
 refine F44_of _ _ _ _ _ _ _ _ ?_
 unfold F44;try dsimp only [Liuviiubb,S_8,Uib,Upsi,lb_,li_,ls_,ub_,ui_,up_,us_]
 refine Ret.use (f53 hS hI a hso asid 0 0 true false hq hv hvl) ?_
 rintro _ w2 ⟨f2,⟨e,rfl,he⟩|⟨R,out,p,c',rfl,hok,hsl2⟩⟩
 ·simp only [sb_,Nat.reduceAdd]
  refine BIf_ne (fun _=>?_) (fun h=>absurd (by omega) he.ne)
  exact⟨e,S,ro,rfl,.inl ⟨he.ne,he,rfl⟩,RExt.refl _ _,hS.fr0 f2,f2.mono fun _ _ h=>h.elim⟩
 simp only [sb_,Nat.reduceAdd]
 refine BIf_ne (fun h=>absurd rfl h) (fun _=>?_)
 have hm:=root_mem hok.1
 have hol':=hol R out hok
 have hself:updR S.roots a R=S.roots:=updR_self hS.ed.nd hm
 have hS2:Sys w2 (ro.cut w) J fr n ((⟨R,S.M,S.p,S.l⟩:Xs).st S.roots a):=by
  show Sys w2 (ro.cut w) J fr n ⟨S.M,S.p,S.l,updR S.roots a R⟩
  rw [hself];exact (hS.ext RExt.cut).fr0 f2
 have hpr:∀b,On p b→((ro.cut w) b).1=0:=fun b hb=>Ro.cut_new (hsl2.lt b hb).1
 refine Loop.by (fun s w'=>∃(i:Nat) (y:Xs) (ro':Ro),i≤out.length∧s=[.int .i64 (i:Int)]∧CutRun a asid ⟨R,S.M,S.p,S.l⟩ (out.take i) y∧RExt w2 (ro.cut w) ro'∧Sys w' ro' J fr n (y.st S.roots a)∧FrR (ro.cut w) w2 w')
  (fun s _=>match s with | [.int _ i]=>out.length-i.toNat|_=>0) ⟨0,_,_,by omega,rfl,.nil,RExt.refl _ _,hS2,Fr.refl _ _⟩ ?_
 rintro _ w3 ⟨i,y,ro3,hi,rfl,hrun,E3,hS3,F3⟩
 simp only [UnC_cons,UnN_nil,AsI_int]
 refine BIf_cases (fun hlt=>?_) (fun hge=>?_)
 ·obtain⟨t,ht⟩:∃t,out[i]?=some t:=⟨out[i]'(by omega),List.getElem?_eq_getElem _⟩
  have P:=hpre R out hok i t ht y hrun
  have hva:t.va<2^32:=P.wf
  have htake:out.take (i+1)=out.take i++[t]:=by rw [List.take_add_one,ht];rfl
  have hrb:=hrun.ids.1
  have hcs:(out.take (i+1))=out.take i++[t]:=htake
  refine Join.at (fun s w'=>s=[]∧∃(z:Xs) (ro':Ro),CutStep a asid t y z∧RExt w2 (ro.cut w) ro'∧Sys w' ro' J fr n (z.st S.roots a)∧FrR (ro.cut w) w2 w') ?_ ?_
  ·refine tr_ld (hsl2.rd.fr F3 fun b hb h=>h (hpr b hb)) rfl ht hlt ?_
   refine New8 (fun w4 n4 f4 s4=>?_)
   have E4:RExt w3 ro3 (ro3.cut w3):=RExt.cut
   have hS4:=(hS3.ext E4).fr0 f4
   have htb:((ro3.cut w3) w3.heap.size).1=0:=Ro.cut_new (Nat.le_refl _)
   have hm4:(a,y.R)∈updR S.roots a y.R:=updR_mem hm
   have hrb':R.rb=y.R.rb:=hrb.symm
   rw [hrb']
   try simp only [n4.ld_iff,sb_,Nat.reduceAdd]
   refine Ret.use (f54 hS4 hm4 t hva (x:=0) (by decide) hfr P.reps P.tl ha P.place) ?_
   rintro _ w5 ⟨rfl,ro5,E5,hS5,F5⟩
   simp only [sb_,Nat.reduceAdd]
   have n5:=n4.fr F5 (fun h=>by rw [htb] at h;simp at h)
   have htb5:(ro5 w3.heap.size).1=0:=by rw [E5 _ n4.lt];exact htb
   try simp only [n5.ld_iff,sb_,Nat.reduceAdd]
   refine Ret.use (f55 hS5 1 (.inl rfl) _) ?_
   rintro _ w6 ⟨rfl,ro6,E6,hS6,F6⟩
   simp only [sb_,Nat.reduceAdd]
   have n6:=n5.fr F6 (fun h=>by rw [htb5] at h;simp at h)
   have htb6:(ro6 w3.heap.size).1=0:=by rw [E6 _ n5.lt];exact htb5
   try simp only [n6.ld_iff,sb_,Nat.reduceAdd]
   refine Ret.use (f66 hS6.gl (hS6.ed.root _ hm4) P.sorted (by have:=P.len;show y.R.blocks.length≤_;omega) P.wfs t.va hva) ?_
   rintro _ w7 ⟨rfl,f7⟩
   simp only [sb_,Nat.reduceAdd]
   have hS7:=hS6.fr0 f7
   have n7:=n6.fr0 f7
   obtain⟨p7,c7,h71,h72,h73⟩:=(hS7.ed.root _ hm4).st
   have hix:=P.ix
   have hbl:=P.len
   try simp only [h71.ld_iff,sb_,Nat.reduceAdd]
   rw [w64 (n:=(((findR y.R.blocks t.va).1:Nat):Int)+1) (by omega) (by omega)]
   have hf88:=f88 h72 (by show y.R.blocks.length≤_;omega) (findR y.R.blocks t.va).1 hix
   refine Ret.use hf88 ?_
   rintro _ w8 ⟨rfl,h82,F8⟩
   rw [AsSl_slice]
   have h81:=h71.fr F8 (fun h=>by
    have h9:=h73 _ h
    have h9':=(hS7.ed.root _ hm4).rr
    rw [h9] at h9';cases h9')
   have htb7:¬On p7 w3.heap.size:=fun h=>by have:=h73 _ h;rw [this] at htb6;cases htb6
   have n8:=n7.fr F8 htb7
   refine h81.st (by simp) rfl fun w9 n9 F9 s9=>?_
   have hne9:w3.heap.size≠y.R.rb:=fun h=>by
    have h9':=(hS7.ed.root _ hm4).rr
    rw [←h] at h9';rw [show ro6 w3.heap.size=(17,a) from h9'] at htb6;cases htb6
   have n9':=n8.fr F9 hne9
   have hel:(y.R.blocks.eraseIdx (findR y.R.blocks t.va).1).length=y.R.blocks.length-1:=List.length_eraseIdx_of_lt hix
   obtain⟨ro9,E9,hS9,G9⟩:=hS7.blocksT hm4 (blocks:=y.R.blocks.eraseIdx (findR y.R.blocks t.va).1) h71 h72 h73 (by rw [hel];exact h82) F8 (fun b hb=>.inl hb) (by rw [hel];simpa using n9) F9
   have K6:FrR (ro3.cut w3) w4 w6:=FrR.then (F5.R (by decide)) E5 (F6.R (by decide))
   have KE6:RExt w4 (ro3.cut w3) ro6:=fun x hx=>(E6 x (by have:=F5.size;omega)).trans (E5 x hx)
   have K7:FrR (ro3.cut w3) w4 w7:=K6.trans (f7.mono fun _ _ h=>h.elim)
   have K9:FrR (ro3.cut w3) w4 w9:=FrR.then K7 KE6 G9
   have KE9:RExt w4 (ro3.cut w3) ro9:=fun x hx=>(E9 x (by have:=K7.size;omega)).trans (KE6 x hx)
   have L9:FrR (ro.cut w) w2 w9:=F3.then E3 (FrR.then (f4.mono fun _ _ h=>h.elim) E4 K9)
   have z3:=F3.size
   have z4:=f4.size
   have LE9:RExt w2 (ro.cut w) ro9:=fun x hx=>(KE9 x (by omega)).trans ((E4 x (by omega)).trans (E3 x hx))
   have hS9':Sys w9 ro9 J fr n ((⟨cutR y.R t,cutM a asid y.R y.M t,y.p,y.l⟩:Xs).st S.roots a):=by
    show Sys w9 ro9 J fr n ⟨cutM a asid y.R y.M t,y.p,y.l,updR S.roots a (cutR y.R t)⟩
    rw [←updR_upd S.roots a y.R (cutR y.R t)]
    exact hS9
   try simp only [n9'.ld_iff,sb_,Nat.reduceAdd]
   refine Ret.use (f89 t) ?_
   rintro _ w10 ⟨rfl,f10⟩
   rw [AsB_bool]
   have hS10:=hS9'.fr0 f10
   have L10:FrR (ro.cut w) w2 w10:=L9.trans (f10.mono fun _ _ h=>h.elim)
   have n10:=n9'.fr0 f10
   have hmz:(a,cutR y.R t)∈updR S.roots a (cutR y.R t):=updR_mem hm
   refine BIf_b (fun hpg=>?_) (fun hpg=>?_)
   ·obtain⟨pa,ca,ha1,ha2,ha3⟩:=(hS10.ed.root _ hmz).st
    have ha1':Has w10 y.R.rb _:=ha1
    refine ha1'.ld rfl (AsSl_slice.2 ?_)
    have hwfz:∀b∈(cutR y.R t).blocks,b.va<2^32:=fun b hb=>P.wfs b (List.mem_of_mem_eraseIdx hb)
    refine Ret.use (f90 ha2.rd (by have:=List.length_eraseIdx_le y.R.blocks (findR y.R.blocks t.va).1;show (y.R.blocks.eraseIdx _).length≤_;omega) (pr:=fun b=>b.paged && decide (b.mib=t.mib)) (fun b hb w' f' K hK=>fny91 b t (n10.fr0 f') (hwfz b hb) hva K hK)) ?_
    rintro _ w11 ⟨rfl,f11⟩
    rw [AsB_bool]
    have hS11:=hS10.fr0 f11
    have n11:=n10.fr0 f11
    have L11:FrR (ro.cut w) w2 w11:=L10.trans (f11.mono fun _ _ h=>h.elim)
    refine BIf_not.2 (BIf_b (fun hany=>?_) (fun hany=>?_))
    ·exact⟨by trivial,_,ro9,.keep y (by unfold lastIn;rw [hany];simp),LE9,hS11,L11⟩
    ·obtain⟨T,hT⟩:=P.tab hpg
     try simp only [n11.ld_iff,sb_,Nat.reduceAdd]
     rw [mib_wrap hva]
     have hmib:t.mib<4096:=by unfold Tr.mib;omega
     refine Ret.use (f58 hS11 hmz (m:=t.mib) (T:=T) hmib hT (P.tl T hT) hfr P.hook) ?_
     rintro _ w12 ⟨rfl,ro12,e,p',l',hd,E12,hS12,G12⟩
     simp only [sb_,Nat.reduceAdd]
     refine⟨by trivial,_,ro12,.shut y (by unfold lastIn;rw [hpg,hany];rfl) T e p' l' hT hd,fun x hx=>(E12 x (by have:=L11.size;omega)).trans (LE9 x hx),?_,FrR.then L11 LE9 G12⟩
     show Sys w12 ro12 J fr n ⟨_,p',l',updR S.roots a (unTab (cutR y.R t) t.mib)⟩
     rw [←updR_upd S.roots a (cutR y.R t) (unTab (cutR y.R t) t.mib)]
     exact hS12
   ·exact⟨by trivial,_,ro9,.keep y (by unfold lastIn;rw [hpg];rfl),LE9,hS10,L10⟩
  ·rintro _ w5 ⟨rfl,z,ro5,hcs,E5,hS5,F5⟩
   rw [UnN_nil,w64 (n:=(i:Int)+1) (by omega) (by omega)]
   exact⟨⟨i+1,z,ro5,by omega,rfl,by rw [htake];exact .snoc hrun hcs,E5,hS5,F5⟩,(by first|omega|(simp only [Int.toNat_natCast];omega))⟩
 ·obtain rfl:i=out.length:=by omega
  rw [List.take_length] at hrun
  exact⟨0,_,ro3,rfl,.inr ⟨rfl,R,out,y,hok,hrun,rfl⟩,fun x hx=>(E3 x (by have:=f2.size;omega)).trans (RExt.cut x hx),hS3,FrR.then (f2.mono fun _ _ h=>h.elim) RExt.cut F3⟩
theorem set8 (xs:List Value) (o:Nat) (h:o+8≤xs.length) (v0 v1 v2 v3 v4 v5 v6 v7:Value) :
  (((((((xs.set o v0).set (o+1) v1).set (o+2) v2).set (o+3) v3).set (o+4) v4).set (o+5) v5).set (o+6) v6).set (o+7) v7=xs.take o++[v0,v1,v2,v3,v4,v5,v6,v7]++xs.drop (o+8):=by
 have hlen:(xs.take o).length=o:=by rw [List.length_take];omega
 apply List.ext_getElem?
 intro j
 by_cases h1:j<o
 ·rw [List.append_assoc,List.getElem?_append_left (by omega),List.getElem?_take,if_pos h1]
  simp only [List.getElem?_set]
  rw [if_neg (by omega),if_neg (by omega),if_neg (by omega),if_neg (by omega),if_neg (by omega),if_neg (by omega),if_neg (by omega),if_neg (by omega)]
 ·by_cases h2:j<o+8
  ·obtain⟨k,rfl⟩:∃k,j=o+k:=⟨j-o,by omega⟩
   rw [List.append_assoc,List.getElem?_append_right (by omega),hlen,Nat.add_sub_cancel_left,List.getElem?_append_left (by simp;omega)]
   have hk:k=0∨k=1∨k=2∨k=3∨k=4∨k=5∨k=6∨k=7:=by omega
   rcases hk with rfl|rfl|rfl|rfl|rfl|rfl|rfl|rfl<;>simp [List.getElem?_set]<;>omega
  ·rw [List.getElem?_append_right (by simp [hlen];omega)]
   simp only [List.getElem?_set]
   rw [if_neg (by omega),if_neg (by omega),if_neg (by omega),if_neg (by omega),if_neg (by omega),if_neg (by omega),if_neg (by omega),if_neg (by omega),List.getElem?_drop]
   congr 1
   simp [hlen]
   omega
theorem trCells_set {l:List Tr} {i:Nat} (hi:i<l.length) (t':Tr):trCells (l.set i t')=(trCells l).take (i*8)++t'.cells++(trCells l).drop (i*8+8):=by
 rw [List.set_eq_take_append_cons_drop,if_pos hi,trCells_app,trCells_cons,trCells_take,show i*8+8=(i+1)*8 by omega,trCells_drop,List.append_assoc]
theorem tr_st {w:World} {p:Option Addr} {n c:Nat} {l:List Tr} (h:Sl w 0 57 8 p n c (trCells l)) (hn:0<n) {i:Nat} (hi:i<l.length) (t':Tr) {e N:Int} (he:e=(i:Int)) (hN:(i:Int)<N) {K:World→Prop}
  (k:∀w',Sl w' 0 57 8 p n c (trCells (l.set i t'))→Fr (On p) w w'→w'.heap.size=w.heap.size→K w') :
  NilP p fun a=>0≤e∧e<N∧Sh.St w (at0 a (e.toNat*8)) (.int .i64 t'.size) fun w1=>Sh.St w1 (at0 (at0 a (e.toNat*8)) 1) (.int .u32 (t'.va:Int)) fun w2=>Sh.St w2 (at0 (at0 a (e.toNat*8)) 2) (.int .u64 (t'.pa:Int)) fun w3 =>
   Sh.St w3 (at0 (at0 a (e.toNat*8)) 3) (.int .i64 t'.dom) fun w4=>Sh.St w4 (at0 (at0 a (e.toNat*8)) 4) (.int .i64 t'.ap) fun w5=>Sh.St w5 (at0 (at0 a (e.toNat*8)) 5) (.int .u32 (t'.bits:Int)) fun w6 =>
   Sh.St w6 (at0 (at0 a (e.toNat*8)) 6) (.bool t'.ng) fun w7=>Sh.St w7 (at0 (at0 a (e.toNat*8)) 7) (.bool t'.xn) fun w8=>K w8:=by
 subst he
 obtain⟨g,sp,rfl,_,_⟩:=h.some_ hn
 have hl:=trCells_len l
 rw [NilP_some]
 simp only [at0_mk,Int.toNat_natCast,Nat.zero_add]
 refine⟨by omega,hN,?_⟩
 refine h.st rfl (by omega) rfl fun w1 h1 f1 s1=>?_
 refine h1.st rfl (by simp;omega) rfl fun w2 h2 f2 s2=>?_
 refine h2.st rfl (by simp;omega) rfl fun w3 h3 f3 s3=>?_
 refine h3.st rfl (by simp;omega) rfl fun w4 h4 f4 s4=>?_
 refine h4.st rfl (by simp;omega) rfl fun w5 h5 f5 s5=>?_
 refine h5.st rfl (by simp;omega) rfl fun w6 h6 f6 s6=>?_
 refine h6.st rfl (by simp;omega) rfl fun w7 h7 f7 s7=>?_
 refine h7.st rfl (by simp;omega) rfl fun w8 h8 f8 s8=>?_
 refine k w8 ?_ (((((((f1.trans f2).trans f3).trans f4).trans f5).trans f6).trans f7).trans f8) (by omega)
 rw [set8 _ _ (by omega)] at h8
 rw [trCells_set hi]
 exact h8
def Tr.leaf (t:Tr) (ap:Int) (bits:Nat) (ng xn:Bool):Tr:={ t with ap:=ap,bits:=bits,ng:=ng,xn:=xn }
def chgR (R:RootS) (t t':Tr):RootS:={ R with blocks:=R.blocks.set (findR R.blocks t.va).1 t' }
def chgM (a:Nat) (asid:Int) (R:RootS) (M:Mst) (t t':Tr):Mst:=pokes (cutM a asid R M t) (placeOf R a t') (wordN t') (reps t'.size)
def chgN (a:Nat) (asid:Int) (f:Tr→Tr):List Tr→RootS×Mst→RootS×Mst
 | [],s=>s
 | t :: r,s=>chgN a asid f r (chgR s.1 t (f t),chgM a asid s.1 s.2 t (f t))
theorem chgN_snoc (a:Nat) (asid:Int) (f:Tr→Tr):∀(l:List Tr) (s:RootS×Mst) (t:Tr),chgN a asid f (l++[t]) s=(chgR (chgN a asid f l s).1 t (f t),chgM a asid (chgN a asid f l s).1 (chgN a asid f l s).2 t (f t))
 | [],s,t=>rfl
 | x :: r,s,t=>chgN_snoc a asid f r _ t
theorem chgN_ids (a:Nat) (asid:Int) (f:Tr→Tr):∀(l:List Tr) (s:RootS×Mst),(chgN a asid f l s).1.rb=s.1.rb∧(chgN a asid f l s).1.tm=s.1.tm
 | [],s=>⟨rfl,rfl⟩
 | x :: r,s=>chgN_ids a asid f r _
def ChgE (S:St) (a:Nat) (asid ap:Int) (bits:Nat) (ng xn:Bool) (vas:List Nat) (e:Nat) (S':St):Prop :=
 (e≠0∧ChoErr S a asid ap bits ng vas e∧S'=S) ∨
 (e=0∧∃R out,ChoOk S a asid ap bits ng vas R out∧S'=⟨(chgN a asid (fun t=>t.leaf ap bits ng xn) out (R,S.M)).2,S.p,S.l,updR S.roots a (chgN a asid (fun t=>t.leaf ap bits ng xn) out (R,S.M)).1⟩)
structure ChgPre (fr a:Nat) (R:RootS) (t:Tr):Prop where
 reps:reps t.size=1∨reps t.size=16
 wf:t.wf
 tl:∀v,tab? R.tabs t.mib=some v→v<2^30
 place:∀i,i<Go.Proofs.YtmgjicnipgdjhaaGreatDoor.reps t.size→wErr fr (placeOf R a t+4*i)=0
 sorted:R.blocks.Pairwise fun a b=>a.va<b.va
 wfs:∀b∈R.blocks,b.wf
 len:R.blocks.length≤100000000000
 ix:(findR R.blocks t.va).1<R.blocks.length
theorem f45 {w:World} {ro:Ro} {J:Ids} {fr n:Nat} {S:St} (hS:Sys w ro J fr n S) (hI:Std n S) (hfr:fr≤65536) (a:Nat) (ha:a<2^40) (hso:∀R,root? S.roots a=some R→R.blocks.Pairwise fun a b=>a.va<b.va) (asid ap:Int) (bits:Nat) (ng xn:Bool)
  {q:Option Addr} {c:Nat} {vas:List Nat} (hq:Rd w q (vas.map fun v=>Value.int .u32 ((v:Nat):Int))) (hv:∀v∈vas,v<4294967296) (hvl:vas.length≤100000000000000) (hol:∀R out,ChoOk S a asid ap bits ng vas R out→out.length≤1000000000)
  (hpre:∀R out,ChoOk S a asid ap bits ng vas R out→∀i t,out[i]?=some t→ChgPre fr a (chgN a asid (fun t=>t.leaf ap bits ng xn) (out.take i) (R,S.M)).1 t∧(t.leaf ap bits ng xn).right=true) :
  Ret prog 45 #[.pointer (some ⟨J.e,0,none⟩),.int .u64 (a:Int),.int .i64 asid,.agg #[.int .i64 ap,.int .u32 (bits:Int),.bool ng,.bool xn],.slice q vas.length c] w fun v w'=>∃(e:Nat) (S':St) (ro':Ro),v=.int .i64 (e:Int)∧ChgE S a asid ap bits ng xn vas e S'∧RExt w ro ro'∧Sys w' ro' J fr n S'∧FrR ro w w':=by
 refine F45_of _ _ _ _ _ _ _ _ _ _ _ _ ?_
 unfold F45;try dsimp only [C_8,Liubb,Liuviiubb,S_4,S_8,Uib,Upsi,ce_,lb_,li_,ls_,ub_,ui_,up_,us_]
 refine New.mk fun w1 n1 f1 s1=>?_
 have E1:RExt w ro (ro.cut w):=RExt.cut
 have hS1:=(hS.ext E1).fr0 f1
 have hlf:((ro.cut w) w.heap.size).1=0:=Ro.cut_new (Nat.le_refl _)
 try simp only [n1.ld_iff,sb_,Nat.reduceAdd]
 refine Ret.use (f53 hS1 hI a hso asid ap bits ng xn (hq.fr0 f1) hv hvl) ?_
 rintro _ w2 ⟨f2,⟨e,rfl,he⟩|⟨R,out,p,c',rfl,hok,hsl2⟩⟩
 ·simp only [sb_,Nat.reduceAdd]
  refine BIf_ne (fun _=>?_) (fun h=>absurd (by omega) he.ne)
  exact⟨e,S,ro,rfl,.inl ⟨he.ne,he,rfl⟩,RExt.refl _ _,hS.fr0 (f1.trans f2),(f1.trans f2).mono fun _ _ h=>h.elim⟩
 simp only [sb_,Nat.reduceAdd]
 refine BIf_ne (fun h=>absurd rfl h) (fun _=>?_)
 have hm:=root_mem hok.1
 have hol':=hol R out hok
 have hself:updR S.roots a R=S.roots:=updR_self hS.ed.nd hm
 obtain⟨lf,hlf0⟩:∃lf:Tr→Tr,lf=fun t=>t.leaf ap bits ng xn:=⟨_,rfl⟩
 have E2:RExt w1 (ro.cut w) ((ro.cut w).cut w1):=RExt.cut
 have hS2:Sys w2 ((ro.cut w).cut w1) J fr n ⟨S.M,S.p,S.l,updR S.roots a R⟩:=by
  rw [hself];exact (hS1.ext E2).fr0 f2
 have n2:=n1.fr0 f2
 have hlf2:(((ro.cut w).cut w1) w.heap.size).1=0:=by rw [E2 _ n1.lt];exact hlf
 have hpr:∀b,On p b→(((ro.cut w).cut w1) b).1=0:=fun b hb=>Ro.cut_new (hsl2.lt b hb).1
 refine Loop.by (fun s w'=>∃(i:Nat) (ro':Ro),i≤out.length∧s=[.int .i64 (i:Int)]∧RExt w2 ((ro.cut w).cut w1) ro'∧Sys w' ro' J fr n ⟨(chgN a asid lf (out.take i) (R,S.M)).2,S.p,S.l,updR S.roots a (chgN a asid lf (out.take i) (R,S.M)).1⟩∧FrR ((ro.cut w).cut w1) w2 w')
  (fun s _=>match s with | [.int _ i]=>out.length-i.toNat|_=>0) ⟨0,_,by omega,rfl,RExt.refl _ _,hS2,Fr.refl _ _⟩ ?_
 rintro _ w3 ⟨i,ro3,hi,rfl,E3,hS3,F3⟩
 simp only [UnC_cons,UnN_nil,AsI_int]
 refine BIf_cases (fun hlt=>?_) (fun hge=>?_)
 ·obtain⟨t,ht⟩:∃t,out[i]?=some t:=⟨out[i]'(by omega),List.getElem?_eq_getElem _⟩
  obtain⟨P,hrt⟩:=hpre R out hok i t ht
  rw [←hlf0] at P
  have hva:t.va<2^32:=P.wf
  have htake:out.take (i+1)=out.take i++[t]:=by rw [List.take_add_one,ht];rfl
  have hnext:=chgN_snoc a asid lf (out.take i) (R,S.M) t
  rw [←htake] at hnext
  have hids:=chgN_ids a asid lf (out.take i) (R,S.M)
  generalize hst':chgN a asid lf (out.take i) (R,S.M)=st at *
  obtain⟨Ri,Mi⟩:=st
  simp only at hids hS3 P hnext
  refine tr_ld (hsl2.rd.fr F3 fun b hb h=>h (hpr b hb)) rfl ht hlt ?_
  refine New8 (fun w4 n4 f4 s4=>?_)
  have E4:RExt w3 ro3 (ro3.cut w3):=RExt.cut
  have hS4:=(hS3.ext E4).fr0 f4
  have htb:((ro3.cut w3) w3.heap.size).1=0:=Ro.cut_new (Nat.le_refl _)
  have hm4:(a,Ri)∈updR S.roots a Ri:=updR_mem hm
  have n34:=(n2.fr F3 (fun h=>h hlf2)).fr0 f4
  have hlf4:((ro3.cut w3) w.heap.size).1=0:=by rw [E4 _ ((n2.fr F3 (fun h=>h hlf2)).lt),E3 _ n2.lt];exact hlf2
  rw [←hids.1]
  try simp only [n4.ld_iff,sb_,Nat.reduceAdd]
  refine Ret.use (f54 hS4 hm4 t hva (x:=0) (by decide) hfr P.reps P.tl ha P.place) ?_
  rintro _ w5 ⟨rfl,ro5,E5,hS5,F5⟩
  simp only [sb_,Nat.reduceAdd]
  have n5:=n4.fr F5 (fun h=>by rw [htb] at h;simp at h)
  have n35:=n34.fr F5 (fun h=>by rw [hlf4] at h;simp at h)
  have htb5:(ro5 w3.heap.size).1=0:=by rw [E5 _ n4.lt];exact htb
  have hlf5:(ro5 w.heap.size).1=0:=by rw [E5 _ n34.lt];exact hlf4
  try simp only [n5.ld_iff,sb_,Nat.reduceAdd]
  refine Ret.use (f55 hS5 1 (.inl rfl) _) ?_
  rintro _ w6 ⟨rfl,ro6,E6,hS6,F6⟩
  simp only [sb_,Nat.reduceAdd]
  have n6:=n5.fr F6 (fun h=>by rw [htb5] at h;simp at h)
  have n36:=n35.fr F6 (fun h=>by rw [hlf5] at h;simp at h)
  have htb6:(ro6 w3.heap.size).1=0:=by rw [E6 _ n5.lt];exact htb5
  try simp only [n36.ld_iff,sb_,Nat.reduceAdd]
  refine n6.st (by simp) rfl fun w7 n7 f7 s7=>?_
  refine n7.st (by simp) rfl fun w8 n8 f8 s8=>?_
  refine n8.st (by simp) rfl fun w9 n9 f9 s9=>?_
  refine n9.st (by simp) rfl fun w10 n10 f10 s10=>?_
  obtain⟨t',ht'⟩:∃t':Tr,t'=t.leaf ap bits ng xn:=⟨_,rfl⟩
  have ht2:lf t=t':=by rw [hlf0,ht']
  have n10':Has w10 w3.heap.size [.int .i64 t'.size,.int .u32 (t'.va:Int),.int .u64 (t'.pa:Int),.int .i64 t'.dom,.int .i64 t'.ap,.int .u32 (t'.bits:Int),.bool t'.ng,.bool t'.xn]:=by
   rw [ht'];simpa [Tr.leaf] using n10
  have e1:t'.size=t.size:=by rw [ht'];rfl
  have e2:t'.va=t.va:=by rw [ht'];rfl
  have e3:t'.paged=t.paged:=by unfold Tr.paged;rw [e1]
  have e4:placeOf Ri a t'=placeOf Ri a t:=by unfold placeOf Tr.mib;rw [e2,e3]
  have hrt':t'.right=true:=by rw [ht'];exact hrt
  have f610:Fr (·=w3.heap.size) w6 w10:=((f7.trans f8).trans f9).trans f10
  have hS10:=hS6.frO f610 (fun x hx=>by rw [show x=_ from hx];exact htb6) (fun x hx h=>by have h:x=w3.heap.size:=h;have:=hS3.gl.gr.size;omega)
  try simp only [n10'.ld_iff,sb_,Nat.reduceAdd]
  refine Ret.use (f65 hS10.gl.gd.drew t' (by rw [e2];exact hva) hrt') ?_
  rintro _ w11 ⟨rfl,f11⟩
  replace f11:=f11.of_drew
  rw [AsI_int]
  have n11:=n10'.fr0 f11
  refine⟨⟨n11.cell.trans rfl,n11.cell.trans rfl,n11.cell.trans rfl,n11.cell.trans rfl,n11.cell.trans rfl,n11.cell.trans rfl,n11.cell.trans rfl,n11.cell.trans rfl,trivial⟩,?_⟩
  have hS11:=hS10.fr0 f11
  rw [←wordN_eq]
  refine Ret.use (f54 hS11 hm4 t' (by rw [e2];exact hva) (wordN_lt t') hfr (by rw [e1];exact P.reps) (by unfold Tr.mib;rw [e2];exact P.tl) ha (by rw [e4,e1];exact P.place)) ?_
  rintro _ w12 ⟨rfl,ro12,E12,hS12,F12⟩
  simp only [sb_,Nat.reduceAdd]
  have n12:=n11.fr F12 (fun h=>by rw [htb6] at h;simp at h)
  have htb12:(ro12 w3.heap.size).1=0:=by rw [E12 _ n11.lt];exact htb6
  try simp only [n12.ld_iff,sb_,Nat.reduceAdd]
  rw [e2]
  refine Ret.use (f66 hS12.gl (hS12.ed.root _ hm4) P.sorted (by have:=P.len;show Ri.blocks.length≤_;omega) P.wfs t.va hva) ?_
  rintro _ w13 ⟨rfl,f13⟩
  simp only [sb_,Nat.reduceAdd]
  have hS13:=hS12.fr0 f13
  have n13:=n12.fr0 f13
  obtain⟨p7,c7,h71,h72,h73⟩:=(hS13.ed.root _ hm4).st
  have hix:=P.ix
  have h71':Has w13 Ri.rb _:=h71
  refine h71'.drew.ld rfl (AsSl_slice.2 ?_)
  try simp only [n13.ld_iff,sb_,Nat.reduceAdd]
  refine tr_st (h72.qt (Qt.refl w13).drew) (by show 0<Ri.blocks.length;omega) hix t' rfl (by show _<(Ri.blocks.length:Int);omega) fun w14 h14 f14 s14=>?_
  replace f14:=f14.of_drew
  rw [w64 (n:=(i:Int)+1) (by omega) (by omega)]
  have h714:=h71.fr f14 (fun h=>by
   have h9:=h73 _ h
   have h9':=(hS13.ed.root _ hm4).rr
   rw [h9] at h9';cases h9')
  obtain⟨ro14,E14,hS14,G14⟩:=hS13.blocksT hm4 (blocks:=Ri.blocks.set (findR Ri.blocks t.va).1 t') h71 h72 h73 (by rw [List.length_set];exact h14) f14 (fun b hb=>.inl hb) (by rw [List.length_set];exact h714) (Fr.refl _ _)
  have K6:FrR (ro3.cut w3) w4 w6:=FrR.then (F5.R (by decide)) E5 (F6.R (by decide))
  have KE6:RExt w4 (ro3.cut w3) ro6:=fun x hx=>(E6 x (by have:=F5.size;omega)).trans (E5 x hx)
  have hz34:w3.heap.size<w4.heap.size:=n4.lt
  have K11:Fr (fun b=>((ro3.cut w3) b).1≠0∨b=w3.heap.size) w4 w11:=((K6.mono fun _ _ h=>.inl h).thenS f610 fun x _ hx=>.inr hx).trans (f11.mono fun _ _ h=>h.elim)
  have K13:Fr (fun b=>((ro3.cut w3) b).1≠0∨b=w3.heap.size) w4 w13:=(K11.thenS F12 fun x hx h=>.inl (by rw [←KE6 x hx];intro e;rw [e] at h;simp at h)).trans (f13.mono fun _ _ h=>h.elim)
  have KE12:RExt w4 (ro3.cut w3) ro12:=fun x hx=>(E12 x (by have:=K11.size;omega)).trans (KE6 x hx)
  have K14:Fr (fun b=>((ro3.cut w3) b).1≠0∨b=w3.heap.size) w4 w14:=K13.thenS G14 fun x hx h=>.inl (by rw [←KE12 x hx];exact h)
  have KE14:RExt w4 (ro3.cut w3) ro14:=fun x hx=>(E14 x (by have:=K13.size;omega)).trans (KE12 x hx)
  have M14:FrR ro3 w3 w14:=⟨K14.os.trans f4.os,K14.output.trans f4.output,K14.tape.trans f4.tape,Nat.le_trans f4.size K14.size,fun b hb hn=>(K14.block b (by omega) (by
   rintro (h|h)
   ·rw [E4 b hb] at h;exact hn h
   ·omega)).trans (f4.block b hb fun h=>h)⟩
  refine⟨⟨i+1,ro14,by omega,rfl,fun x hx=>?_,?_,F3.then E3 M14⟩,(by first|omega|(simp only [Int.toNat_natCast];omega))⟩
  ·have:=F3.size
   rw [KE14 x (by omega),E4 x (by omega),E3 x hx]
  ·rw [hnext,ht2]
   show Sys w14 ro14 J fr n ⟨chgM a asid Ri Mi t t',S.p,S.l,updR S.roots a (chgR Ri t t')⟩
   rw [←updR_upd S.roots a Ri (chgR Ri t t')]
   exact hS14
 ·obtain rfl:i=out.length:=by omega
  rw [List.take_length] at hS3
  have f02:=f1.trans f2
  refine⟨0,_,ro3,rfl,.inr ⟨rfl,R,out,hok,rfl⟩,fun x hx=>?_,by rw [←hlf0];exact hS3,?_⟩
  ·rw [E3 x (by have:=f02.size;omega),E2 x (by have:=f1.size;omega),E1 x hx]
  ·exact⟨F3.os.trans f02.os,F3.output.trans f02.output,F3.tape.trans f02.tape,Nat.le_trans f02.size F3.size,fun b hb hn=>(F3.block b (by have:=f02.size;omega) (by rw [E2 b (by have:=f1.size;omega),E1 b hb];exact hn)).trans (f02.block b hb fun h=>h)⟩
theorem f49 {w:World} (m:Option Nat):Ret prog 49 #[.map m] w fun v w'=>v=.func (.func 98) #[] #[.pointer (some ⟨w.heap.size,0,none⟩)]∧Has w' w.heap.size [.map m]∧Fr0 w w'∧w'.heap.size=w.heap.size+1:=by
 refine F49_of _ _ _ ?_
 unfold F49
 exact New.mk fun w1 n1 f1 s1=>⟨rfl,n1,f1,s1⟩
theorem f98 {w:World} {y:Value} {ma rm:Nat} {L:List (Int×Value)} (h:Has w ma [.map (some rm)]) (hm:MapIs w rm .u64 L) (J:List Int→World→Prop) (h0:∀w',Fr0 w w'→w'.heap.size=w.heap.size+1→J [] w')
  (hr:∀acc w' w'',J acc w'→Fr (·=w.heap.size) w' w''→w''.heap.size=w'.heap.size→J acc w'')
  (step:∀acc x w',J acc w'→acc.length<L.length→∀K:Value→World→Prop,(∀w'',J (acc++[x]) w''→Fr (fun b=>b≠w.heap.size∧b≠rm) w' w''→K (.bool true) w'')→FnY prog y [.int .u64 x] w' K) :
  Ret prog 98 #[y,.pointer (some ⟨ma,0,none⟩)] w fun v w'=>∃acc,List.Perm acc (L.map (·.1))∧J acc w':=by
 have hrm:=mapIs_lt hm
 refine F98c_of _ _ _ _ ?_
 unfold F98c;try dsimp only [lm_]
 refine h.ld rfl (AsM_map.2 ?_)
 refine range_ok T120.und hm fun w1 l1 f1 s1=>?_
 refine⟨_,rfl,?_⟩
 refine Loop.by (fun s w'=>s=[]∧∃acc left,LeftAt w' w.heap.size rm .u64 L left∧(acc++left.map (·.1)).Perm (L.map (·.1))∧J acc w') (fun _ w'=>L.length-seenN w' w.heap.size) ⟨rfl,[],L,l1,List.Perm.refl _,h0 w1 f1 s1⟩ ?_
 rintro _ w2 ⟨rfl,acc,left,l2,hp,hJ⟩
 rw [UnN_nil]
 refine next_ok l2 (fun he=>?_) (fun q1 x q2 he w3 l3 f3 s3 hs3 hent=>?_)
 ·refine .inl ⟨rfl,acc,?_,hJ⟩
  rw [he] at hp;simpa using hp
 ·refine .inr ⟨_,_,rfl,?_⟩
  refine hent _ ⟨_,_,rfl,AsI_int.2 ?_⟩
  refine step acc x.1 w3 (hr acc w2 w3 hJ f3 s3) (by have:=hp.length_eq;rw [he] at this;simp at this;omega) _ fun w4 hJ4 f4=>?_
  rw [AsB_bool]
  simp only [Bool.not_true,BIf_false]
  refine⟨⟨by trivial,acc++[x.1],q1++q2,l3.fr f4 (fun h=>h.1 rfl) (fun h=>h.2 rfl),?_,hJ4⟩,?_⟩
  ·refine List.Perm.trans ?_ hp
   rw [he,List.map_append,List.map_append,List.map_cons,List.append_assoc]
   refine List.Perm.append_left _ ?_
   rw [List.singleton_append]
   exact List.perm_middle.symm
  ·have h9:=l2.seen
   rw [seenN_fr l3.lt f4 (fun h=>h.1 rfl),hs3]
   rw [he] at h9
   simp at h9
   omega
theorem E30:ElemT prog 43 30 (.int .u64 0) 1 8:=⟨by kernel_rfl,by kernel_rfl,rfl,by decide⟩
theorem f161 {w:World} {ma rm:Nat} {L:List (Int×Value)} (h:Has w ma [.map (some rm)]) (hm:MapIs w rm .u64 L) (hl:L.length≤1000000000) :
  Ret prog 161 #[.slice none 0 0,.func (.func 98) #[] #[.pointer (some ⟨ma,0,none⟩)]] w fun v w'=>∃p c acc,v=.slice p L.length c∧List.Perm acc (L.map (·.1))∧Sl w' w.heap.size 30 1 p L.length c (acc.map (Value.int .u64))∧Fr0 w w':=by
 refine F161_of _ _ _ _ _ _ ?_
 unfold F161;try dsimp only [ls_,ui_]
 refine New.mk fun w1 n1 f1 s1=>?_
 refine⟨98,_,_,rfl,by kernel_rfl,?_⟩
 intro y Lm Rdy Bsy hLm hR hBs hY w2 f2 s2 hdef hrdy
 have f02:=f1.trans f2
 have h2:=h.fr0 f02
 have hm2:=hm.fr f02 (fun h=>h)
 have n2:=n1.fr0 f2
 have hma:=h.lt
 have hrm:=mapIs_lt hm
 refine Ret.use (f98 (y:=y) h2 hm2 (fun acc w'=>∃p c,Has w' w.heap.size [.slice p acc.length c]∧Sl w' w.heap.size 30 1 p acc.length c (acc.map (Value.int .u64))∧(∀b,On p b→w2.heap.size<b)∧Rdy w'∧Fr0 w w'∧w'.heap[w1.heap.size]?=some (.deferred (some []))∧w2.heap.size<w'.heap.size∧acc.length≤L.length)
  (fun w3 f3 s3=>⟨none,0,n2.fr0 f3,Sl.nil _ _ _ _,(fun b hb=>by obtain⟨a,h,_⟩:=hb;cases h),hR _ _ _ f3 (fun h=>h) hrdy,f02.trans f3,by rw [f3.block _ (by omega) (fun h=>h)];exact hdef,by omega,by simp⟩)
  (fun acc w3 w4 hJ f4 s4=>?_) (fun acc x w3 hJ hlt K hK=>?_)) ?_
 ·obtain⟨p,c,k1,k2,k3,k4,k5,k6,k7,k8⟩:=hJ
  exact⟨p,c,k1.fr f4 (by omega),k2.fr f4 (fun b hb=>by have:=k3 b hb;omega),k3,hR _ _ _ f4 (by omega) k4,k5.new f4 (by have:=f02.size;omega),by rw [f4.block _ (by omega) (by omega)];exact k6,by omega,k8⟩
 ·obtain⟨p,c,k1,k2,k3,k4,k5,k6,k7,k8⟩:=hJ
  refine .inr (hY _ _ _ k4 ?_)
  simp only [UnC_cons,UnN_nil,AsI_int]
  refine⟨k4,fun w4 hb4 f4 s4=>?_⟩
  have a4:=k1.fr f4 (show ¬(w.heap.size=Lm) by omega)
  have sl4:=k2.fr f4 (fun b hb=>by have:=k3 b hb;show ¬b=Lm;omega)
  refine a4.ld rfl (AsSl_slice.2 ?_)
  refine push_sl E30 (by decide) sl4 (by have:=k5.size;have:=f4.size;omega) rfl (by intro v hv;simp [Value.cells] at hv;subst hv;rfl) (by simp only [maxLen];omega) (by omega) fun p5 c5 w5 sl5 f5 hon5=>?_
  rw [AsSl_slice]
  have hpl:=sl4.lt
  have a5:=a4.fr f5 (fun hb=>by have:=k3 _ hb;have:=f02.size;omega)
  refine a5.st (by simp) rfl fun w6 a6 f6 s6=>?_
  have hp5:∀b,On p5 b→w2.heap.size<b:=fun b hb=>by
   rcases hon5 b hb with h|h
   ·exact k3 b h
   ·omega
  refine⟨hBs _ _ _ f6 (by omega) (hBs _ _ _ f5 (fun hb=>by have:=k3 _ hb;omega) hb4),fun w7 hr7 f7 s7=>hK w7 ⟨p5,c5,?_,?_,hp5,hr7,?_,?_,?_,?_⟩ ?_⟩
  ·rw [List.length_append]
   exact (by simpa using a6:Has w6 w.heap.size [.slice p5 (acc.length+1) c5]).fr f7 (show ¬(w.heap.size=Lm) by omega)
  ·have:=(sl5.fr f6 (fun b hb h=>by have h:b=w.heap.size:=h;have:=hp5 b hb;have:=f02.size;omega)).fr f7 (fun b hb h=>by have h:b=Lm:=h;have:=hp5 b hb;omega)
   rw [List.length_append,List.map_append]
   exact this
  ·exact (((k5.new f4 (by omega)).newS f5 (fun b hb=>by have:=k3 b hb;have:=f02.size;omega)).new f6 (Nat.le_refl _)).new f7 (by omega)
  ·rw [f7.block _ (by have:=f4.size;have:=f5.size;omega) (by omega),f6.block _ (by have:=f4.size;have:=f5.size;omega) (by omega),f5.block _ (by have:=f4.size;omega) (fun hb=>by have:=k3 _ hb;omega),f4.block _ (by omega) (by omega)]
   exact k6
  ·have:=f4.size;have:=f5.size;omega
  ·simp;omega
  ·have g:Fr (fun b=>b≠w2.heap.size∧b≠rm) w3 w7:=(((f4.mono fun b _ h=>by have h:b=Lm:=h;omega).thenS f5 fun b _ hb=>by have:=k3 b hb;have:=f02.size;omega).thenS f6 fun b _ h=>by have h:b=w.heap.size:=h;have:=f02.size;omega).thenS f7 fun b _ h=>by have h:b=Lm:=h;omega
   exact g
 ·rintro v w3 ⟨acc,hperm,p,c,k1,k2,k3,k4,k5,k6,k7,k8⟩
  refine⟨k4,fun w4 f4 s4=>?_⟩
  have a4:=k1.fr f4 (show ¬(w.heap.size=Lm) by omega)
  refine a4.ld rfl (AsSl_slice.2 ?_)
  refine⟨by rw [f4.block _ (by omega) (by omega)];exact k6,fun w5 f5 s5=>?_⟩
  have hal:acc.length=L.length:=by have:=hperm.length_eq;simpa using this
  refine⟨p,c,acc,by rw [hal],hperm,?_,(k5.new f4 (by omega)).new f5 (by omega)⟩
  rw [←hal]
  exact (k2.fr f4 (fun b hb h=>by have h:b=Lm:=h;have:=k3 b hb;omega)).fr f5 (fun b hb h=>by have h:b=w1.heap.size:=h;have:=k3 b hb;omega)
theorem f96 {w:World} {ma rm:Nat} {L:List (Int×Value)} (h:Has w ma [.map (some rm)]) (hm:MapIs w rm .u64 L) (hl:L.length≤1000000000) :
  Ret prog 96 #[.func (.func 98) #[] #[.pointer (some ⟨ma,0,none⟩)]] w fun v w'=>∃p c acc,v=.slice p L.length c∧List.Perm acc (L.map (·.1))∧Sl w' w.heap.size 30 1 p L.length c (acc.map (Value.int .u64))∧Fr0 w w':=by
 refine F96_of _ _ _ ?_
 unfold F96
 refine Ret.use (f161 h hm hl) ?_
 rintro _ w1 ⟨p,c,acc,rfl,h1,h2,f1⟩
 rw [AsSl_slice]
 exact⟨p,c,acc,rfl,h1,h2,f1⟩
theorem f57 {w:World} (m:Option Nat):Ret prog 57 #[.map m] w fun v w'=>v=.func (.func 112) #[] #[.pointer (some ⟨w.heap.size,0,none⟩)]∧Has w' w.heap.size [.map m]∧Fr0 w w'∧w'.heap.size=w.heap.size+1:=by
 refine F57_of _ _ _ ?_
 unfold F57
 exact New.mk fun w1 n1 f1 s1=>⟨rfl,n1,f1,s1⟩
theorem f112 {w:World} {y:Value} {ma rm:Nat} {L:List (Int×Value)} (h:Has w ma [.map (some rm)]) (hm:MapIs w rm .u32 L) (J:List Int→World→Prop) (h0:∀w',Fr0 w w'→w'.heap.size=w.heap.size+1→J [] w')
  (hr:∀acc w' w'',J acc w'→Fr (·=w.heap.size) w' w''→w''.heap.size=w'.heap.size→J acc w'')
  (step:∀acc x w',J acc w'→acc.length<L.length→∀K:Value→World→Prop,(∀w'',J (acc++[x]) w''→Fr (fun b=>b≠w.heap.size∧b≠rm) w' w''→K (.bool true) w'')→FnY prog y [.int .u32 x] w' K) :
  Ret prog 112 #[y,.pointer (some ⟨ma,0,none⟩)] w fun v w'=>∃acc,List.Perm acc (L.map (·.1))∧J acc w':=by
 have hrm:=mapIs_lt hm
 refine F112c_of _ _ _ _ ?_
 unfold F112c;try dsimp only [lm_]
 refine h.ld rfl (AsM_map.2 ?_)
 refine range_ok T131.und hm fun w1 l1 f1 s1=>?_
 refine⟨_,rfl,?_⟩
 refine Loop.by (fun s w'=>s=[]∧∃acc left,LeftAt w' w.heap.size rm .u32 L left∧(acc++left.map (·.1)).Perm (L.map (·.1))∧J acc w') (fun _ w'=>L.length-seenN w' w.heap.size) ⟨rfl,[],L,l1,List.Perm.refl _,h0 w1 f1 s1⟩ ?_
 rintro _ w2 ⟨rfl,acc,left,l2,hp,hJ⟩
 rw [UnN_nil]
 refine next_ok l2 (fun he=>?_) (fun q1 x q2 he w3 l3 f3 s3 hs3 hent=>?_)
 ·refine .inl ⟨rfl,acc,?_,hJ⟩
  rw [he] at hp;simpa using hp
 ·refine .inr ⟨_,_,rfl,?_⟩
  refine hent _ ⟨_,_,rfl,AsI_int.2 ?_⟩
  refine step acc x.1 w3 (hr acc w2 w3 hJ f3 s3) (by have:=hp.length_eq;rw [he] at this;simp at this;omega) _ fun w4 hJ4 f4=>?_
  rw [AsB_bool]
  simp only [Bool.not_true,BIf_false]
  refine⟨⟨by trivial,acc++[x.1],q1++q2,l3.fr f4 (fun h=>h.1 rfl) (fun h=>h.2 rfl),?_,hJ4⟩,?_⟩
  ·refine List.Perm.trans ?_ hp
   rw [he,List.map_append,List.map_append,List.map_cons,List.append_assoc]
   refine List.Perm.append_left _ ?_
   rw [List.singleton_append]
   exact List.perm_middle.symm
  ·have h9:=l2.seen
   rw [seenN_fr l3.lt f4 (fun h=>h.1 rfl),hs3]
   rw [he] at h9
   simp at h9
   omega
theorem f175 {w:World} {ma rm:Nat} {L:List (Int×Value)} (h:Has w ma [.map (some rm)]) (hm:MapIs w rm .u32 L) (hl:L.length≤1000000000) :
  Ret prog 175 #[.slice none 0 0,.func (.func 112) #[] #[.pointer (some ⟨ma,0,none⟩)]] w fun v w'=>∃p c acc,v=.slice p L.length c∧List.Perm acc (L.map (·.1))∧Sl w' w.heap.size 35 1 p L.length c (acc.map (Value.int .u32))∧Fr0 w w':=by
 refine F175_of _ _ _ _ _ _ ?_
 unfold F175;try dsimp only [ls_,ui_]
 refine New.mk fun w1 n1 f1 s1=>?_
 refine⟨112,_,_,rfl,by kernel_rfl,?_⟩
 intro y Lm Rdy Bsy hLm hR hBs hY w2 f2 s2 hdef hrdy
 have f02:=f1.trans f2
 have h2:=h.fr0 f02
 have hm2:=hm.fr f02 (fun h=>h)
 have n2:=n1.fr0 f2
 have hma:=h.lt
 have hrm:=mapIs_lt hm
 refine Ret.use (f112 (y:=y) h2 hm2 (fun acc w'=>∃p c,Has w' w.heap.size [.slice p acc.length c]∧Sl w' w.heap.size 35 1 p acc.length c (acc.map (Value.int .u32))∧(∀b,On p b→w2.heap.size<b)∧Rdy w'∧Fr0 w w'∧w'.heap[w1.heap.size]?=some (.deferred (some []))∧w2.heap.size<w'.heap.size∧acc.length≤L.length)
  (fun w3 f3 s3=>⟨none,0,n2.fr0 f3,Sl.nil _ _ _ _,(fun b hb=>by obtain⟨a,h,_⟩:=hb;cases h),hR _ _ _ f3 (fun h=>h) hrdy,f02.trans f3,by rw [f3.block _ (by omega) (fun h=>h)];exact hdef,by omega,by simp⟩)
  (fun acc w3 w4 hJ f4 s4=>?_) (fun acc x w3 hJ hlt K hK=>?_)) ?_
 ·obtain⟨p,c,k1,k2,k3,k4,k5,k6,k7,k8⟩:=hJ
  exact⟨p,c,k1.fr f4 (by omega),k2.fr f4 (fun b hb=>by have:=k3 b hb;omega),k3,hR _ _ _ f4 (by omega) k4,k5.new f4 (by have:=f02.size;omega),by rw [f4.block _ (by omega) (by omega)];exact k6,by omega,k8⟩
 ·obtain⟨p,c,k1,k2,k3,k4,k5,k6,k7,k8⟩:=hJ
  refine .inr (hY _ _ _ k4 ?_)
  simp only [UnC_cons,UnN_nil,AsI_int]
  refine⟨k4,fun w4 hb4 f4 s4=>?_⟩
  have a4:=k1.fr f4 (show ¬(w.heap.size=Lm) by omega)
  have sl4:=k2.fr f4 (fun b hb=>by have:=k3 b hb;show ¬b=Lm;omega)
  refine a4.ld rfl (AsSl_slice.2 ?_)
  refine push_sl E35 (by decide) sl4 (by have:=k5.size;have:=f4.size;omega) rfl (by intro v hv;simp [Value.cells] at hv;subst hv;rfl) (by simp only [maxLen];omega) (by omega) fun p5 c5 w5 sl5 f5 hon5=>?_
  rw [AsSl_slice]
  have hpl:=sl4.lt
  have a5:=a4.fr f5 (fun hb=>by have:=k3 _ hb;have:=f02.size;omega)
  refine a5.st (by simp) rfl fun w6 a6 f6 s6=>?_
  have hp5:∀b,On p5 b→w2.heap.size<b:=fun b hb=>by
   rcases hon5 b hb with h|h
   ·exact k3 b h
   ·omega
  refine⟨hBs _ _ _ f6 (by omega) (hBs _ _ _ f5 (fun hb=>by have:=k3 _ hb;omega) hb4),fun w7 hr7 f7 s7=>hK w7 ⟨p5,c5,?_,?_,hp5,hr7,?_,?_,?_,?_⟩ ?_⟩
  ·rw [List.length_append]
   exact (by simpa using a6:Has w6 w.heap.size [.slice p5 (acc.length+1) c5]).fr f7 (show ¬(w.heap.size=Lm) by omega)
  ·have:=(sl5.fr f6 (fun b hb h=>by have h:b=w.heap.size:=h;have:=hp5 b hb;have:=f02.size;omega)).fr f7 (fun b hb h=>by have h:b=Lm:=h;have:=hp5 b hb;omega)
   rw [List.length_append,List.map_append]
   exact this
  ·exact (((k5.new f4 (by omega)).newS f5 (fun b hb=>by have:=k3 b hb;have:=f02.size;omega)).new f6 (Nat.le_refl _)).new f7 (by omega)
  ·rw [f7.block _ (by have:=f4.size;have:=f5.size;omega) (by omega),f6.block _ (by have:=f4.size;have:=f5.size;omega) (by omega),f5.block _ (by have:=f4.size;omega) (fun hb=>by have:=k3 _ hb;omega),f4.block _ (by omega) (by omega)]
   exact k6
  ·have:=f4.size;have:=f5.size;omega
  ·simp;omega
  ·have g:Fr (fun b=>b≠w2.heap.size∧b≠rm) w3 w7:=(((f4.mono fun b _ h=>by have h:b=Lm:=h;omega).thenS f5 fun b _ hb=>by have:=k3 b hb;have:=f02.size;omega).thenS f6 fun b _ h=>by have h:b=w.heap.size:=h;have:=f02.size;omega).thenS f7 fun b _ h=>by have h:b=Lm:=h;omega
   exact g
 ·rintro v w3 ⟨acc,hperm,p,c,k1,k2,k3,k4,k5,k6,k7,k8⟩
  refine⟨k4,fun w4 f4 s4=>?_⟩
  have a4:=k1.fr f4 (show ¬(w.heap.size=Lm) by omega)
  refine a4.ld rfl (AsSl_slice.2 ?_)
  refine⟨by rw [f4.block _ (by omega) (by omega)];exact k6,fun w5 f5 s5=>?_⟩
  have hal:acc.length=L.length:=by have:=hperm.length_eq;simpa using this
  refine⟨p,c,acc,by rw [hal],hperm,?_,(k5.new f4 (by omega)).new f5 (by omega)⟩
  rw [←hal]
  exact (k2.fr f4 (fun b hb h=>by have h:b=Lm:=h;have:=k3 b hb;omega)).fr f5 (fun b hb h=>by have h:b=w1.heap.size:=h;have:=k3 b hb;omega)
theorem f110 {w:World} {ma rm:Nat} {L:List (Int×Value)} (h:Has w ma [.map (some rm)]) (hm:MapIs w rm .u32 L) (hl:L.length≤1000000000) :
  Ret prog 110 #[.func (.func 112) #[] #[.pointer (some ⟨ma,0,none⟩)]] w fun v w'=>∃p c acc,v=.slice p L.length c∧List.Perm acc (L.map (·.1))∧Sl w' w.heap.size 35 1 p L.length c (acc.map (Value.int .u32))∧Fr0 w w':=by
 refine F110_of _ _ _ ?_
 unfold F110
 refine Ret.use (f175 h hm hl) ?_
 rintro _ w1 ⟨p,c,acc,rfl,h1,h2,f1⟩
 rw [AsSl_slice]
 exact⟨p,c,acc,rfl,h1,h2,f1⟩
end Go.Proofs.YtmgjicnipgdjhaaGreatDoor
set_option maxRecDepth 10000
namespace Go.Proofs.YtmgjicnipgdjhaaGreatDoor
open Go Go.Sh Go.Fr Go.Sort
variable {z:Bool}
structure ArU (z:Bool) (w:World) (B:Nat) (p:Option Addr) (n c:Nat) (d:Array Int):Prop where
 size:d.size=n
 sl:Sl w B (nz z 30 35) 1 p n c (d.toList.map (Value.int (kd z)))
theorem ArU.fr {S:Nat→Prop} {w w':World} {B n c:Nat} {p:Option Addr} {d:Array Int} (h:ArU z w B p n c d) (f:Fr S w w') (hS:∀b,On p b→¬S b):ArU z w' B p n c d:=⟨h.size,h.sl.fr f hS⟩
theorem ArU.drew {w:World} {B n c:Nat} {p:Option Addr} {d:Array Int} (h:ArU z w B p n c d):ArU z w.drew B p n c d:=⟨h.size,h.sl.qt (Qt.refl w).drew⟩
theorem ArU.rd {w:World} {B n c:Nat} {p:Option Addr} {d:Array Int} (h:ArU z w B p n c d) {e:Int} {i:Nat} (he:e=(i:Int)) (hi:i<n) {K:Int→Prop} (k:K d[i]!) :
  NilP p fun a=>0≤e∧e<(n:Int)∧Ld w (at0 a (e.toNat*1)) fun v=>AsI (kd z) v K:=by
 have hs:=h.size
 refine h.sl.rd.int (l:=d.toList) (by simpa using hs) (by omega) (x:=d[i]!) ?_ k
 rw [he,Int.toNat_natCast,Array.getElem?_toList,Array.getElem?_eq_getElem (by omega),getElem!_pos d i (by omega)]
theorem ArU.st {w:World} {B n c:Nat} {p:Option Addr} {d:Array Int} (h:ArU z w B p n c d) {e:Int} {i:Nat} (he:e=(i:Int)) (hi:i<n) {x:Int} {K:World→Prop} (k:∀w',ArU z w' B p n c (d.setIfInBounds i x)→Fr (On p) w w'→K w') :
  NilP p fun a=>0≤e∧e<(n:Int)∧Sh.St w (at0 a (e.toNat*1)) (.int (kd z) x) K:=by
 have hs:=h.size
 obtain⟨g,sp,rfl,_,_⟩:=h.sl.some_ (by omega)
 rw [NilP_some,he,Int.toNat_natCast,Nat.mul_one,at0_mk,Nat.zero_add]
 refine⟨by omega,by omega,h.sl.st rfl (by simp;omega) rfl fun w' h1 f1 s1=>k w' ⟨by simpa using hs,?_⟩ f1⟩
 rw [Array.toList_setIfInBounds,List.map_set]
 exact h1
theorem ArU.sw {w:World} {B n c:Nat} {p:Option Addr} {d:Array Int} (h:ArU z w B p n c d) {e1 e2:Int} {i j:Nat} (h1:e1=(i:Int)) (h2:e2=(j:Int)) (hi:i<n) (hj:j<n) {x y:Int} (hx:x=d[j]!) (hy:y=d[i]!) {K:World→Prop}
  (k:∀w',ArU z w' B p n c (swp d i j)→Fr (On p) w w'→K w') :
  NilP p fun a=>0≤e1∧e1<(n:Int)∧Sh.St w (at0 a (e1.toNat*1)) (.int (kd z) x) fun w1=>NilP p fun b=>0≤e2∧e2<(n:Int)∧Sh.St w1 (at0 b (e2.toNat*1)) (.int (kd z) y) K:=by
 refine h.st h1 hi fun w1 a1 f1=>?_
 refine a1.st h2 hj fun w2 a2 f2=>?_
 rw [hx,hy] at a2
 exact k w2 a2 (f1.trans f2)
theorem f218 {w:World} (x y:Int):Ret prog (nz z 218 242) #[.int (kd z) x,.int (kd z) y] w fun v w'=>v=.bool (ltInt x y)∧w'=w:=by
 have h233:∀x:Int,Ret prog (nz z 233 231) #[.int (kd z) x] w fun v w'=>v=.bool false∧w'=w:=fun x=>by
  refine F233z_of z _ _ _ ?_
  unfold F233z
  exact⟨by simp,rfl⟩
 refine F218z_of z _ _ _ _ ?_
 unfold F218z ltInt
 refine Ret.use (h233 x) ?_
 rintro _ _ ⟨rfl,hw⟩
 obtain rfl:=hw.symm
 rw [AsB_bool]
 exact⟨rfl,rfl⟩
theorem f212 {w:World} {B n c:Nat} {p:Option Addr} {d:Array Int} (h:ArU z w B p n c d) (a b:Nat) (hab:a≤b) (hb:b≤n) (hn:n≤1000000000000) :
  Ret prog (nz z 212 236) #[.slice p n c,.int .i64 (a:Int),.int .i64 (b:Int)] w fun v w'=>v=.tuple #[]∧ArU z w' B p n c (insertionSort ltInt d a b)∧Fr (On p) w w':=by
 refine F212z_of z _ _ _ _ _ _ _ ?_
 unfold F212z;try dsimp only [ui_]
 rw [w64 (n:=(a:Int)+1) (by omega) (by omega)]
 refine Loop.by (fun s w'=>∃(i:Nat) (e:Array Int),a+1≤i∧i≤max b (a+1)∧s=[.int .i64 (i:Int)]∧ArU z w' B p n c e∧Fr (On p) w w'∧insOuter ltInt a b i e=insertionSort ltInt d a b) (fun s _=>match s with | [.int _ i]=>b-i.toNat|_=>0)
  ⟨a+1,d,by omega,by omega,by simp,h,Fr.refl _ _,rfl⟩ ?_
 rintro _ w1 ⟨i,e,hi1,hi2,rfl,h1,f1,hres⟩
 simp only [UnC_cons,UnN_nil,AsI_int]
 refine BIf_cases (fun hlt=>?_) (fun hge=>?_)
 ·have hib:i<b:=by omega
  rw [insOuter,if_pos hib] at hres
  refine Join.at (fun s w'=>s=[]∧ArU z w' B p n c (insInner ltInt a i e)∧Fr (On p) w w') ?_ ?_
  ·refine Loop.by (fun s w'=>∃(j:Nat) (e':Array Int),a≤j∧j≤i∧s=[.int .i64 (j:Int)]∧ArU z w' B p n c e'∧Fr (On p) w w'∧insInner ltInt a j e'=insInner ltInt a i e) (fun s _=>match s with | [.int _ j]=>j.toNat|_=>0) ⟨i,e,by omega,Nat.le_refl _,rfl,h1,f1,rfl⟩ ?_
   rintro _ w2 ⟨j,e',hj1,hj2,rfl,h2,f2,hr2⟩
   simp only [UnC_cons,UnN_nil,AsI_int]
   refine BIf_cases (fun hgt=>?_) (fun hle=>?_)
   ·obtain⟨k,rfl⟩:∃k,j=k+1:=⟨j-1,by omega⟩
    have ej:IntKind.i64.wrap (((k+1:Nat):Int)-1)=(k:Int):=by rw [w64 (by omega) (by omega)];omega
    simp only [ej]
    refine h2.rd rfl (by omega) ?_
    refine h2.drew.rd rfl (by omega) ?_
    refine Ret.use (f218 _ _) ?_
    rintro _ _ ⟨rfl,hw⟩
    obtain rfl:=hw.symm
    rw [AsB_bool]
    rw [insInner] at hr2
    refine BIf_b (fun hl=>?_) (fun hl=>?_)
    ·rw [if_pos (by rw [hl,decide_eq_true (show k+1>a by omega)];rfl)] at hr2
     refine h2.drew.rd rfl (by omega) ?_
     refine h2.drew.rd rfl (by omega) ?_
     refine h2.drew.drew.sw (i:=k+1) (j:=k) rfl rfl (by omega) (by omega) rfl rfl fun w3 h3 f3=>?_
     exact⟨⟨k,_,by omega,by omega,rfl,h3,f2.trans f3.of_drew.of_drew,hr2⟩,(by first|omega|(simp only [Int.toNat_natCast];omega))⟩
    ·rw [if_neg (by rw [hl];simp)] at hr2
     exact⟨by trivial,by rw [←hr2];exact h2.drew,f2.drew⟩
   ·have:j=a:=by omega
    subst this
    refine⟨by trivial,?_,f2.drew⟩
    rw [←hr2]
    have:insInner ltInt j j e'=e':=by
     cases j with
     | zero=>rfl
     | succ j=>rw [insInner,if_neg (by simp)]
    rw [this]
    exact h2.drew
  ·rintro _ w2 ⟨rfl,h2,f2⟩
   rw [UnN_nil,w64 (n:=(i:Int)+1) (by omega) (by omega)]
   exact⟨⟨i+1,_,by omega,by omega,rfl,h2,f2,hres⟩,(by first|omega|(simp only [Int.toNat_natCast];omega))⟩
 ·rw [insOuter,if_neg (by omega)] at hres
  exact⟨by trivial,by rw [←hres];exact h1,f1⟩
end Go.Proofs.YtmgjicnipgdjhaaGreatDoor
set_option maxRecDepth 10000
namespace Go.Proofs.YtmgjicnipgdjhaaGreatDoor
open Go Go.Sh Go.Fr Go.Sort
variable {z:Bool}
theorem f259 {w:World} {B n c:Nat} {p:Option Addr} {d:Array Int} (h:ArU z w B p n c d) (lo hi first:Nat) (hf:first+hi≤n) (hn:n≤1000000000000) (hlo:lo≤n) :
  Ret prog (nz z 259 267) #[.slice p n c,.int .i64 (lo:Int),.int .i64 (hi:Int),.int .i64 (first:Int)] w fun v w'=>v=.tuple #[]∧ArU z w' B p n c (siftDown ltInt hi first lo d)∧Fr (On p) w w':=by
 refine F259z_of z _ _ _ _ _ _ _ _ ?_
 unfold F259z;try dsimp only [ui_]
 refine Loop.by (fun s w'=>∃(r:Nat) (e:Array Int),r≤n∧s=[.int .i64 (r:Int)]∧ArU z w' B p n c e∧Fr (On p) w w'∧siftDown ltInt hi first r e=siftDown ltInt hi first lo d) (fun s _=>match s with | [.int _ r]=>hi-r.toNat|_=>0)
  ⟨lo,d,hlo,rfl,h,Fr.refl _ _,rfl⟩ ?_
 rintro _ w1 ⟨r,e,hr,rfl,h1,f1,hres⟩
 simp only [UnC_cons,UnN_nil,AsI_int]
 have e1:IntKind.i64.wrap (2*(r:Int))=((2*r:Nat):Int):=by rw [w64 (by omega) (by omega)];omega
 have e2:IntKind.i64.wrap (((2*r:Nat):Int)+1)=((2*r+1:Nat):Int):=by rw [w64 (by omega) (by omega)];omega
 have e3:IntKind.i64.wrap (((2*r+1:Nat):Int)+1)=((2*r+2:Nat):Int):=by rw [w64 (by omega) (by omega)];omega
 have e4:IntKind.i64.wrap ((first:Int)+(r:Int))=((first+r:Nat):Int):=by rw [w64 (by omega) (by omega)];omega
 rw [siftDown] at hres
 simp only [e1,e2,e3,e4]
 refine BIf_cases (fun hge=>?_) (fun hlt=>?_)
 ·rw [dif_pos (by omega)] at hres
  exact⟨by trivial,by rw [←hres];exact h1,f1⟩
 ·rw [dif_neg (by omega)] at hres
  refine Join.at (fun s w'=>∃ch:Nat,s=[.int .i64 (ch:Int)]∧ArU z w' B p n c e∧Fr (On p) w w'∧r<ch∧ch<hi∧siftDown ltInt hi first lo d=if !ltInt e[first+r]! e[first+ch]! then e else siftDown ltInt hi first ch (swp e (first+r) (first+ch))) ?_ ?_
  ·refine BIf_cases (fun h2=>?_) (fun h2=>?_)
   ·have e5:IntKind.i64.wrap ((first:Int)+((2*r+1:Nat):Int))=((first+(2*r+1):Nat):Int):=by rw [w64 (by omega) (by omega)];omega
    have e6:IntKind.i64.wrap (((first+(2*r+1):Nat):Int)+1)=((first+(2*r+1)+1:Nat):Int):=by rw [w64 (by omega) (by omega)];omega
    simp only [e5,e6]
    refine h1.drew.rd rfl (by omega) ?_
    refine h1.drew.rd rfl (by omega) ?_
    refine Ret.use (f218 _ _) ?_
    rintro _ _ ⟨rfl,hw⟩
    obtain rfl:=hw.symm
    rw [AsB_bool]
    refine BIf_b (fun hl=>?_) (fun hl=>?_)
    ·refine⟨2*r+2,rfl,h1.drew,f1.drew,by omega,by omega,?_⟩
     rw [←hres,if_pos (by rw [hl,decide_eq_true (show 2*r+1+1<hi by omega)];rfl)]
     split
     ·rfl
     ·rw [dif_pos (by omega)]
    ·refine⟨2*r+1,rfl,h1.drew,f1.drew,by omega,by omega,?_⟩
     rw [←hres,if_neg (by rw [hl];simp)]
   ·refine⟨2*r+1,rfl,h1.drew,f1.drew,by omega,by omega,?_⟩
    rw [←hres,if_neg (by rw [decide_eq_false (show ¬2*r+1+1<hi by omega)];simp)]
  ·rintro _ w2 ⟨ch,rfl,h2,f2,hc1,hc2,hr2⟩
   simp only [UnC_cons,UnN_nil,AsI_int]
   have e7:IntKind.i64.wrap ((first:Int)+(ch:Int))=((first+ch:Nat):Int):=by rw [w64 (by omega) (by omega)];omega
   simp only [e7]
   refine h2.drew.rd rfl (by omega) ?_
   refine h2.drew.rd rfl (by omega) ?_
   refine Ret.use (f218 _ _) ?_
   rintro _ _ ⟨rfl,hw⟩
   obtain rfl:=hw.symm
   rw [AsB_bool]
   refine BIf_not.2 (BIf_b (fun hl=>?_) (fun hl=>?_))
   ·rw [if_neg (by rw [hl];simp)] at hr2
    refine h2.drew.drew.rd rfl (by omega) ?_
    refine h2.drew.drew.rd rfl (by omega) ?_
    refine h2.drew.drew.sw (i:=first+r) (j:=first+ch) rfl rfl (by omega) (by omega) rfl rfl fun w3 h3 f3=>?_
    exact⟨⟨ch,_,by omega,rfl,h3,f2.trans f3.of_drew.of_drew,hr2.symm⟩,(by first|omega|(simp only [Int.toNat_natCast];omega))⟩
   ·rw [if_pos (by rw [hl];rfl)] at hr2
    exact⟨by trivial,by rw [hr2];exact h2.drew,f2.drew⟩
theorem f213 {w:World} {B n c:Nat} {p:Option Addr} {d:Array Int} (h:ArU z w B p n c d) (a b:Nat) (hab:a<b) (hb:b≤n) (hn:n≤1000000000000) :
  Ret prog (nz z 213 237) #[.slice p n c,.int .i64 (a:Int),.int .i64 (b:Int)] w fun v w'=>v=.tuple #[]∧ArU z w' B p n c (heapSort ltInt d a b)∧Fr (On p) w w':=by
 refine F213z_of z _ _ _ _ _ _ _ ?_
 unfold F213z;try dsimp only [ui_]
 have e1:IntKind.i64.wrap ((b:Int)-(a:Int))=((b-a:Nat):Int):=by rw [w64 (by omega) (by omega)];omega
 have e2:IntKind.i64.wrap (((b-a:Nat):Int)-1)=((b-a-1:Nat):Int):=by rw [w64 (by omega) (by omega)];omega
 have e3:IntKind.i64.wrap ((((b-a-1:Nat):Int)).tdiv 2)=(((b-a-1)/2:Nat):Int):=by
  rw [show (2:Int)=((2:Nat):Int) from rfl,←Int.ofNat_tdiv,w64 (by omega) (by omega)]
 simp only [e1,e2,e3]
 refine Loop.by (fun s w'=>∃(k:Nat) (e:Array Int),k≤(b-a-1)/2+1∧s=[.int .i64 ((k:Int)-1)]∧ArU z w' B p n c e∧Fr (On p) w w'∧heapBuild ltInt (b-a) a k e=heapBuild ltInt (b-a) a ((b-a-1)/2+1) d) (fun s _=>match s with | [.int _ i]=>(i+1).toNat|_=>0)
  ⟨(b-a-1)/2+1,d,Nat.le_refl _,by simp,h,Fr.refl _ _,rfl⟩ ?_
 rintro _ w1 ⟨k,e,hk,rfl,h1,f1,hres⟩
 simp only [UnC_cons,UnN_nil,AsI_int]
 refine BIf_cases (fun hge=>?_) (fun hlt=>?_)
 ·obtain⟨j,rfl⟩:∃j,k=j+1:=⟨k-1,by omega⟩
  have ej:((j+1:Nat):Int)-1=(j:Int):=by omega
  rw [ej]
  refine Ret.use (f259 h1 j (b-a) a (by omega) hn (by omega)) ?_
  rintro _ w2 ⟨rfl,h2,f2⟩
  simp only [sb_,Nat.reduceAdd]
  rw [w64 (n:=(j:Int)-1) (by omega) (by omega)]
  exact⟨⟨j,_,by omega,rfl,h2,f1.trans f2,hres⟩,(by first|omega|(simp only [Int.toNat_natCast];omega))⟩
 ·obtain rfl:k=0:=by omega
  rw [heapBuild] at hres
  refine Loop.by (fun s w'=>∃(k:Nat) (e:Array Int),k≤b-a∧s=[.int .i64 ((k:Int)-1)]∧ArU z w' B p n c e∧Fr (On p) w w'∧heapPop ltInt a k e=heapSort ltInt d a b) (fun s _=>match s with | [.int _ i]=>(i+1).toNat|_=>0)
   ⟨b-a,e,Nat.le_refl _,by simp;omega,h1,f1,by rw [heapSort,←hres]⟩ ?_
  rintro _ w2 ⟨k,e2,hk2,rfl,h2,f2,hr2⟩
  simp only [UnC_cons,UnN_nil,AsI_int]
  refine BIf_cases (fun hge=>?_) (fun hlt2=>?_)
  ·obtain⟨j,rfl⟩:∃j,k=j+1:=⟨k-1,by omega⟩
   have ej:((j+1:Nat):Int)-1=(j:Int):=by omega
   have e5:IntKind.i64.wrap ((a:Int)+(j:Int))=((a+j:Nat):Int):=by rw [w64 (by omega) (by omega)];omega
   simp only [ej,e5]
   refine h2.drew.rd rfl (by omega) ?_
   refine h2.drew.rd rfl (by omega) ?_
   refine h2.drew.sw (i:=a) (j:=a+j) rfl rfl (by omega) (by omega) rfl rfl fun w3 h3 f3=>?_
   refine Ret.use (f259 h3 0 j a (by omega) hn (by omega)) ?_
   rintro _ w4 ⟨rfl,h4,f4⟩
   simp only [sb_,Nat.reduceAdd]
   rw [w64 (n:=(j:Int)-1) (by omega) (by omega)]
   exact⟨⟨j,_,by omega,rfl,h4,(f2.trans f3.of_drew).trans f4,hr2⟩,(by first|omega|(simp only [Int.toNat_natCast];omega))⟩
  ·obtain rfl:k=0:=by omega
   rw [heapPop] at hr2
   exact⟨by trivial,by rw [←hr2];exact h2,f2⟩
theorem f284 {w:World} {B n c:Nat} {p:Option Addr} {d:Array Int} (h:ArU z w B p n c d) (a b:Nat) (ha:a<n) (hb:b<n) {sw s:Nat} (hs:Has w sw [.int .i64 (s:Int)]) (hs2:s<1000) (hon:¬On p sw) :
  Ret prog (nz z 284 286) #[.slice p n c,.int .i64 (a:Int),.int .i64 (b:Int),.pointer (some ⟨sw,0,none⟩)] w fun v w'=>v=.tuple #[.int .i64 ((order2 ltInt d a b s).1:Nat),.int .i64 ((order2 ltInt d a b s).2.1:Nat)]∧Has w' sw [.int .i64 ((order2 ltInt d a b s).2.2:Nat)]∧Fr (·=sw) w w':=by
 refine F284z_of z _ _ _ _ _ _ _ _ ?_
 unfold F284z order2;try dsimp only [li_]
 refine h.rd rfl hb ?_
 refine h.rd rfl ha ?_
 refine Ret.use (f218 _ _) ?_
 rintro _ _ ⟨rfl,hw⟩
 obtain rfl:=hw.symm
 rw [AsB_bool]
 refine BIf_b (fun hl=>?_) (fun hl=>?_)
 ·rw [if_pos hl]
  refine hs.drew.ld rfl (AsI_int.2 ?_)
  rw [w64 (n:=(s:Int)+1) (by omega) (by omega)]
  refine hs.drew.st (by simp) rfl fun w1 n1 f1 s1=>⟨rfl,by simpa using n1,f1.of_drew⟩
 ·rw [if_neg (by rw [hl];decide)]
  exact⟨rfl,hs,(Fr.refl _ _).drew⟩
theorem order2_or (lt:Int→Int→Bool) (d:Array Int) (a b s:Nat):((order2 lt d a b s).1=a∨(order2 lt d a b s).1=b)∧((order2 lt d a b s).2.1=a∨(order2 lt d a b s).2.1=b)∧(order2 lt d a b s).2.2≤s+1:=by
 unfold order2;split<;>simp
theorem f263 {w:World} {B n c:Nat} {p:Option Addr} {d:Array Int} (h:ArU z w B p n c d) (a b e:Nat) (ha:a<n) (hb:b<n) (he:e<n) {sw s:Nat} (hs:Has w sw [.int .i64 (s:Int)]) (hs2:s<900) (hon:¬On p sw) :
  Ret prog (nz z 263 269) #[.slice p n c,.int .i64 (a:Int),.int .i64 (b:Int),.int .i64 (e:Int),.pointer (some ⟨sw,0,none⟩)] w fun v w'=>v=.int .i64 ((median ltInt d a b e s).1:Nat)∧Has w' sw [.int .i64 ((median ltInt d a b e s).2:Nat)]∧Fr (·=sw) w w':=by
 refine F263z_of z _ _ _ _ _ _ _ _ _ ?_
 unfold F263z median;try dsimp only [Uii,ui_]
 obtain⟨q1,q2,q3⟩:=order2_or ltInt d a b s
 refine Ret.use (f284 h a b ha hb hs (by omega) hon) ?_
 rintro _ w1 ⟨rfl,n1,f1⟩
 simp only [sb_,Nat.reduceAdd]
 have hon':∀b,On p b→¬b=sw:=fun b hb e=>hon (e ▸ hb)
 have h1:=h.fr f1 hon'
 obtain⟨q4,q5,q6⟩:=order2_or ltInt d (order2 ltInt d a b s).2.1 e (order2 ltInt d a b s).2.2
 refine Ret.use (f284 h1 _ e (by omega) he n1 (by omega) hon) ?_
 rintro _ w2 ⟨rfl,n2,f2⟩
 simp only [sb_,Nat.reduceAdd]
 have h2:=h1.fr f2 hon'
 refine Ret.use (f284 h2 _ _ (by omega) (by omega) n2 (by omega) hon) ?_
 rintro _ w3 ⟨rfl,n3,f3⟩
 simp only [sb_,Nat.reduceAdd]
 exact⟨by trivial,n3,(f1.trans f2).trans f3⟩
theorem f262 {w:World} {B n c:Nat} {p:Option Addr} {d:Array Int} (h:ArU z w B p n c d) (a:Nat) (h0:1≤a) (ha:a+1<n) (hn:n≤1000000000000) {sw s:Nat} (hs:Has w sw [.int .i64 (s:Int)]) (hs2:s<900) (hon:¬On p sw) :
  Ret prog (nz z 262 268) #[.slice p n c,.int .i64 (a:Int),.pointer (some ⟨sw,0,none⟩)] w fun v w'=>v=.int .i64 ((medianAdjacent ltInt d a s).1:Nat)∧Has w' sw [.int .i64 ((medianAdjacent ltInt d a s).2:Nat)]∧Fr (·=sw) w w':=by
 refine F262z_of z _ _ _ _ _ _ _ ?_
 unfold F262z medianAdjacent
 have e1:IntKind.i64.wrap ((a:Int)-1)=((a-1:Nat):Int):=by rw [w64 (by omega) (by omega)];omega
 have e2:IntKind.i64.wrap ((a:Int)+1)=((a+1:Nat):Int):=by rw [w64 (by omega) (by omega)];omega
 rw [e1,e2]
 refine Ret.use (f263 h (a-1) a (a+1) (by omega) (by omega) (by omega) hs hs2 hon) ?_
 rintro _ w1 ⟨rfl,n1,f1⟩
 rw [AsI_int]
 exact⟨by trivial,n1,f1⟩
theorem f216 {w:World} {B n c:Nat} {p:Option Addr} {d:Array Int} (h:ArU z w B p n c d) (a b:Nat) (hab:a<b) (hb:b≤n) (hn:n≤1000000000000) :
  Ret prog (nz z 216 240) #[.slice p n c,.int .i64 (a:Int),.int .i64 (b:Int)] w fun v w'=>v=.tuple #[]∧ArU z w' B p n c (reverseRange d a b)∧Fr (On p) w w':=by
 refine F216z_of z _ _ _ _ _ _ _ ?_
 unfold F216z reverseRange;try dsimp only [Uii,ui_]
 have e1:IntKind.i64.wrap ((b:Int)-1)=((b-1:Nat):Int):=by rw [w64 (by omega) (by omega)];omega
 rw [e1]
 refine Loop.by (fun s w'=>∃(i j:Nat) (e:Array Int),i≤n∧j<n∧s=[.int .i64 (j:Int),.int .i64 (i:Int)]∧ArU z w' B p n c e∧Fr (On p) w w'∧reverseLoop i j e=reverseLoop a (b-1) d) (fun s _=>match s with | [.int _ j,.int _ i]=>j.toNat-i.toNat|_=>0)
  ⟨a,b-1,d,by omega,by omega,rfl,h,Fr.refl _ _,rfl⟩ ?_
 rintro _ w1 ⟨i,j,e,hi,hj,rfl,h1,f1,hres⟩
 simp only [UnC_cons,UnN_nil,AsI_int]
 rw [reverseLoop] at hres
 refine BIf_cases (fun hlt=>?_) (fun hge=>?_)
 ·rw [if_pos (by omega)] at hres
  have e2:IntKind.i64.wrap ((j:Int)-1)=((j-1:Nat):Int):=by rw [w64 (by omega) (by omega)];omega
  have e3:IntKind.i64.wrap ((i:Int)+1)=((i+1:Nat):Int):=by rw [w64 (by omega) (by omega)];omega
  simp only [e2,e3]
  refine h1.rd rfl (by omega) ?_
  refine h1.rd rfl (by omega) ?_
  refine h1.drew.sw (i:=i) (j:=j) rfl rfl (by omega) (by omega) rfl rfl fun w2 h2 f2=>?_
  exact⟨⟨i+1,j-1,_,by omega,by omega,rfl,h2,f1.trans f2.of_drew,hres⟩,(by first|omega|(simp only [Int.toNat_natCast];omega))⟩
 ·rw [if_neg (by omega)] at hres
  exact⟨by trivial,by rw [←hres];exact h1,f1⟩
end Go.Proofs.YtmgjicnipgdjhaaGreatDoor
set_option maxRecDepth 10000
namespace Go.Proofs.YtmgjicnipgdjhaaGreatDoor
open Go Go.Sh Go.Fr Go.Sort
variable {z:Bool}
theorem median_or (lt:Int→Int→Bool) (d:Array Int) (a b e s:Nat):((median lt d a b e s).1=a∨(median lt d a b e s).1=b∨(median lt d a b e s).1=e)∧(median lt d a b e s).2≤s+3:=by
 unfold median
 obtain⟨q1,q2,q3⟩:=order2_or lt d a b s
 obtain⟨q4,q5,q6⟩:=order2_or lt d (order2 lt d a b s).2.1 e (order2 lt d a b s).2.2
 obtain⟨q7,q8,q9⟩:=order2_or lt d (order2 lt d a b s).1 (order2 lt d (order2 lt d a b s).2.1 e (order2 lt d a b s).2.2).1 (order2 lt d (order2 lt d a b s).2.1 e (order2 lt d a b s).2.2).2.2
 refine⟨?_,by simp only;omega⟩
 simp only
 omega
theorem madj_or (lt:Int→Int→Bool) (d:Array Int) (x s:Nat):(medianAdjacent lt d x s).1≤x+1∧(medianAdjacent lt d x s).2≤s+3:=by
 obtain⟨h1,h2⟩:=median_or lt d (x-1) x (x+1) s
 unfold medianAdjacent
 exact⟨by omega,h2⟩
def hintI (s:Nat):Int:=if s=0 then 1 else if s=12 then 2 else 0
def pivR (d:Array Int) (a b:Nat):Nat×Nat :=
 if b-a≥8 then
  if b-a≥50 then
   median ltInt d (medianAdjacent ltInt d (a+(b-a)/4*1) 0).1 (medianAdjacent ltInt d (a+(b-a)/4*2) (medianAdjacent ltInt d (a+(b-a)/4*1) 0).2).1
    (medianAdjacent ltInt d (a+(b-a)/4*3) (medianAdjacent ltInt d (a+(b-a)/4*2) (medianAdjacent ltInt d (a+(b-a)/4*1) 0).2).2).1
    (medianAdjacent ltInt d (a+(b-a)/4*3) (medianAdjacent ltInt d (a+(b-a)/4*2) (medianAdjacent ltInt d (a+(b-a)/4*1) 0).2).2).2
  else median ltInt d (a+(b-a)/4*1) (a+(b-a)/4*2) (a+(b-a)/4*3) 0
 else (a+(b-a)/4*2,0)
theorem choose_eq (d:Array Int) (a b:Nat):choosePivot ltInt d a b=((pivR d a b).1,if (pivR d a b).2=0 then Hint.increasing else if (pivR d a b).2=12 then .decreasing else .unknown):=rfl
theorem f215 {w:World} {B n c:Nat} {p:Option Addr} {d:Array Int} (h:ArU z w B p n c d) (a b:Nat) (hab:a<b) (hb:b≤n) (hn:n≤1000000000000) :
  Ret prog (nz z 215 239) #[.slice p n c,.int .i64 (a:Int),.int .i64 (b:Int)] w fun v w'=>v=.tuple #[.int .i64 ((pivR d a b).1:Nat),.int .i64 (hintI (pivR d a b).2)]∧Fr0 w w':=by
 refine F215z_of z _ _ _ _ _ _ _ ?_
 unfold F215z;try dsimp only [Uiii,li_,ui_]
 refine New.mk fun w1 n1 f1 s1=>?_
 have e1:IntKind.i64.wrap ((b:Int)-(a:Int))=((b-a:Nat):Int):=by rw [w64 (by omega) (by omega)];omega
 have e4:IntKind.i64.wrap ((((b-a:Nat):Int)).tdiv 4)=(((b-a)/4:Nat):Int):=by
  rw [show (4:Int)=((4:Nat):Int) from rfl,←Int.ofNat_tdiv,w64 (by omega) (by omega)]
 have m1:IntKind.i64.wrap ((((b-a)/4:Nat):Int)*1)=(((b-a)/4*1:Nat):Int):=by rw [w64 (by omega) (by omega)];omega
 have m2:IntKind.i64.wrap ((((b-a)/4:Nat):Int)*2)=(((b-a)/4*2:Nat):Int):=by rw [w64 (by omega) (by omega)];omega
 have m3:IntKind.i64.wrap ((((b-a)/4:Nat):Int)*3)=(((b-a)/4*3:Nat):Int):=by rw [w64 (by omega) (by omega)];omega
 have k1:IntKind.i64.wrap ((a:Int)+(((b-a)/4*1:Nat):Int))=((a+(b-a)/4*1:Nat):Int):=by rw [w64 (by omega) (by omega)];omega
 have k2:IntKind.i64.wrap ((a:Int)+(((b-a)/4*2:Nat):Int))=((a+(b-a)/4*2:Nat):Int):=by rw [w64 (by omega) (by omega)];omega
 have k3:IntKind.i64.wrap ((a:Int)+(((b-a)/4*3:Nat):Int))=((a+(b-a)/4*3:Nat):Int):=by rw [w64 (by omega) (by omega)];omega
 simp only [e1,e4,m1,m2,m3,k1,k2,k3]
 have hnew:∀b,On p b→¬b=w.heap.size:=fun b hb e=>by have:=(h.sl.lt b hb).2;omega
 have hon:¬On p w.heap.size:=fun hx=>hnew _ hx rfl
 have h1:=h.fr f1 (fun _ _ h=>h)
 refine Join.at (fun s w'=>∃x y:Int,s=[.int .i64 x,.int .i64 ((pivR d a b).1:Nat),.int .i64 y]∧Has w' w.heap.size [.int .i64 ((pivR d a b).2:Nat)]∧Fr0 w w') ?_ ?_
 ·refine BIf_cases (fun h8=>?_) (fun h8=>?_)
  ·have h8':b-a≥8:=by omega
   refine Join.at (fun s w'=>∃(i j k t:Nat),s=[.int .i64 (k:Int),.int .i64 (j:Int),.int .i64 (i:Int)]∧i<n∧j<n∧k<n∧t≤9∧Has w' w.heap.size [.int .i64 (t:Int)]∧Fr (·=w.heap.size) w1 w'∧pivR d a b=median ltInt d i j k t) ?_ ?_
   ·refine BIf_cases (fun h50=>?_) (fun h50=>?_)
    ·refine Ret.use (f262 h1 (a+(b-a)/4*1) (by omega) (by omega) hn (sw:=w.heap.size) (s:=0) n1 (by omega) hon) ?_
     obtain⟨o1,o2⟩:=madj_or ltInt d (a+(b-a)/4*1) 0
     generalize hr1:medianAdjacent ltInt d (a+(b-a)/4*1) 0=r1 at *
     rintro _ w2 ⟨rfl,n2,f2⟩
     rw [AsI_int]
     have h2:=h1.fr f2 hnew
     refine Ret.use (f262 h2 (a+(b-a)/4*2) (by omega) (by omega) hn n2 (by omega) hon) ?_
     obtain⟨o3,o4⟩:=madj_or ltInt d (a+(b-a)/4*2) r1.2
     generalize hr2:medianAdjacent ltInt d (a+(b-a)/4*2) r1.2=r2 at *
     rintro _ w3 ⟨rfl,n3,f3⟩
     rw [AsI_int]
     have h3:=h2.fr f3 hnew
     refine Ret.use (f262 h3 (a+(b-a)/4*3) (by omega) (by omega) hn n3 (by omega) hon) ?_
     obtain⟨o5,o6⟩:=madj_or ltInt d (a+(b-a)/4*3) r2.2
     generalize hr3:medianAdjacent ltInt d (a+(b-a)/4*3) r2.2=r3 at *
     rintro _ w4 ⟨rfl,n4,f4⟩
     rw [AsI_int]
     refine⟨r1.1,r2.1,r3.1,r3.2,rfl,by omega,by omega,by omega,by omega,n4,(f2.trans f3).trans f4,?_⟩
     unfold pivR
     rw [if_pos h8',if_pos (by omega),hr1,hr2,hr3]
    ·refine⟨_,_,_,0,rfl,by omega,by omega,by omega,by omega,n1,Fr.refl _ _,?_⟩
     unfold pivR
     rw [if_pos h8',if_neg (by omega)]
   ·rintro _ w2 ⟨i,j,k,t,rfl,hi,hj,hk,ht,n2,f2,hpv⟩
    simp only [UnC_cons,UnN_nil,AsI_int]
    refine Ret.use (f263 (h1.fr f2 hnew) i j k hi hj hk n2 (by omega) hon) ?_
    rintro _ w3 ⟨rfl,n3,f3⟩
    rw [AsI_int]
    refine⟨(k:Int),(i:Int),by rw [hpv],by rw [hpv];exact n3,(f1.new f2 (Nat.le_refl _)).new f3 (Nat.le_refl _)⟩
  ·have hp:pivR d a b=(a+(b-a)/4*2,0):=by unfold pivR;rw [if_neg (by omega)]
   exact⟨_,_,by rw [hp],by rw [hp];exact n1,f1⟩
 ·rintro _ w2 ⟨x,y,rfl,n2,f2⟩
  simp only [UnC_cons,UnN_nil,AsI_int]
  refine n2.ld rfl (AsI_int.2 ?_)
  unfold hintI
  refine BIf_eq (fun h0=>?_) (fun h0=>?_)
  ·rw [if_pos (by omega)];exact⟨rfl,f2⟩
  ·rw [if_neg (by omega)]
   refine BIf_eq (fun h12=>?_) (fun h12=>?_)
   ·rw [if_pos (by omega)];exact⟨rfl,f2⟩
   ·rw [if_neg (by omega)];exact⟨rfl,f2⟩
end Go.Proofs.YtmgjicnipgdjhaaGreatDoor
set_option maxRecDepth 10000
namespace Go.Proofs.YtmgjicnipgdjhaaGreatDoor
open Go Go.Sh Go.Fr Go.Sort
variable {z:Bool}
theorem bitsLen_shift {x k:Nat} (h:2^k≤x):bitsLen x=k+bitsLen (x/2^k):=by
 have hp:0<2^k:=Nat.two_pow_pos k
 apply Nat.le_antisymm
 ·rw [bitsLen_le_iff,Nat.pow_add]
  have:=lt_two_pow_bitsLen (x/2^k)
  rw [Nat.div_lt_iff_lt_mul hp] at this
  rw [Nat.mul_comm];exact this
 ·have h1:k<bitsLen x:=by
   rcases Nat.lt_or_ge k (bitsLen x) with h2|h2
   ·exact h2
   ·have:=(bitsLen_le_iff x k).1 h2;omega
  have h2:bitsLen (x/2^k)≤bitsLen x-k:=by
   rw [bitsLen_le_iff,Nat.div_lt_iff_lt_mul hp,←Nat.pow_add,show bitsLen x-k+k=bitsLen x by omega]
   exact lt_two_pow_bitsLen x
  omega
theorem bytes_len {t:ByteArray} (ht:((List.range 256).all fun i=>decide (t[i]?.map UInt8.toNat=some (bitsLen i)))=true) {i:Nat} (hi:i<256):∃J,t[i]?=some J∧J.toNat=bitsLen i:=by
 have:=List.all_eq_true.1 ht i (List.mem_range.2 hi)
 have:=of_decide_eq_true this
 obtain⟨J,h1,h2⟩:=Option.map_eq_some_iff.1 this
 exact⟨J,h1,h2⟩
theorem bitsLen_le64 {x:Nat} (hx:x<2^64):bitsLen x≤64:=(bitsLen_le_iff x 64).2 hx
theorem f222x {w:World} (x:Nat) (hx:x<2^64):Ret prog 222 #[.int .u64 (x:Int)] w fun v w'=>v=.int .i64 ((bitsLen x:Nat):Int)∧w'=w:=by
 have h64:=bitsLen_le64 hx
 refine F222_of _ _ _ ?_
 unfold F222;try dsimp only [Uiv,ui_]
 refine Join.at (fun s w'=>(∃n y:Nat,s=[.int .i64 (n:Int),.int .u64 (y:Int)]∧y<2^32∧bitsLen x=n+bitsLen y∧n≤32)∧w'=w) ?_ ?_
 ·refine BIf_cases (fun h=>?_) (fun h=>?_)
  ·have e:shrI .u64 (x:Int) 32=((x >>> 32:Nat):Int):=shrI_nat (n:=32) (by decide)
   rw [e]
   refine⟨⟨32,x >>> 32,rfl,by rw [Nat.shiftRight_eq_div_pow];omega,by rw [Nat.shiftRight_eq_div_pow];exact bitsLen_shift (by omega),by omega⟩,rfl⟩
  ·exact⟨⟨0,x,rfl,by omega,by omega,by omega⟩,rfl⟩
 ·rintro _ _ ⟨⟨n,y,rfl,hy,hb,hn⟩,hw⟩
  obtain rfl:=hw.symm
  simp only [UnC_cons,UnN_nil,AsI_int]
  refine Join.at (fun s w'=>(∃n y:Nat,s=[.int .i64 (n:Int),.int .u64 (y:Int)]∧y<2^16∧bitsLen x=n+bitsLen y∧n≤48)∧w'=w) ?_ ?_
  ·refine BIf_cases (fun h=>?_) (fun h=>?_)
   ·have e:shrI .u64 (y:Int) 16=((y >>> 16:Nat):Int):=shrI_nat (n:=16) (by decide)
    rw [e,w64 (n:=(n:Int)+16) (by omega) (by omega)]
    refine⟨⟨n+16,y >>> 16,rfl,by rw [Nat.shiftRight_eq_div_pow];omega,?_,by omega⟩,rfl⟩
    rw [Nat.shiftRight_eq_div_pow,hb,bitsLen_shift (k:=16) (x:=y) (by omega)];omega
   ·exact⟨⟨n,y,rfl,by omega,hb,by omega⟩,rfl⟩
  ·rintro _ _ ⟨⟨n,y,rfl,hy,hb,hn⟩,hw⟩
   obtain rfl:=hw.symm
   simp only [UnC_cons,UnN_nil,AsI_int]
   refine BIf_cases (fun h=>?_) (fun h=>?_)
   ·have e:shrI .u64 (y:Int) 8=((y/256:Nat):Int):=by
     rw [show shrI .u64 (y:Int) 8=((y >>> 8:Nat):Int) from shrI_nat (n:=8) (by decide),Nat.shiftRight_eq_div_pow]
    rw [e,wu8 (n:=((y/256:Nat):Int)) (by omega) (by omega),w64 (n:=(n:Int)+8) (by omega) (by omega),Int.toNat_natCast]
    obtain⟨J,hJ,hJ2⟩:=bytes_len (t:=_) (by kernel_rfl) (i:=y/256) (by omega)
    refine⟨by omega,J,hJ,?_,by trivial⟩
    have hbl:bitsLen y=8+bitsLen (y/256):=bitsLen_shift (k:=8) (by omega)
    rw [hJ2,w64 (n:=((bitsLen (y/256):Nat):Int)) (by omega) (by omega),w64 (by omega) (by omega)]
    congr 1
    omega
   ·rw [wu8 (n:=(y:Int)) (by omega) (by omega),Int.toNat_natCast]
    obtain⟨J,hJ,hJ2⟩:=bytes_len (t:=_) (by kernel_rfl) (i:=y) (by omega)
    refine⟨by omega,J,hJ,?_,by trivial⟩
    rw [hJ2,w64 (n:=((bitsLen y:Nat):Int)) (by omega) (by omega),w64 (by omega) (by omega)]
    congr 1
    omega
theorem f163x {w:World} (x:Nat) (hx:x<2^64):Ret prog 163 #[.int .u64 (x:Int)] w fun v w'=>v=.int .i64 ((bitsLen x:Nat):Int)∧w'=w:=by
 refine F163_of _ _ _ ?_
 unfold F163
 refine Ret.use (f222x x hx) ?_
 rintro _ _ ⟨rfl,hw⟩
 obtain rfl:=hw.symm
 rw [AsI_int]
 exact⟨rfl,by trivial⟩
end Go.Proofs.YtmgjicnipgdjhaaGreatDoor
set_option maxRecDepth 10000
namespace Go.Proofs.YtmgjicnipgdjhaaGreatDoor
open Go Go.Sh Go.Fr Go.Sort
variable {z:Bool}
theorem shl_mod (x n:Nat) (hn:n≤64):shlI .u64 (x:Int) (n:Int)=((x*2^n%18446744073709551616:Nat):Int):=by
 have e:shlI .u64 (x:Int) (n:Int)=IntKind.u64.wrap ((x*2^n:Nat):Int):=by
  unfold shlI
  rw [show min (n:Int).toNat IntKind.u64.bits=n from by rw [Int.toNat_natCast];exact Nat.min_eq_left hn]
  congr 1
 rw [e]
 generalize x*2^n=y
 rw [IntKind.wrap_u64]
 omega
theorem shr_div (x n:Nat) (hn:n≤64):shrI .u64 (x:Int) (n:Int)=((x/2^n:Nat):Int):=by
 rw [shrI_nat (k:=.u64) hn,Nat.shiftRight_eq_div_pow]
theorem f261 {w:World} {rb:Nat} {r:UInt64} (h:Has w rb [.int .u64 ((r.toNat:Nat):Int)]) :
  Ret prog 261 #[.pointer (some ⟨rb,0,none⟩)] w fun v w'=>v=.int .u64 (((xorNext r).toNat:Nat):Int)∧Has w' rb [.int .u64 (((xorNext r).toNat:Nat):Int)]∧Fr (·=rb) w w':=by
 have p64:(18446744073709551616:Nat)=2^64:=by decide
 have hr:r.toNat<2^64:=r.toNat_lt
 rw [xorNext_toNat]
 generalize r.toNat=x at *
 have e1:xorI .u64 (x:Int) (shlI .u64 (x:Int) 13)=((x ^^^ (x*8192%18446744073709551616):Nat):Int):=by
  rw [show (13:Int)=((13:Nat):Int) from rfl,shl_mod x 13 (by decide),xorI_u64 hr (by omega)]
 have ha:x ^^^ (x*8192%18446744073709551616)<2^64:=Nat.xor_lt_two_pow hr (by omega)
 generalize hA:x ^^^ (x*8192%18446744073709551616)=A at *
 have e2:xorI .u64 (A:Int) (shrI .u64 (A:Int) 7)=((A ^^^ (A/128):Nat):Int):=by
  rw [show (7:Int)=((7:Nat):Int) from rfl,shr_div A 7 (by decide),xorI_u64 ha (by omega)]
 have hb:A ^^^ (A/128)<2^64:=Nat.xor_lt_two_pow ha (by omega)
 have hN:xorNextN x=(A ^^^ (A/128)) ^^^ ((A ^^^ (A/128))*131072%18446744073709551616):=by unfold xorNextN;rw [hA]
 rw [hN]
 generalize hB:A ^^^ (A/128)=C at *
 have e3:xorI .u64 (C:Int) (shlI .u64 (C:Int) 17)=((C ^^^ (C*131072%18446744073709551616):Nat):Int):=by
  rw [show (17:Int)=((17:Nat):Int) from rfl,shl_mod C 17 (by decide),xorI_u64 hb (by omega)]
 refine F261_of _ _ _ ?_
 unfold F261;try dsimp only [li_]
 refine h.ld rfl (AsI_int.2 ?_)
 refine h.ld rfl (AsI_int.2 ?_)
 rw [e1]
 refine h.drew.st (by simp) rfl fun w1 n1 f1 s1=>?_
 have n1':Has w1 rb [.int .u64 (A:Int)]:=n1
 refine n1'.ld rfl (AsI_int.2 ?_)
 refine n1'.ld rfl (AsI_int.2 ?_)
 rw [e2]
 refine n1'.drew.st (by simp) rfl fun w2 n2 f2 s2=>?_
 have n2':Has w2 rb [.int .u64 (C:Int)]:=n2
 refine n2'.ld rfl (AsI_int.2 ?_)
 refine n2'.ld rfl (AsI_int.2 ?_)
 rw [e3]
 refine n2'.drew.st (by simp) rfl fun w3 n3 f3 s3=>?_
 refine n3.ld rfl (AsI_int.2 ?_)
 exact⟨rfl,n3,(f1.of_drew.trans f2.of_drew).trans f3.of_drew⟩
theorem f260 {w:World} (x:Nat) (hx:x<2^63):Ret prog 260 #[.int .i64 (x:Int)] w fun v w'=>v=.int .u64 (((1 <<< bitsLen x:Nat)):Int)∧w'=w:=by
 refine F260_of _ _ _ ?_
 unfold F260
 rw [wu64 (n:=(x:Int)) (by omega) (by omega)]
 refine Ret.use (f163x x (by omega)) ?_
 rintro _ _ ⟨rfl,hw⟩
 obtain rfl:=hw.symm
 rw [AsI_int]
 refine NN.mk (by omega) ?_
 have hb:bitsLen x≤63:=(bitsLen_le_iff x 63).2 hx
 refine⟨?_,by trivial⟩
 rw [show (1:Int)=((1:Nat):Int) from rfl,shlI_u64 (by omega) (by rw [Nat.one_shiftLeft];exact Nat.pow_lt_pow_right (by decide) (by omega))]
def iterB (a L m idx:Nat) (s:UInt64×Array Int):Nat→UInt64×Array Int
 | 0=>s
 | k+1=>breakStep a L m (iterB a L m idx s k) (idx+k)
theorem f214 {w:World} {B n c:Nat} {p:Option Addr} {d:Array Int} (h:ArU z w B p n c d) (a b:Nat) (hab:a≤b) (hb:b≤n) (hn:n≤1000000000000) :
  Ret prog (nz z 214 238) #[.slice p n c,.int .i64 (a:Int),.int .i64 (b:Int)] w fun v w'=>v=.tuple #[]∧ArU z w' B p n c (breakPatterns d a b)∧Fr (On p) w w':=by
 refine F214z_of z _ _ _ _ _ _ _ ?_
 unfold F214z;try dsimp only [ui_]
 have e1:IntKind.i64.wrap ((b:Int)-(a:Int))=((b-a:Nat):Int):=by rw [w64 (by omega) (by omega)];omega
 simp only [e1]
 refine BIf_cases (fun h8=>?_) (fun h8=>?_)
 ·have h8':b-a≥8:=by omega
  refine New.mk fun w1 n1 f1 s1=>?_
  rw [wu64 (n:=((b-a:Nat):Int)) (by omega) (by omega)]
  refine n1.st (by simp) rfl fun w2 n2 f2 s2=>?_
  have hnew:∀b,On p b→¬b=w.heap.size:=fun b hb e=>by have:=(h.sl.lt b hb).2;omega
  have h2:=(h.fr f1 (fun _ _ h=>h)).fr f2 hnew
  have f02:Fr0 w w2:=f1.new f2 (Nat.le_refl _)
  refine Ret.use (f260 (b-a) (by omega)) ?_
  rintro _ _ ⟨rfl,hw⟩
  obtain rfl:=hw.symm
  rw [AsI_int]
  have hm1:=two_pow_bitsLen_le (n:=b-a) (by omega)
  have hmpos:0<2^bitsLen (b-a):=Nat.two_pow_pos _
  have hms:(1 <<< bitsLen (b-a):Nat)=2^bitsLen (b-a):=Nat.one_shiftLeft _
  obtain⟨m,hm⟩:∃m:Nat,m=1 <<< bitsLen (b-a):=⟨_,rfl⟩
  rw [←hm]
  have e4:IntKind.i64.wrap ((((b-a:Nat):Int)).tdiv 4)=(((b-a)/4:Nat):Int):=by
   rw [show (4:Int)=((4:Nat):Int) from rfl,←Int.ofNat_tdiv,w64 (by omega) (by omega)]
  have m2:IntKind.i64.wrap ((((b-a)/4:Nat):Int)*2)=(((b-a)/4*2:Nat):Int):=by rw [w64 (by omega) (by omega)];omega
  have k2:IntKind.i64.wrap ((a:Int)+(((b-a)/4*2:Nat):Int))=((a+(b-a)/4*2:Nat):Int):=by rw [w64 (by omega) (by omega)];omega
  have k3:IntKind.i64.wrap (((a+(b-a)/4*2:Nat):Int)-1)=((a+(b-a)/4*2-1:Nat):Int):=by rw [w64 (by omega) (by omega)];omega
  have k4:IntKind.i64.wrap (((a+(b-a)/4*2:Nat):Int)+1)=((a+(b-a)/4*2+1:Nat):Int):=by rw [w64 (by omega) (by omega)];omega
  simp only [e4,m2,k2,k3,k4]
  have hL:(UInt64.ofNat (b-a)).toNat=b-a:=by rw [UInt64.toNat_ofNat'];exact Nat.mod_eq_of_lt (by omega)
  have n2':Has w2 w.heap.size [.int .u64 (((iterB a (b-a) m (a+(b-a)/4*2-1) (UInt64.ofNat (b-a),d) 0).1.toNat:Nat):Int)]:=by
   show Has w2 w.heap.size [.int .u64 (((UInt64.ofNat (b-a)).toNat:Nat):Int)]
   rw [hL];exact n2
  refine Loop.by (fun s w'=>∃k:Nat,k≤3∧s=[.int .i64 ((a+(b-a)/4*2-1+k:Nat):Int)]∧ArU z w' B p n c (iterB a (b-a) m (a+(b-a)/4*2-1) (UInt64.ofNat (b-a),d) k).2∧Has w' w.heap.size [.int .u64 (((iterB a (b-a) m (a+(b-a)/4*2-1) (UInt64.ofNat (b-a),d) k).1.toNat:Nat):Int)]∧Fr (On p) w w')
   (fun s _=>match s with | [.int _ i]=>a+b+2-i.toNat|_=>0) ⟨0,by omega,by simp,h2,n2',f02.mono fun _ _ h=>h.elim⟩ ?_
  rintro _ w3 ⟨k,hk,rfl,h3,n3,f3⟩
  simp only [UnC_cons,UnN_nil,AsI_int]
  refine BIf_cases (fun hle=>?_) (fun hgt=>?_)
  ·refine Ret.use (f261 n3) ?_
   rintro _ w4 ⟨rfl,n4,f4⟩
   rw [AsI_int]
   have h4:=h3.fr f4 hnew
   obtain⟨st,hst⟩:∃st,st=iterB a (b-a) m (a+(b-a)/4*2-1) (UInt64.ofNat (b-a),d) k:=⟨_,rfl⟩
   rw [←hst] at n4 h4 ⊢
   have hand:IntKind.i64.wrap (andI .u64 (((xorNext st.1).toNat:Nat):Int) (IntKind.u64.wrap ((m:Int)-1)))=(((xorNext st.1).toNat &&& (m-1):Nat):Int):=by
    rw [wu64 (n:=(m:Int)-1) (by omega) (by omega),show (m:Int)-1=((m-1:Nat):Int) by omega,andI_u64 (xorNext st.1).toNat_lt (by omega)]
    have:(xorNext st.1).toNat &&& (m-1)≤m-1:=Nat.and_le_right
    rw [w64 (by omega) (by omega)]
   have hlt:(xorNext st.1).toNat &&& (m-1)≤m-1:=Nat.and_le_right
   simp only [hand]
   obtain⟨o,ho⟩:∃o,o=if (xorNext st.1).toNat &&& (m-1)≥b-a then ((xorNext st.1).toNat &&& (m-1))-(b-a) else (xorNext st.1).toNat &&& (m-1):=⟨_,rfl⟩
   have hoL:o<b-a:=by rw [ho];split<;>omega
   have hstep:breakStep a (b-a) m st (a+(b-a)/4*2-1+k)=(xorNext st.1,swp st.2 (a+(b-a)/4*2-1+k) (a+o)):=by rw [ho];rfl
   refine Join.at (fun s w'=>s=[.int .i64 (o:Int)]∧w'=w4) ?_ ?_
   ·refine BIf_cases (fun hge=>?_) (fun hlt'=>?_)
    ·refine⟨?_,rfl⟩
     rw [w64 (by omega) (by omega),ho,if_pos (by omega)]
     congr 2
     omega
    ·refine⟨?_,rfl⟩
     rw [ho,if_neg (by omega)]
   ·rintro _ _ ⟨rfl,hw⟩
    obtain rfl:=hw.symm
    simp only [UnC_cons,UnN_nil,AsI_int]
    have e5:IntKind.i64.wrap ((a:Int)+(o:Int))=((a+o:Nat):Int):=by rw [w64 (by omega) (by omega)];omega
    simp only [e5]
    refine h4.drew.rd rfl (by omega) ?_
    refine h4.drew.rd rfl (by omega) ?_
    refine h4.drew.sw (i:=a+(b-a)/4*2-1+k) (j:=a+o) rfl rfl (by omega) (by omega) rfl rfl fun w5 h5 f5=>?_
    replace f5:=f5.of_drew
    rw [w64 (n:=((a+(b-a)/4*2-1+k:Nat):Int)+1) (by omega) (by omega)]
    have hnn:¬On p w.heap.size:=fun hx=>hnew _ hx rfl
    refine⟨⟨k+1,by omega,by congr 2,?_,?_,?_⟩,(by first|omega|(simp only [Int.toNat_natCast];omega))⟩
    ·show ArU z w5 B p n c (breakStep a (b-a) m (iterB a (b-a) m (a+(b-a)/4*2-1) (UInt64.ofNat (b-a),d) k) (a+(b-a)/4*2-1+k)).2
     rw [←hst,hstep];exact h5
    ·show Has w5 w.heap.size [.int .u64 (((breakStep a (b-a) m (iterB a (b-a) m (a+(b-a)/4*2-1) (UInt64.ofNat (b-a),d) k) (a+(b-a)/4*2-1+k)).1.toNat:Nat):Int)]
     rw [←hst,hstep];exact n4.fr f5 hnn
    ·exact (f3.thenS f4 fun x hx e=>by have e:x=w.heap.size:=e;omega).trans f5
  ·obtain rfl:k=3:=by omega
   refine⟨by trivial,?_,f3⟩
   have:breakPatterns d a b=(iterB a (b-a) m (a+(b-a)/4*2-1) (UInt64.ofNat (b-a),d) 3).2:=by
    unfold breakPatterns
    simp only [if_pos h8',hm]
    rfl
   rw [this]
   exact h3
 ·have:breakPatterns d a b=d:=by unfold breakPatterns;simp only [if_neg (show ¬b-a≥8 by omega)]
  exact⟨by trivial,by rw [this];exact h,Fr.refl _ _⟩
end Go.Proofs.YtmgjicnipgdjhaaGreatDoor
set_option maxRecDepth 10000
namespace Go.Proofs.YtmgjicnipgdjhaaGreatDoor
open Go Go.Sh Go.Fr Go.Sort
variable {z:Bool}
theorem f219 {w:World} {B n c:Nat} {p:Option Addr} {d:Array Int} (h:ArU z w B p n c d) (a b pv:Nat) (hap:a≤pv) (hpb:pv<b) (hb:b≤n) (hn:n≤1000000000000) :
  Ret prog (nz z 219 243) #[.slice p n c,.int .i64 (a:Int),.int .i64 (b:Int),.int .i64 (pv:Int)] w fun v w'=>v=.int .i64 (((partitionEqual ltInt d a b pv).1:Nat):Int)∧ArU z w' B p n c (partitionEqual ltInt d a b pv).2∧Fr (On p) w w':=by
 refine F219z_of z _ _ _ _ _ _ _ _ ?_
 unfold F219z;try dsimp only [Uii,ui_]
 refine h.rd rfl (by omega) ?_
 refine h.rd rfl (by omega) ?_
 refine h.drew.sw (i:=a) (j:=pv) rfl rfl (by omega) (by omega) rfl rfl fun w1 h1 f1=>?_
 replace f1:=f1.of_drew
 have e1:IntKind.i64.wrap ((b:Int)-1)=((b-1:Nat):Int):=by rw [w64 (by omega) (by omega)];omega
 have e2:IntKind.i64.wrap ((a:Int)+1)=((a+1:Nat):Int):=by rw [w64 (by omega) (by omega)];omega
 rw [e1,e2]
 refine Loop.by (fun s w'=>∃(i j:Nat) (e:Array Int),a<i∧i≤n∧j<n∧s=[.int .i64 (j:Int),.int .i64 (i:Int)]∧ArU z w' B p n c e∧Fr (On p) w w'∧partEqLoop ltInt a i j e=partitionEqual ltInt d a b pv) (fun s _=>match s with | [.int _ j,.int _ i]=>j.toNat+1-i.toNat|_=>0)
  ⟨a+1,b-1,_,by omega,by omega,by omega,rfl,h1,f1,rfl⟩ ?_
 rintro _ w2 ⟨i,j,e,hi1,hi2,hj,rfl,h2,f2,hres⟩
 simp only [UnC_cons,UnN_nil,AsI_int]
 rw [partEqLoop] at hres
 refine Join.at (fun s w'=>∃i2:Nat,s=[.int .i64 (i2:Int)]∧i2=scanUp (fun x=>!ltInt e[a]! x) e j i∧i≤i2∧i2≤n∧ArU z w' B p n c e∧Fr (On p) w w') ?_ ?_
 ·refine Loop.by (fun s w'=>∃i2:Nat,s=[.int .i64 (i2:Int)]∧scanUp (fun x=>!ltInt e[a]! x) e j i2=scanUp (fun x=>!ltInt e[a]! x) e j i∧i≤i2∧i2≤n∧ArU z w' B p n c e∧Fr (On p) w w') (fun s _=>match s with | [.int _ i]=>n-i.toNat|_=>0)
   ⟨i,rfl,rfl,Nat.le_refl _,hi2,h2,f2⟩ ?_
  rintro _ w3 ⟨i2,rfl,hs,k1,k2,h3,f3⟩
  simp only [UnC_cons,UnN_nil,AsI_int]
  rw [scanUp] at hs
  refine BIf_cases (fun hle=>?_) (fun hgt=>?_)
  ·refine h3.rd rfl (by omega) ?_
   refine h3.rd rfl (by omega) ?_
   refine Ret.use (f218 _ _) ?_
   rintro _ _ ⟨rfl,hw⟩
   obtain rfl:=hw.symm
   rw [AsB_bool]
   refine BIf_not.2 (BIf_b (fun hl=>?_) (fun hl=>?_))
   ·rw [if_neg (by rw [hl];simp)] at hs
    exact⟨i2,rfl,hs,k1,k2,h3.drew,f3.drew⟩
   ·rw [if_pos (by rw [hl,decide_eq_true (show i2≤j by omega)];rfl)] at hs
    rw [w64 (n:=(i2:Int)+1) (by omega) (by omega)]
    exact⟨⟨i2+1,rfl,hs,by omega,by omega,h3.drew,f3.drew⟩,(by first|omega|(simp only [Int.toNat_natCast];omega))⟩
  ·rw [if_neg (by rw [decide_eq_false (show ¬i2≤j by omega)];simp)] at hs
   exact⟨i2,rfl,hs,k1,k2,h3.drew,f3.drew⟩
 ·rintro _ w3 ⟨i2,rfl,hs,k1,k2,h3,f3⟩
  simp only [UnC_cons,UnN_nil,AsI_int]
  rw [←hs] at hres
  have hguard:=partEqLoop_guard (lt:=ltInt) a i j e
  rw [←hs] at hguard
  refine Join.at (fun s w'=>∃j2:Nat,s=[.int .i64 (j2:Int)]∧j2=scanDown (fun x=>ltInt e[a]! x) e i2 j∧j2≤j∧ArU z w' B p n c e∧Fr (On p) w w') ?_ ?_
  ·refine Loop.by (fun s w'=>∃j2:Nat,s=[.int .i64 (j2:Int)]∧scanDown (fun x=>ltInt e[a]! x) e i2 j2=scanDown (fun x=>ltInt e[a]! x) e i2 j∧j2≤j∧ArU z w' B p n c e∧Fr (On p) w w') (fun s _=>match s with | [.int _ i]=>i.toNat|_=>0)
    ⟨j,rfl,rfl,Nat.le_refl _,h3,f3⟩ ?_
   rintro _ w4 ⟨j2,rfl,hd,k3,h4,f4⟩
   simp only [UnC_cons,UnN_nil,AsI_int]
   refine BIf_cases (fun hle=>?_) (fun hgt=>?_)
   ·obtain⟨j3,rfl⟩:∃j3,j2=j3+1:=⟨j2-1,by omega⟩
    rw [scanDown] at hd
    refine h4.rd rfl (by omega) ?_
    refine h4.rd rfl (by omega) ?_
    refine Ret.use (f218 _ _) ?_
    rintro _ _ ⟨rfl,hw⟩
    obtain rfl:=hw.symm
    rw [AsB_bool]
    refine BIf_b (fun hl=>?_) (fun hl=>?_)
    ·rw [if_pos (by rw [hl,decide_eq_true (show i2≤j3+1 by omega)];rfl)] at hd
     have ej:IntKind.i64.wrap (((j3+1:Nat):Int)-1)=(j3:Int):=by rw [w64 (by omega) (by omega)];omega
     rw [ej]
     exact⟨⟨j3,rfl,hd,by omega,h4.drew,f4.drew⟩,(by first|omega|(simp only [Int.toNat_natCast];omega))⟩
    ·rw [if_neg (by rw [hl];simp)] at hd
     exact⟨j3+1,rfl,hd,k3,h4.drew,f4.drew⟩
   ·refine⟨j2,rfl,?_,k3,h4.drew,f4.drew⟩
    rw [←hd]
    cases j2 with
    | zero=>rfl
    | succ j3=>rw [scanDown,if_neg (by rw [decide_eq_false (show ¬i2≤j3+1 by omega)];simp)]
  ·rintro _ w4 ⟨j2,rfl,hd,k3,h4,f4⟩
   simp only [UnC_cons,UnN_nil,AsI_int]
   rw [←hd] at hres hguard
   refine BIf_cases (fun hgt=>?_) (fun hle=>?_)
   ·rw [if_pos (by omega)] at hres
    rw [←hres]
    exact⟨rfl,h4,f4⟩
   ·rw [if_neg (by omega),dif_pos (hguard (by omega))] at hres
    have e3:IntKind.i64.wrap ((j2:Int)-1)=((j2-1:Nat):Int):=by rw [w64 (by omega) (by omega)];omega
    have e4:IntKind.i64.wrap ((i2:Int)+1)=((i2+1:Nat):Int):=by rw [w64 (by omega) (by omega)];omega
    simp only [e3,e4]
    refine h4.rd rfl (by omega) ?_
    refine h4.rd rfl (by omega) ?_
    refine h4.drew.sw (i:=i2) (j:=j2) rfl rfl (by omega) (by omega) rfl rfl fun w5 h5 f5=>?_
    exact⟨⟨i2+1,j2-1,_,by omega,by omega,by omega,rfl,h5,f4.trans f5.of_drew,hres⟩,(by first|omega|(simp only [Int.toNat_natCast];omega))⟩
end Go.Proofs.YtmgjicnipgdjhaaGreatDoor
set_option maxRecDepth 10000
namespace Go.Proofs.YtmgjicnipgdjhaaGreatDoor
open Go Go.Sh Go.Fr Go.Sort
variable {z:Bool}
theorem up220 {w:World} {B n c:Nat} {p:Option Addr} {d:Array Int} (h:ArU z w B p n c d) (a i jj:Nat) (ha:a<n) (hi:i≤n) (hj:jj<n) (hn:n≤1000000000000) {Kn:List Value→World→Prop}
  (k:∀(i2:Nat) w',i2=scanUp (fun x=>ltInt x d[a]!) d jj i→i≤i2→i2≤n→ArU z w' B p n c d→Fr (On p) w w'→Kn [.int .i64 (i2:Int)] w') :
  Sh.Loop [.int .i64 (i:Int)] w fun J s w'=>UnC s fun v s'=>AsI .i64 v fun i'=>UnN s' (BIf (decide (i'≤(jj:Int))) (NilP p fun a1=>0≤i'∧i'<(n:Int)∧Ld w' (at0 a1 (i'.toNat*1)) fun v1=>AsI (kd z) v1 fun x1 =>
   NilP p fun a2=>0≤(a:Int)∧(a:Int)<(n:Int)∧Ld w' (at0 a2 ((a:Int).toNat*1)) fun v2=>AsI (kd z) v2 fun x2=>CallS prog (nz z 218 242) #[.int (kd z) x1,.int (kd z) x2] w'.drew fun v3 w3=>AsB v3 fun b3 =>
   BIf b3 (J [.int .i64 (IntKind.i64.wrap (i'+1))] w3) (Kn [.int .i64 i'] w3)) (Kn [.int .i64 i'] w'.drew)):=by
 refine Loop.by (fun s w'=>∃i2:Nat,s=[.int .i64 (i2:Int)]∧scanUp (fun x=>ltInt x d[a]!) d jj i2=scanUp (fun x=>ltInt x d[a]!) d jj i∧i≤i2∧i2≤n∧ArU z w' B p n c d∧Fr (On p) w w') (fun s _=>match s with | [.int _ i]=>n-i.toNat|_=>0)
  ⟨i,rfl,rfl,Nat.le_refl _,hi,h,Fr.refl _ _⟩ ?_
 rintro _ w3 ⟨i2,rfl,hs,k1,k2,h3,f3⟩
 simp only [UnC_cons,UnN_nil,AsI_int]
 rw [scanUp] at hs
 refine BIf_cases (fun hle=>?_) (fun hgt=>?_)
 ·refine h3.rd rfl (by omega) ?_
  refine h3.rd rfl (by omega) ?_
  refine Ret.use (f218 _ _) ?_
  rintro _ _ ⟨rfl,hw⟩
  obtain rfl:=hw.symm
  rw [AsB_bool]
  refine BIf_b (fun hl=>?_) (fun hl=>?_)
  ·rw [if_pos (by rw [hl,decide_eq_true (show i2≤jj by omega)];rfl)] at hs
   rw [w64 (n:=(i2:Int)+1) (by omega) (by omega)]
   exact⟨⟨i2+1,rfl,hs,by omega,by omega,h3.drew,f3.drew⟩,(by first|omega|(simp only [Int.toNat_natCast];omega))⟩
  ·rw [if_neg (by rw [hl];simp)] at hs
   exact k i2 _ hs k1 k2 h3.drew f3.drew
 ·rw [if_neg (by rw [decide_eq_false (show ¬i2≤jj by omega)];simp)] at hs
  exact k i2 _ hs k1 k2 h3.drew f3.drew
theorem down220 {w:World} {B n c:Nat} {p:Option Addr} {d:Array Int} (h:ArU z w B p n c d) (a i2 j:Nat) (ha:a<n) (hi:1≤i2) (hj:j<n) (hn:n≤1000000000000) {Kn:List Value→World→Prop}
  (k:∀(j2:Nat) w',j2=scanDown (fun x=>!ltInt x d[a]!) d i2 j→j2≤j→ArU z w' B p n c d→Fr (On p) w w'→Kn [.int .i64 (j2:Int)] w') :
  Sh.Loop [.int .i64 (j:Int)] w fun J s w'=>UnC s fun v s'=>AsI .i64 v fun j'=>UnN s' (BIf (decide ((i2:Int)≤j')) (NilP p fun a1=>0≤j'∧j'<(n:Int)∧Ld w' (at0 a1 (j'.toNat*1)) fun v1=>AsI (kd z) v1 fun x1 =>
   NilP p fun a2=>0≤(a:Int)∧(a:Int)<(n:Int)∧Ld w' (at0 a2 ((a:Int).toNat*1)) fun v2=>AsI (kd z) v2 fun x2=>CallS prog (nz z 218 242) #[.int (kd z) x1,.int (kd z) x2] w'.drew fun v3 w3=>AsB v3 fun b3 =>
   BIf (!b3) (J [.int .i64 (IntKind.i64.wrap (j'-1))] w3) (Kn [.int .i64 j'] w3)) (Kn [.int .i64 j'] w'.drew)):=by
 refine Loop.by (fun s w'=>∃j2:Nat,s=[.int .i64 (j2:Int)]∧scanDown (fun x=>!ltInt x d[a]!) d i2 j2=scanDown (fun x=>!ltInt x d[a]!) d i2 j∧j2≤j∧ArU z w' B p n c d∧Fr (On p) w w') (fun s _=>match s with | [.int _ i]=>i.toNat|_=>0)
  ⟨j,rfl,rfl,Nat.le_refl _,h,Fr.refl _ _⟩ ?_
 rintro _ w4 ⟨j2,rfl,hd,k3,h4,f4⟩
 simp only [UnC_cons,UnN_nil,AsI_int]
 refine BIf_cases (fun hle=>?_) (fun hgt=>?_)
 ·obtain⟨j3,rfl⟩:∃j3,j2=j3+1:=⟨j2-1,by omega⟩
  rw [scanDown] at hd
  refine h4.rd rfl (by omega) ?_
  refine h4.rd rfl (by omega) ?_
  refine Ret.use (f218 _ _) ?_
  rintro _ _ ⟨rfl,hw⟩
  obtain rfl:=hw.symm
  rw [AsB_bool]
  refine BIf_not.2 (BIf_b (fun hl=>?_) (fun hl=>?_))
  ·rw [if_neg (by rw [hl];simp)] at hd
   exact k (j3+1) _ hd k3 h4.drew f4.drew
  ·rw [if_pos (by rw [hl,decide_eq_true (show i2≤j3+1 by omega)];rfl)] at hd
   have ej:IntKind.i64.wrap (((j3+1:Nat):Int)-1)=(j3:Int):=by rw [w64 (by omega) (by omega)];omega
   rw [ej]
   exact⟨⟨j3,rfl,hd,by omega,h4.drew,f4.drew⟩,(by first|omega|(simp only [Int.toNat_natCast];omega))⟩
 ·refine k j2 _ ?_ k3 h4.drew f4.drew
  rw [←hd]
  cases j2 with
  | zero=>rfl
  | succ j3=>rw [scanDown,if_neg (by rw [decide_eq_false (show ¬i2≤j3+1 by omega)];simp)]
theorem f220 {w:World} {B n c:Nat} {p:Option Addr} {d:Array Int} (h:ArU z w B p n c d) (a b pv:Nat) (hap:a≤pv) (hpb:pv<b) (hb:b≤n) (hn:n≤1000000000000) :
  Ret prog (nz z 220 244) #[.slice p n c,.int .i64 (a:Int),.int .i64 (b:Int),.int .i64 (pv:Int)] w fun v w'=>v=.tuple #[.int .i64 (((partition ltInt d a b pv).1:Nat):Int),.bool (partition ltInt d a b pv).2.1]∧ArU z w' B p n c (partition ltInt d a b pv).2.2∧Fr (On p) w w':=by
 refine F220z_of z _ _ _ _ _ _ _ _ ?_
 unfold F220z;try dsimp only [Uii,ui_]
 refine h.rd rfl (by omega) ?_
 refine h.rd rfl (by omega) ?_
 refine h.drew.sw (i:=a) (j:=pv) rfl rfl (by omega) (by omega) rfl rfl fun w1 h1 f1=>?_
 replace f1:=f1.of_drew
 have e1:IntKind.i64.wrap ((b:Int)-1)=((b-1:Nat):Int):=by rw [w64 (by omega) (by omega)];omega
 have e2:IntKind.i64.wrap ((a:Int)+1)=((a+1:Nat):Int):=by rw [w64 (by omega) (by omega)];omega
 rw [e1,e2]
 have hpart:partition ltInt d a b pv=if scanUp (fun x=>ltInt x (swp d a pv)[a]!) (swp d a pv) (b-1) (a+1)>scanDown (fun x=>!ltInt x (swp d a pv)[a]!) (swp d a pv) (scanUp (fun x=>ltInt x (swp d a pv)[a]!) (swp d a pv) (b-1) (a+1)) (b-1) then
   (scanDown (fun x=>!ltInt x (swp d a pv)[a]!) (swp d a pv) (scanUp (fun x=>ltInt x (swp d a pv)[a]!) (swp d a pv) (b-1) (a+1)) (b-1),true,swp (swp d a pv) (scanDown (fun x=>!ltInt x (swp d a pv)[a]!) (swp d a pv) (scanUp (fun x=>ltInt x (swp d a pv)[a]!) (swp d a pv) (b-1) (a+1)) (b-1)) a)
   else ((partLoop ltInt a (scanUp (fun x=>ltInt x (swp d a pv)[a]!) (swp d a pv) (b-1) (a+1)+1) (scanDown (fun x=>!ltInt x (swp d a pv)[a]!) (swp d a pv) (scanUp (fun x=>ltInt x (swp d a pv)[a]!) (swp d a pv) (b-1) (a+1)) (b-1)-1) (swp (swp d a pv) (scanUp (fun x=>ltInt x (swp d a pv)[a]!) (swp d a pv) (b-1) (a+1)) (scanDown (fun x=>!ltInt x (swp d a pv)[a]!) (swp d a pv) (scanUp (fun x=>ltInt x (swp d a pv)[a]!) (swp d a pv) (b-1) (a+1)) (b-1)))).1,false,
    swp (partLoop ltInt a (scanUp (fun x=>ltInt x (swp d a pv)[a]!) (swp d a pv) (b-1) (a+1)+1) (scanDown (fun x=>!ltInt x (swp d a pv)[a]!) (swp d a pv) (scanUp (fun x=>ltInt x (swp d a pv)[a]!) (swp d a pv) (b-1) (a+1)) (b-1)-1) (swp (swp d a pv) (scanUp (fun x=>ltInt x (swp d a pv)[a]!) (swp d a pv) (b-1) (a+1)) (scanDown (fun x=>!ltInt x (swp d a pv)[a]!) (swp d a pv) (scanUp (fun x=>ltInt x (swp d a pv)[a]!) (swp d a pv) (b-1) (a+1)) (b-1)))).2
     (partLoop ltInt a (scanUp (fun x=>ltInt x (swp d a pv)[a]!) (swp d a pv) (b-1) (a+1)+1) (scanDown (fun x=>!ltInt x (swp d a pv)[a]!) (swp d a pv) (scanUp (fun x=>ltInt x (swp d a pv)[a]!) (swp d a pv) (b-1) (a+1)) (b-1)-1) (swp (swp d a pv) (scanUp (fun x=>ltInt x (swp d a pv)[a]!) (swp d a pv) (b-1) (a+1)) (scanDown (fun x=>!ltInt x (swp d a pv)[a]!) (swp d a pv) (scanUp (fun x=>ltInt x (swp d a pv)[a]!) (swp d a pv) (b-1) (a+1)) (b-1)))).1 a):=rfl
 generalize hd0:swp d a pv=d0 at *
 obtain⟨K1,hK1⟩:∃K1:List Value→World→Prop,K1=fun s w'=>∃i2:Nat,s=[.int .i64 (i2:Int)]∧i2=scanUp (fun x=>ltInt x d0[a]!) d0 (b-1) (a+1)∧a+1≤i2∧i2≤n∧ArU z w' B p n c d0∧Fr (On p) w w':=⟨_,rfl⟩
 refine Join.at K1 ?_ ?_
 ·exact up220 h1 a (a+1) (b-1) (by omega) (by omega) (by omega) hn fun i2 w' q1 q2 q3 q4 q5=>by rw [hK1];exact⟨i2,rfl,q1,q2,q3,q4,f1.trans q5⟩
 ·intro _ w2 hh;rw [hK1] at hh;obtain⟨i,hs0,hi,hi1,hi2,h2,f2⟩:=hh;subst hs0
  simp only [UnC_cons,UnN_nil,AsI_int]
  rw [←hi] at hpart
  obtain⟨K2,hK2⟩:∃K2:List Value→World→Prop,K2=fun s w'=>∃j2:Nat,s=[.int .i64 (j2:Int)]∧j2=scanDown (fun x=>!ltInt x d0[a]!) d0 i (b-1)∧j2≤b-1∧ArU z w' B p n c d0∧Fr (On p) w w':=⟨_,rfl⟩
  refine Join.at K2 ?_ ?_
  ·exact down220 h2 a i (b-1) (by omega) (by omega) (by omega) hn fun j2 w' q1 q2 q3 q4=>by rw [hK2];exact⟨j2,rfl,q1,q2,q3,f2.trans q4⟩
  ·intro _ w3 hh;rw [hK2] at hh;obtain⟨j,hs0,hj,hj1,h3,f3⟩:=hh;subst hs0
   simp only [UnC_cons,UnN_nil,AsI_int]
   rw [←hj] at hpart
   refine BIf_cases (fun hgt=>?_) (fun hle=>?_)
   ·rw [if_pos (by omega)] at hpart
    rw [hpart]
    refine h3.rd rfl (by omega) ?_
    refine h3.rd rfl (by omega) ?_
    refine h3.drew.sw (i:=j) (j:=a) rfl rfl (by omega) (by omega) rfl rfl fun w4 h4 f4=>?_
    exact⟨rfl,h4,f3.trans f4.of_drew⟩
   ·rw [if_neg (by omega)] at hpart
    have e3:IntKind.i64.wrap ((j:Int)-1)=((j-1:Nat):Int):=by rw [w64 (by omega) (by omega)];omega
    have e4:IntKind.i64.wrap ((i:Int)+1)=((i+1:Nat):Int):=by rw [w64 (by omega) (by omega)];omega
    simp only [e3,e4]
    refine h3.rd rfl (by omega) ?_
    refine h3.rd rfl (by omega) ?_
    refine h3.drew.sw (i:=i) (j:=j) rfl rfl (by omega) (by omega) rfl rfl fun w4 h4 f4=>?_
    obtain⟨r,hr⟩:∃r,r=partLoop ltInt a (i+1) (j-1) (swp d0 i j):=⟨_,rfl⟩
    rw [←hr] at hpart
    rw [hpart]
    refine Loop.by (fun s w'=>∃(i j:Nat) (e:Array Int),a<i∧i≤n∧j<n∧s=[.int .i64 (j:Int),.int .i64 (i:Int)]∧ArU z w' B p n c e∧Fr (On p) w w'∧partLoop ltInt a i j e=r) (fun s _=>match s with | [.int _ j,.int _ i]=>j.toNat+1-i.toNat|_=>0)
     ⟨i+1,j-1,_,by omega,by omega,by omega,rfl,h4,f3.trans f4.of_drew,hr.symm⟩ ?_
    rintro _ w5 ⟨i5,j5,e,k1,k2,k3,rfl,h5,f5,hres⟩
    simp only [UnC_cons,UnN_nil,AsI_int]
    rw [partLoop_eq] at hres
    obtain⟨K3,hK3⟩:∃K3:List Value→World→Prop,K3=fun s w'=>∃i2:Nat,s=[.int .i64 (i2:Int)]∧i2=scanUp (fun x=>ltInt x e[a]!) e j5 i5∧i5≤i2∧i2≤n∧ArU z w' B p n c e∧Fr (On p) w w':=⟨_,rfl⟩
    refine Join.at K3 ?_ ?_
    ·exact up220 h5 a i5 j5 (by omega) (by omega) (by omega) hn fun i2 w' q1 q2 q3 q4 q5=>by rw [hK3];exact⟨i2,rfl,q1,q2,q3,q4,f5.trans q5⟩
    ·intro _ w6 hh;rw [hK3] at hh;obtain⟨i6,hs0,hi6,q1,q2,h6,f6⟩:=hh;subst hs0
     simp only [UnC_cons,UnN_nil,AsI_int]
     rw [←hi6] at hres
     obtain⟨K4,hK4⟩:∃K4:List Value→World→Prop,K4=fun s w'=>∃j2:Nat,s=[.int .i64 (j2:Int)]∧j2=scanDown (fun x=>!ltInt x e[a]!) e i6 j5∧j2≤j5∧ArU z w' B p n c e∧Fr (On p) w w':=⟨_,rfl⟩
     refine Join.at K4 ?_ ?_
     ·exact down220 h6 a i6 j5 (by omega) (by omega) (by omega) hn fun j2 w' q1 q2 q3 q4=>by rw [hK4];exact⟨j2,rfl,q1,q2,q3,f6.trans q4⟩
     ·intro _ w7 hh;rw [hK4] at hh;obtain⟨j7,hs0,hj7,q3,h7,f7⟩:=hh;subst hs0
      simp only [UnC_cons,UnN_nil,AsI_int]
      rw [←hj7] at hres
      refine BIf_cases (fun hgt7=>?_) (fun hle7=>?_)
      ·rw [if_pos (by omega)] at hres
       rw [←hres]
       refine h7.rd rfl (by omega) ?_
       refine h7.rd rfl (by omega) ?_
       refine h7.drew.sw (i:=j7) (j:=a) rfl rfl (by omega) (by omega) rfl rfl fun w8 h8 f8=>?_
       exact⟨rfl,h8,f7.trans f8.of_drew⟩
      ·rw [if_neg (by omega)] at hres
       have e5:IntKind.i64.wrap ((j7:Int)-1)=((j7-1:Nat):Int):=by rw [w64 (by omega) (by omega)];omega
       have e6:IntKind.i64.wrap ((i6:Int)+1)=((i6+1:Nat):Int):=by rw [w64 (by omega) (by omega)];omega
       simp only [e5,e6]
       refine h7.rd rfl (by omega) ?_
       refine h7.rd rfl (by omega) ?_
       refine h7.drew.sw (i:=i6) (j:=j7) rfl rfl (by omega) (by omega) rfl rfl fun w8 h8 f8=>?_
       exact⟨⟨i6+1,j7-1,_,by omega,by omega,by omega,rfl,h8,f7.trans f8.of_drew,hres⟩,(by first|omega|(simp only [Int.toNat_natCast];omega))⟩
end Go.Proofs.YtmgjicnipgdjhaaGreatDoor
