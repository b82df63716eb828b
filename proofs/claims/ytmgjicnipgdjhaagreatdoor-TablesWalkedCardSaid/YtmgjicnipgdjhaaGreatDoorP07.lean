import Derived.Test.YtmgjicnipgdjhaaGreatDoorP06
import Derived.Sort.AssemblyPlain
import Derived.Sort.LotD5
set_option linter.unusedVariables false
set_option linter.unusedSimpArgs false
set_option maxRecDepth 10000
namespace Go.Proofs.YtmgjicnipgdjhaaGreatDoor
open Go Go.Sh Go.Fr
theorem set8 (xs:List Value) (o:Nat) (h:o+8≤xs.length) (v0 v1 v2 v3 v4 v5 v6 v7:Value) :
  (((((((xs.set o v0).set (o+1) v1).set (o+2) v2).set (o+3) v3).set (o+4) v4).set (o+5) v5).set (o+6) v6).set (o+7) v7=xs.take o++[v0,v1,v2,v3,v4,v5,v6,v7]++xs.drop (o+8):=by
 have hlen:(xs.take o).length=o:=by rw [List.length_take];omega
 apply List.ext_getElem?
 intro j;by_cases h1:j<o
 ·rw [List.append_assoc,List.getElem?_append_left (by omega),List.getElem?_take,if_pos h1];simp only [List.getElem?_set];rw [if_neg (by omega),if_neg (by omega),if_neg (by omega),if_neg (by omega),if_neg (by omega),if_neg (by omega),if_neg (by omega),if_neg (by omega)]
 ·by_cases h2:j<o+8
  ·obtain⟨k,rfl⟩:∃k,j=o+k:=⟨j-o,by omega⟩;rw [List.append_assoc,List.getElem?_append_right (by omega),hlen,Nat.add_sub_cancel_left,List.getElem?_append_left (by simp;omega)];have hk:k=0∨k=1∨k=2∨k=3∨k=4∨k=5∨k=6∨k=7:=by omega
   rcases hk with rfl|rfl|rfl|rfl|rfl|rfl|rfl|rfl<;>simp [List.getElem?_set]<;>omega
  ·rw [List.getElem?_append_right (by simp [hlen];omega)];simp only [List.getElem?_set];rw [if_neg (by omega),if_neg (by omega),if_neg (by omega),if_neg (by omega),if_neg (by omega),if_neg (by omega),if_neg (by omega),if_neg (by omega),List.getElem?_drop]
   congr 1
   simp [hlen];omega
theorem T_h {l:List Tr} {i:Nat} (hi:i<l.length) (t':Tr):D_ (l.set i t')=(D_ l).take (i*8)++t'.cells++(D_ l).drop (i*8+8):=by
 rw [List.set_eq_take_append_cons_drop,if_pos hi,h_a,C_e,t_b,show i*8+8=(i+1)*8 by omega,u_b,List.append_assoc]
theorem tr_st {w:World} {p:Option Addr} {n c:Nat} {l:List Tr} (h:Sl w 0 57 8 p n c (D_ l)) (hn:0<n) {i:Nat} (hi:i<l.length) (t':Tr) {e N:Int} (he:e=(i:Int)) (hN:(i:Int)<N) {K:World→Prop}
  (k:∀w',Sl w' 0 57 8 p n c (D_ (l.set i t'))→Fr (On p) w w'→w'.heap.size=w.heap.size→K w') :
  NilP p fun a=>0≤e∧e<N∧Sh.St w (at0 a (e.toNat*8)) (.int .i64 t'.size) fun w1=>Sh.St w1 (at0 (at0 a (e.toNat*8)) 1) (.int .u32 (t'.va:Int)) fun w2=>Sh.St w2 (at0 (at0 a (e.toNat*8)) 2) (.int .u64 (t'.pa:Int)) fun w3 =>
   Sh.St w3 (at0 (at0 a (e.toNat*8)) 3) (.int .i64 t'.dom) fun w4=>Sh.St w4 (at0 (at0 a (e.toNat*8)) 4) (.int .i64 t'.ap) fun w5=>Sh.St w5 (at0 (at0 a (e.toNat*8)) 5) (.int .u32 (t'.bits:Int)) fun w6 =>
   Sh.St w6 (at0 (at0 a (e.toNat*8)) 6) (.bool t'.ng) fun w7=>Sh.St w7 (at0 (at0 a (e.toNat*8)) 7) (.bool t'.xn) fun w8=>K w8:=by
 subst he;obtain⟨g,sp,rfl,_,_⟩:=h.some_ hn;have hl:=B_a l;rw [G_];simp only [H_,Int.toNat_natCast,Nat.zero_add];refine⟨by omega,hN,?_⟩;refine h.st rfl (by omega) rfl fun w1 h1 f1 s1=>?_;refine h1.st rfl (by simp;omega) rfl fun w2 h2 f2 s2=>?_;refine h2.st rfl (by simp;omega) rfl fun w3 h3 f3 s3=>?_;refine h3.st rfl (by simp;omega) rfl fun w4 h4 f4 s4=>?_;refine h4.st rfl (by simp;omega) rfl fun w5 h5 f5 s5=>?_;refine h5.st rfl (by simp;omega) rfl fun w6 h6 f6 s6=>?_;refine h6.st rfl (by simp;omega) rfl fun w7 h7 f7 s7=>?_;refine h7.st rfl (by simp;omega) rfl fun w8 h8 f8 s8=>?_;refine k w8 ?_ (((((((f1.trans f2).trans f3).trans f4).trans f5).trans f6).trans f7).trans f8) (by omega);rw [set8 _ _ (by omega)] at h8;rw [T_h hi];exact h8
def Tr.leaf (t:Tr) (ap:Int) (bits:Nat) (ng xn:Bool):Tr:={ t with ap:=ap,bits:=bits,ng:=ng,xn:=xn }
def W_g (R:RootS) (t t':Tr):RootS:={ R with blocks:=R.blocks.set (L_a R.blocks t.va).1 t' }
def chgM (a:Nat) (asid:Int) (R:RootS) (M:Mst) (t t':Tr):Mst:=e_a (C_j a asid R M t) (placeOf R a t') (wordN t') (reps t'.size)
def L_e (a:Nat) (asid:Int) (f:Tr→Tr):List Tr→RootS×Mst→RootS×Mst
 | [],s=>s
 | t :: r,s=>L_e a asid f r (W_g s.1 t (f t),chgM a asid s.1 s.2 t (f t))
theorem I_h (a:Nat) (asid:Int) (f:Tr→Tr):∀(l:List Tr) (s:RootS×Mst) (t:Tr),L_e a asid f (l++[t]) s=(W_g (L_e a asid f l s).1 t (f t),chgM a asid (L_e a asid f l s).1 (L_e a asid f l s).2 t (f t))
 | [],s,t=>rfl
 | x :: r,s,t=>I_h a asid f r _ t
theorem Z_i (a:Nat) (asid:Int) (f:Tr→Tr):∀(l:List Tr) (s:RootS×Mst),(L_e a asid f l s).1.rb=s.1.rb∧(L_e a asid f l s).1.tm=s.1.tm
 | [],s=>⟨rfl,rfl⟩
 | x :: r,s=>Z_i a asid f r _
def ChgE (S:St) (a:Nat) (asid ap:Int) (bits:Nat) (ng xn:Bool) (vas:List Nat) (e:Nat) (S':St):Prop :=
 (e≠0∧ChoErr S a asid ap bits ng vas e∧S'=S) ∨
 (e=0∧∃R out,v_d S a asid ap bits ng vas R out∧S'=⟨(L_e a asid (fun t=>t.leaf ap bits ng xn) out (R,S.M)).2,S.p,S.l,G_a S.roots a (L_e a asid (fun t=>t.leaf ap bits ng xn) out (R,S.M)).1⟩)
structure ChgPre (fr a:Nat) (R:RootS) (t:Tr):Prop where
 reps:reps t.size=1∨reps t.size=16
 wf:t.wf
 tl:∀v,tab? R.tabs t.mib=some v→v<2^30
 place:∀i,i<Go.Proofs.YtmgjicnipgdjhaaGreatDoor.reps t.size→wErr fr (placeOf R a t+4*i)=0
 sorted:R.blocks.Pairwise fun a b=>a.va<b.va
 wfs:∀b∈R.blocks,b.wf
 len:R.blocks.length≤100000000000
 ix:(L_a R.blocks t.va).1<R.blocks.length
theorem f45 {w:World} {ro:Ro} {J:Ids} {fr n:Nat} {S:St} (hS:Sys w ro J fr n S) (hI:Std n S) (hfr:fr≤65536) (a:Nat) (ha:a<2^40) (hso:∀R,root? S.roots a=some R→R.blocks.Pairwise fun a b=>a.va<b.va) (asid ap:Int) (bits:Nat) (ng xn:Bool)
  {q:Option Addr} {c:Nat} {vas:List Nat} (hq:Rd w q (vas.map fun v=>Value.int .u32 ((v:Nat):Int))) (hv:∀v∈vas,v<4294967296) (hvl:vas.length≤100000000000000) (hol:∀R out,v_d S a asid ap bits ng vas R out→out.length≤1000000000)
  (hpre:∀R out,v_d S a asid ap bits ng vas R out→∀i t,out[i]?=some t→ChgPre fr a (L_e a asid (fun t=>t.leaf ap bits ng xn) (out.take i) (R,S.M)).1 t∧(t.leaf ap bits ng xn).right=true) :
  Ret prog 45 #[.pointer (some ⟨J.e,0,none⟩),.int .u64 (a:Int),.int .i64 asid,.agg #[.int .i64 ap,.int .u32 (bits:Int),.bool ng,.bool xn],.slice q vas.length c] w fun v w'=>∃(e:Nat) (S':St) (ro':Ro),v=.int .i64 (e:Int)∧ChgE S a asid ap bits ng xn vas e S'∧RExt w ro ro'∧Sys w' ro' J fr n S'∧FrR ro w w':=by
 refine F45_of ?_;unfold F45;try dsimp only [C_8,t_a,B_,S_4,S_8,Uib,Upsi,ce_,lb_,li_,ls_,ub_,ui_,up_,us_]
 refine New.mk fun w1 n1 f1 s1=>?_;have E1:RExt w ro (ro.cut w):=RExt.cut;have hS1:=(hS.ext E1).fr0 f1;have hlf:((ro.cut w) w.heap.size).1=0:=Ro.cut_new (Nat.le_refl _)
 try simp only [n1.ld_iff,sb_,Nat.reduceAdd]
 refine Ret.use (f53 hS1 hI a hso asid ap bits ng xn (hq.fr0 f1) hv hvl) ?_;rintro _ w2 ⟨f2,⟨e,rfl,he⟩|⟨R,out,p,c',rfl,hok,hsl2⟩⟩
 ·simp only [sb_,Nat.reduceAdd];refine b_ (fun _=>?_) (fun h=>absurd (by omega) he.ne);exact⟨e,S,ro,rfl,.inl ⟨he.ne,he,rfl⟩,RExt.refl _ _,hS.fr0 (f1.trans f2),(f1.trans f2).mono fun _ _ h=>h.elim⟩
 simp only [sb_,Nat.reduceAdd];refine b_ (fun h=>absurd rfl h) (fun _=>?_);have hm:=U_ hok.1;have hol':=hol R out hok;have hself:G_a S.roots a R=S.roots:=s_b hS.ed.nd hm;obtain⟨lf,hlf0⟩:∃lf:Tr→Tr,lf=fun t=>t.leaf ap bits ng xn:=⟨_,rfl⟩;have E2:RExt w1 (ro.cut w) ((ro.cut w).cut w1):=RExt.cut;have hS2:Sys w2 ((ro.cut w).cut w1) J fr n ⟨S.M,S.p,S.l,G_a S.roots a R⟩:=by
  rw [hself];exact (hS1.ext E2).fr0 f2
 have n2:=n1.fr0 f2;have hlf2:(((ro.cut w).cut w1) w.heap.size).1=0:=by rw [E2 _ n1.lt];exact hlf
 have hpr:∀b,On p b→(((ro.cut w).cut w1) b).1=0:=fun b hb=>Ro.cut_new (hsl2.lt b hb).1;refine Loop.by (fun s w'=>∃(i:Nat) (ro':Ro),i≤out.length∧s=[.int .i64 (i:Int)]∧RExt w2 ((ro.cut w).cut w1) ro'∧Sys w' ro' J fr n ⟨(L_e a asid lf (out.take i) (R,S.M)).2,S.p,S.l,G_a S.roots a (L_e a asid lf (out.take i) (R,S.M)).1⟩∧FrR ((ro.cut w).cut w1) w2 w')
  (fun s _=>match s with | [.int _ i]=>out.length-i.toNat|_=>0) ⟨0,_,by omega,rfl,RExt.refl _ _,hS2,Fr.refl _ _⟩ ?_
 rintro _ w3 ⟨i,ro3,hi,rfl,E3,hS3,F3⟩;simp only [UnC_cons,UnN_nil,AsI_int];refine C_ (fun hlt=>?_) (fun hge=>?_)
 ·obtain⟨t,ht⟩:∃t,out[i]?=some t:=⟨out[i]'(by omega),List.getElem?_eq_getElem _⟩;obtain⟨P,hrt⟩:=hpre R out hok i t ht;rw [←hlf0] at P;have hva:t.va<2^32:=P.wf;have htake:out.take (i+1)=out.take i++[t]:=by rw [List.take_add_one,ht];rfl
  have hnext:=I_h a asid lf (out.take i) (R,S.M) t;rw [←htake] at hnext;have hids:=Z_i a asid lf (out.take i) (R,S.M);generalize hst':L_e a asid lf (out.take i) (R,S.M)=st at *;obtain⟨Ri,Mi⟩:=st;simp only at hids hS3 P hnext;refine g_a (hsl2.rd.fr F3 fun b hb h=>h (hpr b hb)) rfl ht hlt ?_;refine K_j (fun w4 n4 f4 s4=>?_);have E4:RExt w3 ro3 (ro3.cut w3):=RExt.cut;have hS4:=(hS3.ext E4).fr0 f4;have htb:((ro3.cut w3) w3.heap.size).1=0:=Ro.cut_new (Nat.le_refl _);have hm4:(a,Ri)∈G_a S.roots a Ri:=S_c hm;have n34:=(n2.fr F3 (fun h=>h hlf2)).fr0 f4;have hlf4:((ro3.cut w3) w.heap.size).1=0:=by rw [E4 _ ((n2.fr F3 (fun h=>h hlf2)).lt),E3 _ n2.lt];exact hlf2
  rw [←hids.1]
  try simp only [n4.ld_iff,sb_,Nat.reduceAdd]
  refine Ret.use (f54 hS4 hm4 t hva (x:=0) (by decide) hfr P.reps P.tl ha P.place) ?_;rintro _ w5 ⟨rfl,ro5,E5,hS5,F5⟩;simp only [sb_,Nat.reduceAdd];have n5:=n4.fr F5 (fun h=>by rw [htb] at h;simp at h);have n35:=n34.fr F5 (fun h=>by rw [hlf4] at h;simp at h);have htb5:(ro5 w3.heap.size).1=0:=by rw [E5 _ n4.lt];exact htb
  have hlf5:(ro5 w.heap.size).1=0:=by rw [E5 _ n34.lt];exact hlf4
  try simp only [n5.ld_iff,sb_,Nat.reduceAdd]
  refine Ret.use (f55 hS5 1 (.inl rfl) _) ?_;rintro _ w6 ⟨rfl,ro6,E6,hS6,F6⟩;simp only [sb_,Nat.reduceAdd];have n6:=n5.fr F6 (fun h=>by rw [htb5] at h;simp at h);have n36:=n35.fr F6 (fun h=>by rw [hlf5] at h;simp at h);have htb6:(ro6 w3.heap.size).1=0:=by rw [E6 _ n5.lt];exact htb5
  try simp only [n36.ld_iff,sb_,Nat.reduceAdd]
  refine n6.st (by simp) rfl fun w7 n7 f7 s7=>?_;refine n7.st (by simp) rfl fun w8 n8 f8 s8=>?_;refine n8.st (by simp) rfl fun w9 n9 f9 s9=>?_;refine n9.st (by simp) rfl fun w10 n10 f10 s10=>?_;obtain⟨t',ht'⟩:∃t':Tr,t'=t.leaf ap bits ng xn:=⟨_,rfl⟩;have ht2:lf t=t':=by rw [hlf0,ht']
  have n10':Has w10 w3.heap.size [.int .i64 t'.size,.int .u32 (t'.va:Int),.int .u64 (t'.pa:Int),.int .i64 t'.dom,.int .i64 t'.ap,.int .u32 (t'.bits:Int),.bool t'.ng,.bool t'.xn]:=by
   rw [ht'];simpa [Tr.leaf] using n10
  have e1:t'.size=t.size:=by rw [ht'];rfl
  have e2:t'.va=t.va:=by rw [ht'];rfl
  have e3:t'.paged=t.paged:=by unfold Tr.paged;rw [e1]
  have e4:placeOf Ri a t'=placeOf Ri a t:=by unfold placeOf Tr.mib;rw [e2,e3]
  have hrt':t'.right=true:=by rw [ht'];exact hrt
  have f610:Fr (·=w3.heap.size) w6 w10:=((f7.trans f8).trans f9).trans f10;have hS10:=hS6.frO f610 (fun x hx=>by rw [show x=_ from hx];exact htb6) (fun x hx h=>by have h:x=w3.heap.size:=h;have:=hS3.gl.gr.size;omega)
  try simp only [n10'.ld_iff,sb_,Nat.reduceAdd]
  refine Ret.use (f65 hS10.gl.gd.drew t' (by rw [e2];exact hva) hrt') ?_;rintro _ w11 ⟨rfl,f11⟩
  replace f11:=f11.of_drew
  rw [AsI_int];have n11:=n10'.fr0 f11;refine⟨⟨n11.cell.trans rfl,n11.cell.trans rfl,n11.cell.trans rfl,n11.cell.trans rfl,n11.cell.trans rfl,n11.cell.trans rfl,n11.cell.trans rfl,n11.cell.trans rfl,trivial⟩,?_⟩;have hS11:=hS10.fr0 f11;rw [←x_c];refine Ret.use (f54 hS11 hm4 t' (by rw [e2];exact hva) (c_a t') hfr (by rw [e1];exact P.reps) (by unfold Tr.mib;rw [e2];exact P.tl) ha (by rw [e4,e1];exact P.place)) ?_;rintro _ w12 ⟨rfl,ro12,E12,hS12,F12⟩;simp only [sb_,Nat.reduceAdd];have n12:=n11.fr F12 (fun h=>by rw [htb6] at h;simp at h);have htb12:(ro12 w3.heap.size).1=0:=by rw [E12 _ n11.lt];exact htb6
  try simp only [n12.ld_iff,sb_,Nat.reduceAdd]
  rw [e2];refine Ret.use (f66 hS12.gl (hS12.ed.root _ hm4) P.sorted (by have:=P.len;show Ri.blocks.length≤_;omega) P.wfs t.va hva) ?_;rintro _ w13 ⟨rfl,f13⟩;simp only [sb_,Nat.reduceAdd];have hS13:=hS12.fr0 f13;have n13:=n12.fr0 f13;obtain⟨p7,c7,h71,h72,h73⟩:=(hS13.ed.root _ hm4).st;have hix:=P.ix;have h71':Has w13 Ri.rb _:=h71;refine h71'.drew.ld rfl (AsSl_slice.2 ?_)
  try simp only [n13.ld_iff,sb_,Nat.reduceAdd]
  refine tr_st (h72.qt (Qt.refl w13).drew) (by show 0<Ri.blocks.length;omega) hix t' rfl (by show _<(Ri.blocks.length:Int);omega) fun w14 h14 f14 s14=>?_
  replace f14:=f14.of_drew
  rw [w64 (n:=(i:Int)+1) (by omega) (by omega)];have h714:=h71.fr f14 (fun h=>by
   have h9:=h73 _ h;have h9':=(hS13.ed.root _ hm4).rr;rw [h9] at h9';cases h9')
  obtain⟨ro14,E14,hS14,G14⟩:=hS13.blocksT hm4 (blocks:=Ri.blocks.set (L_a Ri.blocks t.va).1 t') h71 h72 h73 (by rw [List.length_set];exact h14) f14 (fun b hb=>.inl hb) (by rw [List.length_set];exact h714) (Fr.refl _ _);have K6:FrR (ro3.cut w3) w4 w6:=FrR.then (F5.R (by decide)) E5 (F6.R (by decide))
  have KE6:RExt w4 (ro3.cut w3) ro6:=fun x hx=>(E6 x (by have:=F5.size;omega)).trans (E5 x hx);have hz34:w3.heap.size<w4.heap.size:=n4.lt;have K11:Fr (fun b=>((ro3.cut w3) b).1≠0∨b=w3.heap.size) w4 w11:=((K6.mono fun _ _ h=>.inl h).thenS f610 fun x _ hx=>.inr hx).trans (f11.mono fun _ _ h=>h.elim);have K13:Fr (fun b=>((ro3.cut w3) b).1≠0∨b=w3.heap.size) w4 w13:=(K11.thenS F12 fun x hx h=>.inl (by rw [←KE6 x hx];intro e;rw [e] at h;simp at h)).trans (f13.mono fun _ _ h=>h.elim);have KE12:RExt w4 (ro3.cut w3) ro12:=fun x hx=>(E12 x (by have:=K11.size;omega)).trans (KE6 x hx);have K14:Fr (fun b=>((ro3.cut w3) b).1≠0∨b=w3.heap.size) w4 w14:=K13.thenS G14 fun x hx h=>.inl (by rw [←KE12 x hx];exact h);have KE14:RExt w4 (ro3.cut w3) ro14:=fun x hx=>(E14 x (by have:=K13.size;omega)).trans (KE12 x hx);have M14:FrR ro3 w3 w14:=⟨K14.os.trans f4.os,K14.output.trans f4.output,K14.tape.trans f4.tape,Nat.le_trans f4.size K14.size,fun b hb hn=>(K14.block b (by omega) (by
   rintro (h|h)
   ·rw [E4 b hb] at h;exact hn h
   ·omega)).trans (f4.block b hb fun h=>h)⟩
  refine⟨⟨i+1,ro14,by omega,rfl,fun x hx=>?_,?_,F3.then E3 M14⟩,(by first|omega|(simp only [Int.toNat_natCast];omega))⟩
  ·have:=F3.size;rw [KE14 x (by omega),E4 x (by omega),E3 x hx]
  ·rw [hnext,ht2];show Sys w14 ro14 J fr n ⟨chgM a asid Ri Mi t t',S.p,S.l,G_a S.roots a (W_g Ri t t')⟩;rw [←f_b S.roots a Ri (W_g Ri t t')];exact hS14
 ·obtain rfl:i=out.length:=by omega
  rw [List.take_length] at hS3;have f02:=f1.trans f2;refine⟨0,_,ro3,rfl,.inr ⟨rfl,R,out,hok,rfl⟩,fun x hx=>?_,by rw [←hlf0];exact hS3,?_⟩
  ·rw [E3 x (by have:=f02.size;omega),E2 x (by have:=f1.size;omega),E1 x hx]
  ·exact⟨F3.os.trans f02.os,F3.output.trans f02.output,F3.tape.trans f02.tape,Nat.le_trans f02.size F3.size,fun b hb hn=>(F3.block b (by have:=f02.size;omega) (by rw [E2 b (by have:=f1.size;omega),E1 b hb];exact hn)).trans (f02.block b hb fun h=>h)⟩
theorem f49 {w:World} (m:Option Nat):Ret prog 49 #[.map m] w fun v w'=>v=.func (.func 98) #[] #[.pointer (some ⟨w.heap.size,0,none⟩)]∧Has w' w.heap.size [.map m]∧Fr0 w w'∧w'.heap.size=w.heap.size+1:=by
 refine F49_of ?_;unfold F49;exact New.mk fun w1 n1 f1 s1=>⟨rfl,n1,f1,s1⟩
theorem f98 {w:World} {y:Value} {ma rm:Nat} {L:List (Int×Value)} (h:Has w ma [.map (some rm)]) (hm:MapIs w rm .u64 L) (J:List Int→World→Prop) (h0:∀w',Fr0 w w'→w'.heap.size=w.heap.size+1→J [] w')
  (hr:∀acc w' w'',J acc w'→Fr (·=w.heap.size) w' w''→w''.heap.size=w'.heap.size→J acc w'')
  (step:∀acc x w',J acc w'→acc.length<L.length→∀K:Value→World→Prop,(∀w'',J (acc++[x]) w''→Fr (fun b=>b≠w.heap.size∧b≠rm) w' w''→K (.bool true) w'')→FnY prog y [.int .u64 x] w' K) :
  Ret prog 98 #[y,.pointer (some ⟨ma,0,none⟩)] w fun v w'=>∃acc,List.Perm acc (L.map (·.1))∧J acc w':=by
 have hrm:=K_a hm;refine F98c_of ?_;unfold F98c;try dsimp only [lm_]
 refine h.ld rfl (AsM_map.2 ?_);refine G_i T120.und hm fun w1 l1 f1 s1=>?_;refine⟨_,rfl,?_⟩;refine Loop.by (fun s w'=>s=[]∧∃acc left,LeftAt w' w.heap.size rm .u64 L left∧(acc++left.map (·.1)).Perm (L.map (·.1))∧J acc w') (fun _ w'=>L.length-R_f w' w.heap.size) ⟨rfl,[],L,l1,List.Perm.refl _,h0 w1 f1 s1⟩ ?_
 rintro _ w2 ⟨rfl,acc,left,l2,hp,hJ⟩;rw [UnN_nil];refine K_k l2 (fun he=>?_) (fun q1 x q2 he w3 l3 f3 s3 hs3 hent=>?_)
 ·refine .inl ⟨rfl,acc,?_,hJ⟩;rw [he] at hp;simpa using hp
 ·refine .inr ⟨_,_,rfl,?_⟩;refine hent _ ⟨_,_,rfl,AsI_int.2 ?_⟩;refine step acc x.1 w3 (hr acc w2 w3 hJ f3 s3) (by have:=hp.length_eq;rw [he] at this;simp at this;omega) _ fun w4 hJ4 f4=>?_;rw [AsB_bool];simp only [Bool.not_true,E_];refine⟨⟨by trivial,acc++[x.1],q1++q2,l3.fr f4 (fun h=>h.1 rfl) (fun h=>h.2 rfl),?_,hJ4⟩,?_⟩
  ·refine List.Perm.trans ?_ hp;rw [he,List.map_append,List.map_append,List.map_cons,List.append_assoc];refine List.Perm.append_left _ ?_;rw [List.singleton_append];exact List.perm_middle.symm
  ·have h9:=l2.seen;rw [C_i l3.lt f4 (fun h=>h.1 rfl),hs3];rw [he] at h9;simp at h9;omega
theorem E30:ElemT prog 43 30 (.int .u64 0) 1 8:=⟨by kernel_rfl,by kernel_rfl,rfl,by decide⟩
theorem f161 {w:World} {ma rm:Nat} {L:List (Int×Value)} (h:Has w ma [.map (some rm)]) (hm:MapIs w rm .u64 L) (hl:L.length≤1000000000) :
  Ret prog 161 #[.slice none 0 0,.func (.func 98) #[] #[.pointer (some ⟨ma,0,none⟩)]] w fun v w'=>∃p c acc,v=.slice p L.length c∧List.Perm acc (L.map (·.1))∧Sl w' w.heap.size 30 1 p L.length c (acc.map (Value.int .u64))∧Fr0 w w':=by
 refine F161_of ?_;unfold F161;try dsimp only [ls_,ui_]
 refine New.mk fun w1 n1 f1 s1=>?_;refine⟨98,_,_,rfl,by kernel_rfl,?_⟩;intro y Lm Rdy Bsy hLm hR hBs hY w2 f2 s2 hdef hrdy;have f02:=f1.trans f2;have h2:=h.fr0 f02;have hm2:=hm.fr f02 (fun h=>h);have n2:=n1.fr0 f2;have hma:=h.lt;have hrm:=K_a hm;refine Ret.use (f98 (y:=y) h2 hm2 (fun acc w'=>∃p c,Has w' w.heap.size [.slice p acc.length c]∧Sl w' w.heap.size 30 1 p acc.length c (acc.map (Value.int .u64))∧(∀b,On p b→w2.heap.size<b)∧Rdy w'∧Fr0 w w'∧w'.heap[w1.heap.size]?=some (.deferred (some []))∧w2.heap.size<w'.heap.size∧acc.length≤L.length)
  (fun w3 f3 s3=>⟨none,0,n2.fr0 f3,Sl.nil _ _ _ _,(fun b hb=>by obtain⟨a,h,_⟩:=hb;cases h),hR _ _ _ f3 (fun h=>h) hrdy,f02.trans f3,by rw [f3.block _ (by omega) (fun h=>h)];exact hdef,by omega,by simp⟩)
  (fun acc w3 w4 hJ f4 s4=>?_) (fun acc x w3 hJ hlt K hK=>?_)) ?_
 ·obtain⟨p,c,k1,k2,k3,k4,k5,k6,k7,k8⟩:=hJ;exact⟨p,c,k1.fr f4 (by omega),k2.fr f4 (fun b hb=>by have:=k3 b hb;omega),k3,hR _ _ _ f4 (by omega) k4,k5.new f4 (by have:=f02.size;omega),by rw [f4.block _ (by omega) (by omega)];exact k6,by omega,k8⟩
 ·obtain⟨p,c,k1,k2,k3,k4,k5,k6,k7,k8⟩:=hJ;refine .inr (hY _ _ _ k4 ?_);simp only [UnC_cons,UnN_nil,AsI_int];refine⟨k4,fun w4 hb4 f4 s4=>?_⟩;have a4:=k1.fr f4 (show ¬(w.heap.size=Lm) by omega);have sl4:=k2.fr f4 (fun b hb=>by have:=k3 b hb;show ¬b=Lm;omega);refine a4.ld rfl (AsSl_slice.2 ?_);refine l_c E30 (by decide) sl4 (by have:=k5.size;have:=f4.size;omega) rfl (by intro v hv;simp [Value.cells] at hv;subst hv;rfl) (by simp only [maxLen];omega) (by omega) fun p5 c5 w5 sl5 f5 hon5=>?_;rw [AsSl_slice];have hpl:=sl4.lt;have a5:=a4.fr f5 (fun hb=>by have:=k3 _ hb;have:=f02.size;omega);refine a5.st (by simp) rfl fun w6 a6 f6 s6=>?_;have hp5:∀b,On p5 b→w2.heap.size<b:=fun b hb=>by
   rcases hon5 b hb with h|h
   ·exact k3 b h
   ·omega
  refine⟨hBs _ _ _ f6 (by omega) (hBs _ _ _ f5 (fun hb=>by have:=k3 _ hb;omega) hb4),fun w7 hr7 f7 s7=>hK w7 ⟨p5,c5,?_,?_,hp5,hr7,?_,?_,?_,?_⟩ ?_⟩
  ·rw [List.length_append];exact (by simpa using a6:Has w6 w.heap.size [.slice p5 (acc.length+1) c5]).fr f7 (show ¬(w.heap.size=Lm) by omega)
  ·have:=(sl5.fr f6 (fun b hb h=>by have h:b=w.heap.size:=h;have:=hp5 b hb;have:=f02.size;omega)).fr f7 (fun b hb h=>by have h:b=Lm:=h;have:=hp5 b hb;omega);rw [List.length_append,List.map_append];exact this
  ·exact (((k5.new f4 (by omega)).newS f5 (fun b hb=>by have:=k3 b hb;have:=f02.size;omega)).new f6 (Nat.le_refl _)).new f7 (by omega)
  ·rw [f7.block _ (by have:=f4.size;have:=f5.size;omega) (by omega),f6.block _ (by have:=f4.size;have:=f5.size;omega) (by omega),f5.block _ (by have:=f4.size;omega) (fun hb=>by have:=k3 _ hb;omega),f4.block _ (by omega) (by omega)];exact k6
  ·have:=f4.size;have:=f5.size;omega
  ·simp;omega
  ·have g:Fr (fun b=>b≠w2.heap.size∧b≠rm) w3 w7:=(((f4.mono fun b _ h=>by have h:b=Lm:=h;omega).thenS f5 fun b _ hb=>by have:=k3 b hb;have:=f02.size;omega).thenS f6 fun b _ h=>by have h:b=w.heap.size:=h;have:=f02.size;omega).thenS f7 fun b _ h=>by have h:b=Lm:=h;omega
   exact g
 ·rintro v w3 ⟨acc,hperm,p,c,k1,k2,k3,k4,k5,k6,k7,k8⟩;refine⟨k4,fun w4 f4 s4=>?_⟩;have a4:=k1.fr f4 (show ¬(w.heap.size=Lm) by omega);refine a4.ld rfl (AsSl_slice.2 ?_);refine⟨by rw [f4.block _ (by omega) (by omega)];exact k6,fun w5 f5 s5=>?_⟩;have hal:acc.length=L.length:=by have:=hperm.length_eq;simpa using this
  refine⟨p,c,acc,by rw [hal],hperm,?_,(k5.new f4 (by omega)).new f5 (by omega)⟩;rw [←hal];exact (k2.fr f4 (fun b hb h=>by have h:b=Lm:=h;have:=k3 b hb;omega)).fr f5 (fun b hb h=>by have h:b=w1.heap.size:=h;have:=k3 b hb;omega)
theorem f96 {w:World} {ma rm:Nat} {L:List (Int×Value)} (h:Has w ma [.map (some rm)]) (hm:MapIs w rm .u64 L) (hl:L.length≤1000000000) :
  Ret prog 96 #[.func (.func 98) #[] #[.pointer (some ⟨ma,0,none⟩)]] w fun v w'=>∃p c acc,v=.slice p L.length c∧List.Perm acc (L.map (·.1))∧Sl w' w.heap.size 30 1 p L.length c (acc.map (Value.int .u64))∧Fr0 w w':=by
 refine F96_of ?_;unfold F96;refine Ret.use (f161 h hm hl) ?_;rintro _ w1 ⟨p,c,acc,rfl,h1,h2,f1⟩;rw [AsSl_slice];exact⟨p,c,acc,rfl,h1,h2,f1⟩
theorem f57 {w:World} (m:Option Nat):Ret prog 57 #[.map m] w fun v w'=>v=.func (.func 112) #[] #[.pointer (some ⟨w.heap.size,0,none⟩)]∧Has w' w.heap.size [.map m]∧Fr0 w w'∧w'.heap.size=w.heap.size+1:=by
 refine F57_of ?_;unfold F57;exact New.mk fun w1 n1 f1 s1=>⟨rfl,n1,f1,s1⟩
theorem f112 {w:World} {y:Value} {ma rm:Nat} {L:List (Int×Value)} (h:Has w ma [.map (some rm)]) (hm:MapIs w rm .u32 L) (J:List Int→World→Prop) (h0:∀w',Fr0 w w'→w'.heap.size=w.heap.size+1→J [] w')
  (hr:∀acc w' w'',J acc w'→Fr (·=w.heap.size) w' w''→w''.heap.size=w'.heap.size→J acc w'')
  (step:∀acc x w',J acc w'→acc.length<L.length→∀K:Value→World→Prop,(∀w'',J (acc++[x]) w''→Fr (fun b=>b≠w.heap.size∧b≠rm) w' w''→K (.bool true) w'')→FnY prog y [.int .u32 x] w' K) :
  Ret prog 112 #[y,.pointer (some ⟨ma,0,none⟩)] w fun v w'=>∃acc,List.Perm acc (L.map (·.1))∧J acc w':=by
 have hrm:=K_a hm;refine F112c_of ?_;unfold F112c;try dsimp only [lm_]
 refine h.ld rfl (AsM_map.2 ?_);refine G_i T131.und hm fun w1 l1 f1 s1=>?_;refine⟨_,rfl,?_⟩;refine Loop.by (fun s w'=>s=[]∧∃acc left,LeftAt w' w.heap.size rm .u32 L left∧(acc++left.map (·.1)).Perm (L.map (·.1))∧J acc w') (fun _ w'=>L.length-R_f w' w.heap.size) ⟨rfl,[],L,l1,List.Perm.refl _,h0 w1 f1 s1⟩ ?_
 rintro _ w2 ⟨rfl,acc,left,l2,hp,hJ⟩;rw [UnN_nil];refine K_k l2 (fun he=>?_) (fun q1 x q2 he w3 l3 f3 s3 hs3 hent=>?_)
 ·refine .inl ⟨rfl,acc,?_,hJ⟩;rw [he] at hp;simpa using hp
 ·refine .inr ⟨_,_,rfl,?_⟩;refine hent _ ⟨_,_,rfl,AsI_int.2 ?_⟩;refine step acc x.1 w3 (hr acc w2 w3 hJ f3 s3) (by have:=hp.length_eq;rw [he] at this;simp at this;omega) _ fun w4 hJ4 f4=>?_;rw [AsB_bool];simp only [Bool.not_true,E_];refine⟨⟨by trivial,acc++[x.1],q1++q2,l3.fr f4 (fun h=>h.1 rfl) (fun h=>h.2 rfl),?_,hJ4⟩,?_⟩
  ·refine List.Perm.trans ?_ hp;rw [he,List.map_append,List.map_append,List.map_cons,List.append_assoc];refine List.Perm.append_left _ ?_;rw [List.singleton_append];exact List.perm_middle.symm
  ·have h9:=l2.seen;rw [C_i l3.lt f4 (fun h=>h.1 rfl),hs3];rw [he] at h9;simp at h9;omega
theorem f175 {w:World} {ma rm:Nat} {L:List (Int×Value)} (h:Has w ma [.map (some rm)]) (hm:MapIs w rm .u32 L) (hl:L.length≤1000000000) :
  Ret prog 175 #[.slice none 0 0,.func (.func 112) #[] #[.pointer (some ⟨ma,0,none⟩)]] w fun v w'=>∃p c acc,v=.slice p L.length c∧List.Perm acc (L.map (·.1))∧Sl w' w.heap.size 35 1 p L.length c (acc.map (Value.int .u32))∧Fr0 w w':=by
 refine F175_of ?_;unfold F175;try dsimp only [ls_,ui_]
 refine New.mk fun w1 n1 f1 s1=>?_;refine⟨112,_,_,rfl,by kernel_rfl,?_⟩;intro y Lm Rdy Bsy hLm hR hBs hY w2 f2 s2 hdef hrdy;have f02:=f1.trans f2;have h2:=h.fr0 f02;have hm2:=hm.fr f02 (fun h=>h);have n2:=n1.fr0 f2;have hma:=h.lt;have hrm:=K_a hm;refine Ret.use (f112 (y:=y) h2 hm2 (fun acc w'=>∃p c,Has w' w.heap.size [.slice p acc.length c]∧Sl w' w.heap.size 35 1 p acc.length c (acc.map (Value.int .u32))∧(∀b,On p b→w2.heap.size<b)∧Rdy w'∧Fr0 w w'∧w'.heap[w1.heap.size]?=some (.deferred (some []))∧w2.heap.size<w'.heap.size∧acc.length≤L.length)
  (fun w3 f3 s3=>⟨none,0,n2.fr0 f3,Sl.nil _ _ _ _,(fun b hb=>by obtain⟨a,h,_⟩:=hb;cases h),hR _ _ _ f3 (fun h=>h) hrdy,f02.trans f3,by rw [f3.block _ (by omega) (fun h=>h)];exact hdef,by omega,by simp⟩)
  (fun acc w3 w4 hJ f4 s4=>?_) (fun acc x w3 hJ hlt K hK=>?_)) ?_
 ·obtain⟨p,c,k1,k2,k3,k4,k5,k6,k7,k8⟩:=hJ;exact⟨p,c,k1.fr f4 (by omega),k2.fr f4 (fun b hb=>by have:=k3 b hb;omega),k3,hR _ _ _ f4 (by omega) k4,k5.new f4 (by have:=f02.size;omega),by rw [f4.block _ (by omega) (by omega)];exact k6,by omega,k8⟩
 ·obtain⟨p,c,k1,k2,k3,k4,k5,k6,k7,k8⟩:=hJ;refine .inr (hY _ _ _ k4 ?_);simp only [UnC_cons,UnN_nil,AsI_int];refine⟨k4,fun w4 hb4 f4 s4=>?_⟩;have a4:=k1.fr f4 (show ¬(w.heap.size=Lm) by omega);have sl4:=k2.fr f4 (fun b hb=>by have:=k3 b hb;show ¬b=Lm;omega);refine a4.ld rfl (AsSl_slice.2 ?_);refine l_c E35 (by decide) sl4 (by have:=k5.size;have:=f4.size;omega) rfl (by intro v hv;simp [Value.cells] at hv;subst hv;rfl) (by simp only [maxLen];omega) (by omega) fun p5 c5 w5 sl5 f5 hon5=>?_;rw [AsSl_slice];have hpl:=sl4.lt;have a5:=a4.fr f5 (fun hb=>by have:=k3 _ hb;have:=f02.size;omega);refine a5.st (by simp) rfl fun w6 a6 f6 s6=>?_;have hp5:∀b,On p5 b→w2.heap.size<b:=fun b hb=>by
   rcases hon5 b hb with h|h
   ·exact k3 b h
   ·omega
  refine⟨hBs _ _ _ f6 (by omega) (hBs _ _ _ f5 (fun hb=>by have:=k3 _ hb;omega) hb4),fun w7 hr7 f7 s7=>hK w7 ⟨p5,c5,?_,?_,hp5,hr7,?_,?_,?_,?_⟩ ?_⟩
  ·rw [List.length_append];exact (by simpa using a6:Has w6 w.heap.size [.slice p5 (acc.length+1) c5]).fr f7 (show ¬(w.heap.size=Lm) by omega)
  ·have:=(sl5.fr f6 (fun b hb h=>by have h:b=w.heap.size:=h;have:=hp5 b hb;have:=f02.size;omega)).fr f7 (fun b hb h=>by have h:b=Lm:=h;have:=hp5 b hb;omega);rw [List.length_append,List.map_append];exact this
  ·exact (((k5.new f4 (by omega)).newS f5 (fun b hb=>by have:=k3 b hb;have:=f02.size;omega)).new f6 (Nat.le_refl _)).new f7 (by omega)
  ·rw [f7.block _ (by have:=f4.size;have:=f5.size;omega) (by omega),f6.block _ (by have:=f4.size;have:=f5.size;omega) (by omega),f5.block _ (by have:=f4.size;omega) (fun hb=>by have:=k3 _ hb;omega),f4.block _ (by omega) (by omega)];exact k6
  ·have:=f4.size;have:=f5.size;omega
  ·simp;omega
  ·have g:Fr (fun b=>b≠w2.heap.size∧b≠rm) w3 w7:=(((f4.mono fun b _ h=>by have h:b=Lm:=h;omega).thenS f5 fun b _ hb=>by have:=k3 b hb;have:=f02.size;omega).thenS f6 fun b _ h=>by have h:b=w.heap.size:=h;have:=f02.size;omega).thenS f7 fun b _ h=>by have h:b=Lm:=h;omega
   exact g
 ·rintro v w3 ⟨acc,hperm,p,c,k1,k2,k3,k4,k5,k6,k7,k8⟩;refine⟨k4,fun w4 f4 s4=>?_⟩;have a4:=k1.fr f4 (show ¬(w.heap.size=Lm) by omega);refine a4.ld rfl (AsSl_slice.2 ?_);refine⟨by rw [f4.block _ (by omega) (by omega)];exact k6,fun w5 f5 s5=>?_⟩;have hal:acc.length=L.length:=by have:=hperm.length_eq;simpa using this
  refine⟨p,c,acc,by rw [hal],hperm,?_,(k5.new f4 (by omega)).new f5 (by omega)⟩;rw [←hal];exact (k2.fr f4 (fun b hb h=>by have h:b=Lm:=h;have:=k3 b hb;omega)).fr f5 (fun b hb h=>by have h:b=w1.heap.size:=h;have:=k3 b hb;omega)
theorem f110 {w:World} {ma rm:Nat} {L:List (Int×Value)} (h:Has w ma [.map (some rm)]) (hm:MapIs w rm .u32 L) (hl:L.length≤1000000000) :
  Ret prog 110 #[.func (.func 112) #[] #[.pointer (some ⟨ma,0,none⟩)]] w fun v w'=>∃p c acc,v=.slice p L.length c∧List.Perm acc (L.map (·.1))∧Sl w' w.heap.size 35 1 p L.length c (acc.map (Value.int .u32))∧Fr0 w w':=by
 refine F110_of ?_;unfold F110;refine Ret.use (f175 h hm hl) ?_;rintro _ w1 ⟨p,c,acc,rfl,h1,h2,f1⟩;rw [AsSl_slice];exact⟨p,c,acc,rfl,h1,h2,f1⟩
end Go.Proofs.YtmgjicnipgdjhaaGreatDoor
set_option maxRecDepth 10000
namespace Go.Proofs.YtmgjicnipgdjhaaGreatDoor
open Go Go.Sh Go.Fr Go.Sort
open Go.IntKind (i64 u64 u32)
variable {z:Bool}
structure ArU (z:Bool) (w:World) (B:Nat) (p:Option Addr) (n c:Nat) (d:Array Int):Prop where
 size:d.size=n
 sl:Sl w B (nz z 30 35) 1 p n c (d.toList.map (Value.int (kd z)))
theorem ArU.fr {S:Nat→Prop} {w w':World} {B n c:Nat} {p:Option Addr} {d:Array Int} (h:ArU z w B p n c d) (f:Fr S w w') (hS:∀b,On p b→¬S b):ArU z w' B p n c d:=⟨h.size,h.sl.fr f hS⟩
theorem ArU.drew {w:World} {B n c:Nat} {p:Option Addr} {d:Array Int} (h:ArU z w B p n c d):ArU z w.drew B p n c d:=⟨h.size,h.sl.qt (Qt.refl w).drew⟩
theorem ArU.rd {w:World} {B n c:Nat} {p:Option Addr} {d:Array Int} (h:ArU z w B p n c d) {e:Int} {i:Nat} (he:e=(i:Int)) (hi:i<n) {K:Int→Prop} (k:K d[i]!) :
  NilP p fun a=>0≤e∧e<(n:Int)∧Ld w (at0 a (e.toNat*1)) fun v=>AsI (kd z) v K:=by
 have hs:=h.size;refine h.sl.rd.int (l:=d.toList) (by simpa using hs) (by omega) (x:=d[i]!) ?_ k;rw [he,Int.toNat_natCast,Array.getElem?_toList,Array.getElem?_eq_getElem (by omega),getElem!_pos d i (by omega)]
theorem ArU.st {w:World} {B n c:Nat} {p:Option Addr} {d:Array Int} (h:ArU z w B p n c d) {e:Int} {i:Nat} (he:e=(i:Int)) (hi:i<n) {x:Int} {K:World→Prop} (k:∀w',ArU z w' B p n c (d.setIfInBounds i x)→Fr (On p) w w'→K w') :
  NilP p fun a=>0≤e∧e<(n:Int)∧Sh.St w (at0 a (e.toNat*1)) (.int (kd z) x) K:=by
 have hs:=h.size;obtain⟨g,sp,rfl,_,_⟩:=h.sl.some_ (by omega);rw [G_,he,Int.toNat_natCast,Nat.mul_one,H_,Nat.zero_add];refine⟨by omega,by omega,h.sl.st rfl (by simp;omega) rfl fun w' h1 f1 s1=>k w' ⟨by simpa using hs,?_⟩ f1⟩;rw [Array.toList_setIfInBounds,List.map_set];exact h1
theorem ArU.sw {w:World} {B n c:Nat} {p:Option Addr} {d:Array Int} (h:ArU z w B p n c d) {e1 e2:Int} {i j:Nat} (h1:e1=(i:Int)) (h2:e2=(j:Int)) (hi:i<n) (hj:j<n) {x y:Int} (hx:x=d[j]!) (hy:y=d[i]!) {K:World→Prop}
  (k:∀w',ArU z w' B p n c (swp d i j)→Fr (On p) w w'→K w') :
  NilP p fun a=>0≤e1∧e1<(n:Int)∧Sh.St w (at0 a (e1.toNat*1)) (.int (kd z) x) fun w1=>NilP p fun b=>0≤e2∧e2<(n:Int)∧Sh.St w1 (at0 b (e2.toNat*1)) (.int (kd z) y) K:=by
 refine h.st h1 hi fun w1 a1 f1=>?_;refine a1.st h2 hj fun w2 a2 f2=>?_;rw [hx,hy] at a2;exact k w2 a2 (f1.trans f2)
theorem R_j {w:World} (x y:Int):Ret prog (nz z 218 242) #[.int (kd z) x,.int (kd z) y] w fun v w'=>v=.bool (ltInt x y)∧w'=w:=by
 have h233:∀x:Int,Ret prog (nz z 233 231) #[.int (kd z) x] w fun v w'=>v=.bool false∧w'=w:=fun x=>by
  refine F233z_of z _ _ _ ?_;unfold F233z;exact⟨by simp,rfl⟩
 refine F218z_of z _ _ _ _ ?_;unfold F218z ltInt;refine Ret.use (h233 x) ?_;rintro _ _ ⟨rfl,hw⟩;obtain rfl:=hw.symm;rw [AsB_bool];exact⟨rfl,rfl⟩
theorem f212 {w:World} {B n c:Nat} {p:Option Addr} {d:Array Int} (h:ArU z w B p n c d) (a b:Nat) (hab:a≤b) (hb:b≤n) (hn:n≤1000000000000) :
  Ret prog (nz z 212 236) #[.slice p n c,.int .i64 (a:Int),.int .i64 (b:Int)] w fun v w'=>v=.tuple #[]∧ArU z w' B p n c (insertionSort ltInt d a b)∧Fr (On p) w w':=by
 refine F212z_of z _ _ _ _ _ _ _ ?_;unfold F212z;try dsimp only [ui_]
 rw [w64 (n:=(a:Int)+1) (by omega) (by omega)];refine Loop.by (fun s w'=>∃(i:Nat) (e:Array Int),a+1≤i∧i≤max b (a+1)∧s=[.int .i64 (i:Int)]∧ArU z w' B p n c e∧Fr (On p) w w'∧insOuter ltInt a b i e=insertionSort ltInt d a b) (fun s _=>match s with | [.int _ i]=>b-i.toNat|_=>0)
  ⟨a+1,d,by omega,by omega,by simp,h,Fr.refl _ _,rfl⟩ ?_
 rintro _ w1 ⟨i,e,hi1,hi2,rfl,h1,f1,hres⟩;simp only [UnC_cons,UnN_nil,AsI_int];refine C_ (fun hlt=>?_) (fun hge=>?_)
 ·have hib:i<b:=by omega
  rw [insOuter,if_pos hib] at hres;refine Join.at (fun s w'=>s=[]∧ArU z w' B p n c (insInner ltInt a i e)∧Fr (On p) w w') ?_ ?_
  ·refine Loop.by (fun s w'=>∃(j:Nat) (e':Array Int),a≤j∧j≤i∧s=[.int .i64 (j:Int)]∧ArU z w' B p n c e'∧Fr (On p) w w'∧insInner ltInt a j e'=insInner ltInt a i e) (fun s _=>match s with | [.int _ j]=>j.toNat|_=>0) ⟨i,e,by omega,Nat.le_refl _,rfl,h1,f1,rfl⟩ ?_
   rintro _ w2 ⟨j,e',hj1,hj2,rfl,h2,f2,hr2⟩;simp only [UnC_cons,UnN_nil,AsI_int];refine C_ (fun hgt=>?_) (fun hle=>?_)
   ·obtain⟨k,rfl⟩:∃k,j=k+1:=⟨j-1,by omega⟩;have ej:i64.wrap (((k+1:Nat):Int)-1)=(k:Int):=by rw [w64 (by omega) (by omega)];omega
    simp only [ej];refine h2.rd rfl (by omega) ?_;refine h2.drew.rd rfl (by omega) ?_;refine Ret.use (R_j _ _) ?_;rintro _ _ ⟨rfl,hw⟩;obtain rfl:=hw.symm;rw [AsB_bool];rw [insInner] at hr2;refine w_ (fun hl=>?_) (fun hl=>?_)
    ·rw [if_pos (by rw [hl,decide_eq_true (show k+1>a by omega)];rfl)] at hr2;refine h2.drew.rd rfl (by omega) ?_;refine h2.drew.rd rfl (by omega) ?_;refine h2.drew.drew.sw (i:=k+1) (j:=k) rfl rfl (by omega) (by omega) rfl rfl fun w3 h3 f3=>?_;exact⟨⟨k,_,by omega,by omega,rfl,h3,f2.trans f3.of_drew.of_drew,hr2⟩,(by first|omega|(simp only [Int.toNat_natCast];omega))⟩
    ·rw [if_neg (by rw [hl];simp)] at hr2;exact⟨by trivial,by rw [←hr2];exact h2.drew,f2.drew⟩
   ·have:j=a:=by omega
    subst this;refine⟨by trivial,?_,f2.drew⟩;rw [←hr2];have:insInner ltInt j j e'=e':=by
     cases j with
     | zero=>rfl
     | succ j=>rw [insInner,if_neg (by simp)]
    rw [this];exact h2.drew
  ·rintro _ w2 ⟨rfl,h2,f2⟩;rw [UnN_nil,w64 (n:=(i:Int)+1) (by omega) (by omega)];exact⟨⟨i+1,_,by omega,by omega,rfl,h2,f2,hres⟩,(by first|omega|(simp only [Int.toNat_natCast];omega))⟩
 ·rw [insOuter,if_neg (by omega)] at hres;exact⟨by trivial,by rw [←hres];exact h1,f1⟩
end Go.Proofs.YtmgjicnipgdjhaaGreatDoor
set_option maxRecDepth 10000
namespace Go.Proofs.YtmgjicnipgdjhaaGreatDoor
open Go Go.Sh Go.Fr Go.Sort
open Go.IntKind (i64 u64 u32)
variable {z:Bool}
theorem f259 {w:World} {B n c:Nat} {p:Option Addr} {d:Array Int} (h:ArU z w B p n c d) (lo hi first:Nat) (hf:first+hi≤n) (hn:n≤1000000000000) (hlo:lo≤n) :
  Ret prog (nz z 259 267) #[.slice p n c,.int .i64 (lo:Int),.int .i64 (hi:Int),.int .i64 (first:Int)] w fun v w'=>v=.tuple #[]∧ArU z w' B p n c (siftDown ltInt hi first lo d)∧Fr (On p) w w':=by
 refine F259z_of z _ _ _ _ _ _ _ _ ?_;unfold F259z;try dsimp only [ui_]
 refine Loop.by (fun s w'=>∃(r:Nat) (e:Array Int),r≤n∧s=[.int .i64 (r:Int)]∧ArU z w' B p n c e∧Fr (On p) w w'∧siftDown ltInt hi first r e=siftDown ltInt hi first lo d) (fun s _=>match s with | [.int _ r]=>hi-r.toNat|_=>0)
  ⟨lo,d,hlo,rfl,h,Fr.refl _ _,rfl⟩ ?_
 rintro _ w1 ⟨r,e,hr,rfl,h1,f1,hres⟩;simp only [UnC_cons,UnN_nil,AsI_int];have e1:i64.wrap (2*(r:Int))=((2*r:Nat):Int):=by rw [w64 (by omega) (by omega)];omega
 have e2:i64.wrap (((2*r:Nat):Int)+1)=((2*r+1:Nat):Int):=by rw [w64 (by omega) (by omega)];omega
 have e3:i64.wrap (((2*r+1:Nat):Int)+1)=((2*r+2:Nat):Int):=by rw [w64 (by omega) (by omega)];omega
 have e4:i64.wrap ((first:Int)+(r:Int))=((first+r:Nat):Int):=by rw [w64 (by omega) (by omega)];omega
 rw [siftDown] at hres;simp only [e1,e2,e3,e4];refine C_ (fun hge=>?_) (fun hlt=>?_)
 ·rw [dif_pos (by omega)] at hres;exact⟨by trivial,by rw [←hres];exact h1,f1⟩
 ·rw [dif_neg (by omega)] at hres;refine Join.at (fun s w'=>∃ch:Nat,s=[.int .i64 (ch:Int)]∧ArU z w' B p n c e∧Fr (On p) w w'∧r<ch∧ch<hi∧siftDown ltInt hi first lo d=if !ltInt e[first+r]! e[first+ch]! then e else siftDown ltInt hi first ch (swp e (first+r) (first+ch))) ?_ ?_
  ·refine C_ (fun h2=>?_) (fun h2=>?_)
   ·have e5:i64.wrap ((first:Int)+((2*r+1:Nat):Int))=((first+(2*r+1):Nat):Int):=by rw [w64 (by omega) (by omega)];omega
    have e6:i64.wrap (((first+(2*r+1):Nat):Int)+1)=((first+(2*r+1)+1:Nat):Int):=by rw [w64 (by omega) (by omega)];omega
    simp only [e5,e6];refine h1.drew.rd rfl (by omega) ?_;refine h1.drew.rd rfl (by omega) ?_;refine Ret.use (R_j _ _) ?_;rintro _ _ ⟨rfl,hw⟩;obtain rfl:=hw.symm;rw [AsB_bool];refine w_ (fun hl=>?_) (fun hl=>?_)
    ·refine⟨2*r+2,rfl,h1.drew,f1.drew,by omega,by omega,?_⟩;rw [←hres,if_pos (by rw [hl,decide_eq_true (show 2*r+1+1<hi by omega)];rfl)];split
     ·rfl
     ·rw [dif_pos (by omega)]
    ·refine⟨2*r+1,rfl,h1.drew,f1.drew,by omega,by omega,?_⟩;rw [←hres,if_neg (by rw [hl];simp)]
   ·refine⟨2*r+1,rfl,h1.drew,f1.drew,by omega,by omega,?_⟩;rw [←hres,if_neg (by rw [decide_eq_false (show ¬2*r+1+1<hi by omega)];simp)]
  ·rintro _ w2 ⟨ch,rfl,h2,f2,hc1,hc2,hr2⟩;simp only [UnC_cons,UnN_nil,AsI_int];have e7:i64.wrap ((first:Int)+(ch:Int))=((first+ch:Nat):Int):=by rw [w64 (by omega) (by omega)];omega
   simp only [e7];refine h2.drew.rd rfl (by omega) ?_;refine h2.drew.rd rfl (by omega) ?_;refine Ret.use (R_j _ _) ?_;rintro _ _ ⟨rfl,hw⟩;obtain rfl:=hw.symm;rw [AsB_bool];refine BIf_not.2 (w_ (fun hl=>?_) (fun hl=>?_))
   ·rw [if_neg (by rw [hl];simp)] at hr2;refine h2.drew.drew.rd rfl (by omega) ?_;refine h2.drew.drew.rd rfl (by omega) ?_;refine h2.drew.drew.sw (i:=first+r) (j:=first+ch) rfl rfl (by omega) (by omega) rfl rfl fun w3 h3 f3=>?_;exact⟨⟨ch,_,by omega,rfl,h3,f2.trans f3.of_drew.of_drew,hr2.symm⟩,(by first|omega|(simp only [Int.toNat_natCast];omega))⟩
   ·rw [if_pos (by rw [hl];rfl)] at hr2;exact⟨by trivial,by rw [hr2];exact h2.drew,f2.drew⟩
theorem f213 {w:World} {B n c:Nat} {p:Option Addr} {d:Array Int} (h:ArU z w B p n c d) (a b:Nat) (hab:a<b) (hb:b≤n) (hn:n≤1000000000000) :
  Ret prog (nz z 213 237) #[.slice p n c,.int .i64 (a:Int),.int .i64 (b:Int)] w fun v w'=>v=.tuple #[]∧ArU z w' B p n c (heapSort ltInt d a b)∧Fr (On p) w w':=by
 refine F213z_of z _ _ _ _ _ _ _ ?_;unfold F213z;try dsimp only [ui_]
 have e1:i64.wrap ((b:Int)-(a:Int))=((b-a:Nat):Int):=by rw [w64 (by omega) (by omega)];omega
 have e2:i64.wrap (((b-a:Nat):Int)-1)=((b-a-1:Nat):Int):=by rw [w64 (by omega) (by omega)];omega
 have e3:i64.wrap ((((b-a-1:Nat):Int)).tdiv 2)=(((b-a-1)/2:Nat):Int):=by
  rw [show (2:Int)=((2:Nat):Int) from rfl,←Int.ofNat_tdiv,w64 (by omega) (by omega)]
 simp only [e1,e2,e3];refine Loop.by (fun s w'=>∃(k:Nat) (e:Array Int),k≤(b-a-1)/2+1∧s=[.int .i64 ((k:Int)-1)]∧ArU z w' B p n c e∧Fr (On p) w w'∧heapBuild ltInt (b-a) a k e=heapBuild ltInt (b-a) a ((b-a-1)/2+1) d) (fun s _=>match s with | [.int _ i]=>(i+1).toNat|_=>0)
  ⟨(b-a-1)/2+1,d,Nat.le_refl _,by simp,h,Fr.refl _ _,rfl⟩ ?_
 rintro _ w1 ⟨k,e,hk,rfl,h1,f1,hres⟩;simp only [UnC_cons,UnN_nil,AsI_int];refine C_ (fun hge=>?_) (fun hlt=>?_)
 ·obtain⟨j,rfl⟩:∃j,k=j+1:=⟨k-1,by omega⟩;have ej:((j+1:Nat):Int)-1=(j:Int):=by omega
  rw [ej];refine Ret.use (f259 h1 j (b-a) a (by omega) hn (by omega)) ?_;rintro _ w2 ⟨rfl,h2,f2⟩;simp only [sb_,Nat.reduceAdd];rw [w64 (n:=(j:Int)-1) (by omega) (by omega)];exact⟨⟨j,_,by omega,rfl,h2,f1.trans f2,hres⟩,(by first|omega|(simp only [Int.toNat_natCast];omega))⟩
 ·obtain rfl:k=0:=by omega
  rw [heapBuild] at hres;refine Loop.by (fun s w'=>∃(k:Nat) (e:Array Int),k≤b-a∧s=[.int .i64 ((k:Int)-1)]∧ArU z w' B p n c e∧Fr (On p) w w'∧heapPop ltInt a k e=heapSort ltInt d a b) (fun s _=>match s with | [.int _ i]=>(i+1).toNat|_=>0)
   ⟨b-a,e,Nat.le_refl _,by simp;omega,h1,f1,by rw [heapSort,←hres]⟩ ?_
  rintro _ w2 ⟨k,e2,hk2,rfl,h2,f2,hr2⟩;simp only [UnC_cons,UnN_nil,AsI_int];refine C_ (fun hge=>?_) (fun hlt2=>?_)
  ·obtain⟨j,rfl⟩:∃j,k=j+1:=⟨k-1,by omega⟩;have ej:((j+1:Nat):Int)-1=(j:Int):=by omega
   have e5:i64.wrap ((a:Int)+(j:Int))=((a+j:Nat):Int):=by rw [w64 (by omega) (by omega)];omega
   simp only [ej,e5];refine h2.drew.rd rfl (by omega) ?_;refine h2.drew.rd rfl (by omega) ?_;refine h2.drew.sw (i:=a) (j:=a+j) rfl rfl (by omega) (by omega) rfl rfl fun w3 h3 f3=>?_;refine Ret.use (f259 h3 0 j a (by omega) hn (by omega)) ?_;rintro _ w4 ⟨rfl,h4,f4⟩;simp only [sb_,Nat.reduceAdd];rw [w64 (n:=(j:Int)-1) (by omega) (by omega)];exact⟨⟨j,_,by omega,rfl,h4,(f2.trans f3.of_drew).trans f4,hr2⟩,(by first|omega|(simp only [Int.toNat_natCast];omega))⟩
  ·obtain rfl:k=0:=by omega
   rw [heapPop] at hr2;exact⟨by trivial,by rw [←hr2];exact h2,f2⟩
theorem f284 {w:World} {B n c:Nat} {p:Option Addr} {d:Array Int} (h:ArU z w B p n c d) (a b:Nat) (ha:a<n) (hb:b<n) {sw s:Nat} (hs:Has w sw [.int .i64 (s:Int)]) (hs2:s<1000) (hon:¬On p sw) :
  Ret prog (nz z 284 286) #[.slice p n c,.int .i64 (a:Int),.int .i64 (b:Int),.pointer (some ⟨sw,0,none⟩)] w fun v w'=>v=.tuple #[.int .i64 ((order2 ltInt d a b s).1:Nat),.int .i64 ((order2 ltInt d a b s).2.1:Nat)]∧Has w' sw [.int .i64 ((order2 ltInt d a b s).2.2:Nat)]∧Fr (·=sw) w w':=by
 refine F284z_of z _ _ _ _ _ _ _ _ ?_;unfold F284z order2;try dsimp only [li_]
 refine h.rd rfl hb ?_;refine h.rd rfl ha ?_;refine Ret.use (R_j _ _) ?_;rintro _ _ ⟨rfl,hw⟩;obtain rfl:=hw.symm;rw [AsB_bool];refine w_ (fun hl=>?_) (fun hl=>?_)
 ·rw [if_pos hl];refine hs.drew.ld rfl (AsI_int.2 ?_);rw [w64 (n:=(s:Int)+1) (by omega) (by omega)];refine hs.drew.st (by simp) rfl fun w1 n1 f1 s1=>⟨rfl,by simpa using n1,f1.of_drew⟩
 ·rw [if_neg (by rw [hl];decide)];exact⟨rfl,hs,(Fr.refl _ _).drew⟩
theorem z_b (lt:Int→Int→Bool) (d:Array Int) (a b s:Nat):((order2 lt d a b s).1=a∨(order2 lt d a b s).1=b)∧((order2 lt d a b s).2.1=a∨(order2 lt d a b s).2.1=b)∧(order2 lt d a b s).2.2≤s+1:=by
 unfold order2;split<;>simp
theorem f263 {w:World} {B n c:Nat} {p:Option Addr} {d:Array Int} (h:ArU z w B p n c d) (a b e:Nat) (ha:a<n) (hb:b<n) (he:e<n) {sw s:Nat} (hs:Has w sw [.int .i64 (s:Int)]) (hs2:s<900) (hon:¬On p sw) :
  Ret prog (nz z 263 269) #[.slice p n c,.int .i64 (a:Int),.int .i64 (b:Int),.int .i64 (e:Int),.pointer (some ⟨sw,0,none⟩)] w fun v w'=>v=.int .i64 ((median ltInt d a b e s).1:Nat)∧Has w' sw [.int .i64 ((median ltInt d a b e s).2:Nat)]∧Fr (·=sw) w w':=by
 refine F263z_of z _ _ _ _ _ _ _ _ _ ?_;unfold F263z median;try dsimp only [Uii,ui_]
 obtain⟨q1,q2,q3⟩:=z_b ltInt d a b s;refine Ret.use (f284 h a b ha hb hs (by omega) hon) ?_;rintro _ w1 ⟨rfl,n1,f1⟩;simp only [sb_,Nat.reduceAdd];have hon':∀b,On p b→¬b=sw:=fun b hb e=>hon (e ▸ hb);have h1:=h.fr f1 hon';obtain⟨q4,q5,q6⟩:=z_b ltInt d (order2 ltInt d a b s).2.1 e (order2 ltInt d a b s).2.2;refine Ret.use (f284 h1 _ e (by omega) he n1 (by omega) hon) ?_;rintro _ w2 ⟨rfl,n2,f2⟩;simp only [sb_,Nat.reduceAdd];have h2:=h1.fr f2 hon';refine Ret.use (f284 h2 _ _ (by omega) (by omega) n2 (by omega) hon) ?_;rintro _ w3 ⟨rfl,n3,f3⟩;simp only [sb_,Nat.reduceAdd];exact⟨by trivial,n3,(f1.trans f2).trans f3⟩
theorem f262 {w:World} {B n c:Nat} {p:Option Addr} {d:Array Int} (h:ArU z w B p n c d) (a:Nat) (h0:1≤a) (ha:a+1<n) (hn:n≤1000000000000) {sw s:Nat} (hs:Has w sw [.int .i64 (s:Int)]) (hs2:s<900) (hon:¬On p sw) :
  Ret prog (nz z 262 268) #[.slice p n c,.int .i64 (a:Int),.pointer (some ⟨sw,0,none⟩)] w fun v w'=>v=.int .i64 ((medianAdjacent ltInt d a s).1:Nat)∧Has w' sw [.int .i64 ((medianAdjacent ltInt d a s).2:Nat)]∧Fr (·=sw) w w':=by
 refine F262z_of z _ _ _ _ _ _ _ ?_;unfold F262z medianAdjacent;have e1:i64.wrap ((a:Int)-1)=((a-1:Nat):Int):=by rw [w64 (by omega) (by omega)];omega
 have e2:i64.wrap ((a:Int)+1)=((a+1:Nat):Int):=by rw [w64 (by omega) (by omega)];omega
 rw [e1,e2];refine Ret.use (f263 h (a-1) a (a+1) (by omega) (by omega) (by omega) hs hs2 hon) ?_;rintro _ w1 ⟨rfl,n1,f1⟩;rw [AsI_int];exact⟨by trivial,n1,f1⟩
theorem f216 {w:World} {B n c:Nat} {p:Option Addr} {d:Array Int} (h:ArU z w B p n c d) (a b:Nat) (hab:a<b) (hb:b≤n) (hn:n≤1000000000000) :
  Ret prog (nz z 216 240) #[.slice p n c,.int .i64 (a:Int),.int .i64 (b:Int)] w fun v w'=>v=.tuple #[]∧ArU z w' B p n c (reverseRange d a b)∧Fr (On p) w w':=by
 refine F216z_of z _ _ _ _ _ _ _ ?_;unfold F216z reverseRange;try dsimp only [Uii,ui_]
 have e1:i64.wrap ((b:Int)-1)=((b-1:Nat):Int):=by rw [w64 (by omega) (by omega)];omega
 rw [e1];refine Loop.by (fun s w'=>∃(i j:Nat) (e:Array Int),i≤n∧j<n∧s=[.int .i64 (j:Int),.int .i64 (i:Int)]∧ArU z w' B p n c e∧Fr (On p) w w'∧reverseLoop i j e=reverseLoop a (b-1) d) (fun s _=>match s with | [.int _ j,.int _ i]=>j.toNat-i.toNat|_=>0)
  ⟨a,b-1,d,by omega,by omega,rfl,h,Fr.refl _ _,rfl⟩ ?_
 rintro _ w1 ⟨i,j,e,hi,hj,rfl,h1,f1,hres⟩;simp only [UnC_cons,UnN_nil,AsI_int];rw [reverseLoop] at hres;refine C_ (fun hlt=>?_) (fun hge=>?_)
 ·rw [if_pos (by omega)] at hres;have e2:i64.wrap ((j:Int)-1)=((j-1:Nat):Int):=by rw [w64 (by omega) (by omega)];omega
  have e3:i64.wrap ((i:Int)+1)=((i+1:Nat):Int):=by rw [w64 (by omega) (by omega)];omega
  simp only [e2,e3];refine h1.rd rfl (by omega) ?_;refine h1.rd rfl (by omega) ?_;refine h1.drew.sw (i:=i) (j:=j) rfl rfl (by omega) (by omega) rfl rfl fun w2 h2 f2=>?_;exact⟨⟨i+1,j-1,_,by omega,by omega,rfl,h2,f1.trans f2.of_drew,hres⟩,(by first|omega|(simp only [Int.toNat_natCast];omega))⟩
 ·rw [if_neg (by omega)] at hres;exact⟨by trivial,by rw [←hres];exact h1,f1⟩
end Go.Proofs.YtmgjicnipgdjhaaGreatDoor
set_option maxRecDepth 10000
namespace Go.Proofs.YtmgjicnipgdjhaaGreatDoor
open Go Go.Sh Go.Fr Go.Sort
open Go.IntKind (i64 u64 u32)
variable {z:Bool}
theorem M_k (lt:Int→Int→Bool) (d:Array Int) (a b e s:Nat):((median lt d a b e s).1=a∨(median lt d a b e s).1=b∨(median lt d a b e s).1=e)∧(median lt d a b e s).2≤s+3:=by
 unfold median;obtain⟨q1,q2,q3⟩:=z_b lt d a b s;obtain⟨q4,q5,q6⟩:=z_b lt d (order2 lt d a b s).2.1 e (order2 lt d a b s).2.2;obtain⟨q7,q8,q9⟩:=z_b lt d (order2 lt d a b s).1 (order2 lt d (order2 lt d a b s).2.1 e (order2 lt d a b s).2.2).1 (order2 lt d (order2 lt d a b s).2.1 e (order2 lt d a b s).2.2).2.2;refine⟨?_,by simp only;omega⟩;simp only;omega
theorem f_h (lt:Int→Int→Bool) (d:Array Int) (x s:Nat):(medianAdjacent lt d x s).1≤x+1∧(medianAdjacent lt d x s).2≤s+3:=by
 obtain⟨h1,h2⟩:=M_k lt d (x-1) x (x+1) s;unfold medianAdjacent;exact⟨by omega,h2⟩
def hintI (s:Nat):Int:=if s=0 then 1 else if s=12 then 2 else 0
def V_g (d:Array Int) (a b:Nat):Nat×Nat :=
 if b-a≥8 then
  if b-a≥50 then
   median ltInt d (medianAdjacent ltInt d (a+(b-a)/4*1) 0).1 (medianAdjacent ltInt d (a+(b-a)/4*2) (medianAdjacent ltInt d (a+(b-a)/4*1) 0).2).1
    (medianAdjacent ltInt d (a+(b-a)/4*3) (medianAdjacent ltInt d (a+(b-a)/4*2) (medianAdjacent ltInt d (a+(b-a)/4*1) 0).2).2).1
    (medianAdjacent ltInt d (a+(b-a)/4*3) (medianAdjacent ltInt d (a+(b-a)/4*2) (medianAdjacent ltInt d (a+(b-a)/4*1) 0).2).2).2
  else median ltInt d (a+(b-a)/4*1) (a+(b-a)/4*2) (a+(b-a)/4*3) 0
 else (a+(b-a)/4*2,0)
theorem q_k (d:Array Int) (a b:Nat):choosePivot ltInt d a b=((V_g d a b).1,if (V_g d a b).2=0 then Hint.increasing else if (V_g d a b).2=12 then .decreasing else .unknown):=rfl
theorem f215 {w:World} {B n c:Nat} {p:Option Addr} {d:Array Int} (h:ArU z w B p n c d) (a b:Nat) (hab:a<b) (hb:b≤n) (hn:n≤1000000000000) :
  Ret prog (nz z 215 239) #[.slice p n c,.int .i64 (a:Int),.int .i64 (b:Int)] w fun v w'=>v=.tuple #[.int .i64 ((V_g d a b).1:Nat),.int .i64 (hintI (V_g d a b).2)]∧Fr0 w w':=by
 refine F215z_of z _ _ _ _ _ _ _ ?_;unfold F215z;try dsimp only [O_f,li_,ui_]
 refine New.mk fun w1 n1 f1 s1=>?_;have e1:i64.wrap ((b:Int)-(a:Int))=((b-a:Nat):Int):=by rw [w64 (by omega) (by omega)];omega
 have e4:i64.wrap ((((b-a:Nat):Int)).tdiv 4)=(((b-a)/4:Nat):Int):=by
  rw [show (4:Int)=((4:Nat):Int) from rfl,←Int.ofNat_tdiv,w64 (by omega) (by omega)]
 have m1:i64.wrap ((((b-a)/4:Nat):Int)*1)=(((b-a)/4*1:Nat):Int):=by rw [w64 (by omega) (by omega)];omega
 have m2:i64.wrap ((((b-a)/4:Nat):Int)*2)=(((b-a)/4*2:Nat):Int):=by rw [w64 (by omega) (by omega)];omega
 have m3:i64.wrap ((((b-a)/4:Nat):Int)*3)=(((b-a)/4*3:Nat):Int):=by rw [w64 (by omega) (by omega)];omega
 have k1:i64.wrap ((a:Int)+(((b-a)/4*1:Nat):Int))=((a+(b-a)/4*1:Nat):Int):=by rw [w64 (by omega) (by omega)];omega
 have k2:i64.wrap ((a:Int)+(((b-a)/4*2:Nat):Int))=((a+(b-a)/4*2:Nat):Int):=by rw [w64 (by omega) (by omega)];omega
 have k3:i64.wrap ((a:Int)+(((b-a)/4*3:Nat):Int))=((a+(b-a)/4*3:Nat):Int):=by rw [w64 (by omega) (by omega)];omega
 simp only [e1,e4,m1,m2,m3,k1,k2,k3];have hnew:∀b,On p b→¬b=w.heap.size:=fun b hb e=>by have:=(h.sl.lt b hb).2;omega
 have hon:¬On p w.heap.size:=fun hx=>hnew _ hx rfl;have h1:=h.fr f1 (fun _ _ h=>h);refine Join.at (fun s w'=>∃x y:Int,s=[.int .i64 x,.int .i64 ((V_g d a b).1:Nat),.int .i64 y]∧Has w' w.heap.size [.int .i64 ((V_g d a b).2:Nat)]∧Fr0 w w') ?_ ?_
 ·refine C_ (fun h8=>?_) (fun h8=>?_)
  ·have h8':b-a≥8:=by omega
   refine Join.at (fun s w'=>∃(i j k t:Nat),s=[.int .i64 (k:Int),.int .i64 (j:Int),.int .i64 (i:Int)]∧i<n∧j<n∧k<n∧t≤9∧Has w' w.heap.size [.int .i64 (t:Int)]∧Fr (·=w.heap.size) w1 w'∧V_g d a b=median ltInt d i j k t) ?_ ?_
   ·refine C_ (fun h50=>?_) (fun h50=>?_)
    ·refine Ret.use (f262 h1 (a+(b-a)/4*1) (by omega) (by omega) hn (sw:=w.heap.size) (s:=0) n1 (by omega) hon) ?_;obtain⟨o1,o2⟩:=f_h ltInt d (a+(b-a)/4*1) 0;generalize hr1:medianAdjacent ltInt d (a+(b-a)/4*1) 0=r1 at *;rintro _ w2 ⟨rfl,n2,f2⟩;rw [AsI_int];have h2:=h1.fr f2 hnew;refine Ret.use (f262 h2 (a+(b-a)/4*2) (by omega) (by omega) hn n2 (by omega) hon) ?_;obtain⟨o3,o4⟩:=f_h ltInt d (a+(b-a)/4*2) r1.2;generalize hr2:medianAdjacent ltInt d (a+(b-a)/4*2) r1.2=r2 at *;rintro _ w3 ⟨rfl,n3,f3⟩;rw [AsI_int];have h3:=h2.fr f3 hnew;refine Ret.use (f262 h3 (a+(b-a)/4*3) (by omega) (by omega) hn n3 (by omega) hon) ?_;obtain⟨o5,o6⟩:=f_h ltInt d (a+(b-a)/4*3) r2.2;generalize hr3:medianAdjacent ltInt d (a+(b-a)/4*3) r2.2=r3 at *;rintro _ w4 ⟨rfl,n4,f4⟩;rw [AsI_int];refine⟨r1.1,r2.1,r3.1,r3.2,rfl,by omega,by omega,by omega,by omega,n4,(f2.trans f3).trans f4,?_⟩;unfold V_g;rw [if_pos h8',if_pos (by omega),hr1,hr2,hr3]
    ·refine⟨_,_,_,0,rfl,by omega,by omega,by omega,by omega,n1,Fr.refl _ _,?_⟩;unfold V_g;rw [if_pos h8',if_neg (by omega)]
   ·rintro _ w2 ⟨i,j,k,t,rfl,hi,hj,hk,ht,n2,f2,hpv⟩;simp only [UnC_cons,UnN_nil,AsI_int];refine Ret.use (f263 (h1.fr f2 hnew) i j k hi hj hk n2 (by omega) hon) ?_;rintro _ w3 ⟨rfl,n3,f3⟩;rw [AsI_int];refine⟨(k:Int),(i:Int),by rw [hpv],by rw [hpv];exact n3,(f1.new f2 (Nat.le_refl _)).new f3 (Nat.le_refl _)⟩
  ·have hp:V_g d a b=(a+(b-a)/4*2,0):=by unfold V_g;rw [if_neg (by omega)]
   exact⟨_,_,by rw [hp],by rw [hp];exact n1,f1⟩
 ·rintro _ w2 ⟨x,y,rfl,n2,f2⟩;simp only [UnC_cons,UnN_nil,AsI_int];refine n2.ld rfl (AsI_int.2 ?_);unfold hintI;refine O_ (fun h0=>?_) (fun h0=>?_)
  ·rw [if_pos (by omega)];exact⟨rfl,f2⟩
  ·rw [if_neg (by omega)];refine O_ (fun h12=>?_) (fun h12=>?_)
   ·rw [if_pos (by omega)];exact⟨rfl,f2⟩
   ·rw [if_neg (by omega)];exact⟨rfl,f2⟩
end Go.Proofs.YtmgjicnipgdjhaaGreatDoor
set_option maxRecDepth 10000
namespace Go.Proofs.YtmgjicnipgdjhaaGreatDoor
open Go Go.Sh Go.Fr Go.Sort
variable {z:Bool}
theorem o_b {x k:Nat} (h:2^k≤x):bitsLen x=k+bitsLen (x/2^k):=by
 have hp:0<2^k:=Nat.two_pow_pos k
 apply Nat.le_antisymm
 ·rw [bitsLen_le_iff,Nat.pow_add];have:=lt_two_pow_bitsLen (x/2^k);rw [Nat.div_lt_iff_lt_mul hp] at this;rw [Nat.mul_comm];exact this
 ·have h1:k<bitsLen x:=by
   rcases Nat.lt_or_ge k (bitsLen x) with h2|h2
   ·exact h2
   ·have:=(bitsLen_le_iff x k).1 h2;omega
  have h2:bitsLen (x/2^k)≤bitsLen x-k:=by
   rw [bitsLen_le_iff,Nat.div_lt_iff_lt_mul hp,←Nat.pow_add,show bitsLen x-k+k=bitsLen x by omega];exact lt_two_pow_bitsLen x
  omega
theorem J_h {t:ByteArray} (ht:((List.range 256).all fun i=>decide (t[i]?.map UInt8.toNat=some (bitsLen i)))=true) {i:Nat} (hi:i<256):∃J,t[i]?=some J∧J.toNat=bitsLen i:=by
 have:=List.all_eq_true.1 ht i (List.mem_range.2 hi);have:=of_decide_eq_true this;obtain⟨J,h1,h2⟩:=Option.map_eq_some_iff.1 this;exact⟨J,h1,h2⟩
theorem K_c {x:Nat} (hx:x<2^64):bitsLen x≤64:=(bitsLen_le_iff x 64).2 hx
theorem f222x {w:World} (x:Nat) (hx:x<2^64):Ret prog 222 #[.int .u64 (x:Int)] w fun v w'=>v=.int .i64 ((bitsLen x:Nat):Int)∧w'=w:=by
 have h64:=K_c hx;refine y_k ?_;unfold F222;try dsimp only [Uiv,ui_]
 refine Join.at (fun s w'=>(∃n y:Nat,s=[.int .i64 (n:Int),.int .u64 (y:Int)]∧y<2^32∧bitsLen x=n+bitsLen y∧n≤32)∧w'=w) ?_ ?_
 ·refine C_ (fun h=>?_) (fun h=>?_)
  ·have e:W_ .u64 (x:Int) 32=((x >>> 32:Nat):Int):=J_a (n:=32) (by decide);rw [e];refine⟨⟨32,x >>> 32,rfl,by rw [Nat.shiftRight_eq_div_pow];omega,by rw [Nat.shiftRight_eq_div_pow];exact o_b (by omega),by omega⟩,rfl⟩
  ·exact⟨⟨0,x,rfl,by omega,by omega,by omega⟩,rfl⟩
 ·rintro _ _ ⟨⟨n,y,rfl,hy,hb,hn⟩,hw⟩;obtain rfl:=hw.symm;simp only [UnC_cons,UnN_nil,AsI_int];refine Join.at (fun s w'=>(∃n y:Nat,s=[.int .i64 (n:Int),.int .u64 (y:Int)]∧y<2^16∧bitsLen x=n+bitsLen y∧n≤48)∧w'=w) ?_ ?_
  ·refine C_ (fun h=>?_) (fun h=>?_)
   ·have e:W_ .u64 (y:Int) 16=((y >>> 16:Nat):Int):=J_a (n:=16) (by decide);rw [e,w64 (n:=(n:Int)+16) (by omega) (by omega)];refine⟨⟨n+16,y >>> 16,rfl,by rw [Nat.shiftRight_eq_div_pow];omega,?_,by omega⟩,rfl⟩;rw [Nat.shiftRight_eq_div_pow,hb,o_b (k:=16) (x:=y) (by omega)];omega
   ·exact⟨⟨n,y,rfl,by omega,hb,by omega⟩,rfl⟩
  ·rintro _ _ ⟨⟨n,y,rfl,hy,hb,hn⟩,hw⟩;obtain rfl:=hw.symm;simp only [UnC_cons,UnN_nil,AsI_int];refine C_ (fun h=>?_) (fun h=>?_)
   ·have e:W_ .u64 (y:Int) 8=((y/256:Nat):Int):=by
     rw [show W_ .u64 (y:Int) 8=((y >>> 8:Nat):Int) from J_a (n:=8) (by decide),Nat.shiftRight_eq_div_pow]
    rw [e,wu8 (n:=((y/256:Nat):Int)) (by omega) (by omega),w64 (n:=(n:Int)+8) (by omega) (by omega),Int.toNat_natCast];obtain⟨J,hJ,hJ2⟩:=J_h (t:=_) (by kernel_rfl) (i:=y/256) (by omega);refine⟨by omega,J,hJ,?_,by trivial⟩;have hbl:bitsLen y=8+bitsLen (y/256):=o_b (k:=8) (by omega);rw [hJ2,w64 (n:=((bitsLen (y/256):Nat):Int)) (by omega) (by omega),w64 (by omega) (by omega)]
    congr 1
    omega
   ·rw [wu8 (n:=(y:Int)) (by omega) (by omega),Int.toNat_natCast];obtain⟨J,hJ,hJ2⟩:=J_h (t:=_) (by kernel_rfl) (i:=y) (by omega);refine⟨by omega,J,hJ,?_,by trivial⟩;rw [hJ2,w64 (n:=((bitsLen y:Nat):Int)) (by omega) (by omega),w64 (by omega) (by omega)]
    congr 1
    omega
theorem f163x {w:World} (x:Nat) (hx:x<2^64):Ret prog 163 #[.int .u64 (x:Int)] w fun v w'=>v=.int .i64 ((bitsLen x:Nat):Int)∧w'=w:=by
 refine A_l ?_;unfold F163;refine Ret.use (f222x x hx) ?_;rintro _ _ ⟨rfl,hw⟩;obtain rfl:=hw.symm;rw [AsI_int];exact⟨rfl,by trivial⟩
end Go.Proofs.YtmgjicnipgdjhaaGreatDoor
set_option maxRecDepth 10000
namespace Go.Proofs.YtmgjicnipgdjhaaGreatDoor
open Go Go.Sh Go.Fr Go.Sort
open Go.IntKind (i64 u64 u32)
variable {z:Bool}
theorem m_j (x n:Nat) (hn:n≤64):l_ .u64 (x:Int) (n:Int)=((x*2^n%18446744073709551616:Nat):Int):=by
 have e:l_ .u64 (x:Int) (n:Int)=u64.wrap ((x*2^n:Nat):Int):=by
  unfold l_;rw [show min (n:Int).toNat u64.bits=n from by rw [Int.toNat_natCast];exact Nat.min_eq_left hn]
  congr 1
 rw [e];generalize x*2^n=y;rw [IntKind.wrap_u64];omega
theorem shr_div (x n:Nat) (hn:n≤64):W_ .u64 (x:Int) (n:Int)=((x/2^n:Nat):Int):=by
 rw [J_a (k:=.u64) hn,Nat.shiftRight_eq_div_pow]
theorem f261 {w:World} {rb:Nat} {r:UInt64} (h:Has w rb [.int .u64 ((r.toNat:Nat):Int)]) :
  Ret prog 261 #[.pointer (some ⟨rb,0,none⟩)] w fun v w'=>v=.int .u64 (((xorNext r).toNat:Nat):Int)∧Has w' rb [.int .u64 (((xorNext r).toNat:Nat):Int)]∧Fr (·=rb) w w':=by
 have p64:(18446744073709551616:Nat)=2^64:=by decide
 have hr:r.toNat<2^64:=r.toNat_lt;rw [xorNext_toNat];generalize r.toNat=x at *;have e1:O_j .u64 (x:Int) (l_ .u64 (x:Int) 13)=((x ^^^ (x*8192%18446744073709551616):Nat):Int):=by
  rw [show (13:Int)=((13:Nat):Int) from rfl,m_j x 13 (by decide),T_e hr (by omega)]
 have ha:x ^^^ (x*8192%18446744073709551616)<2^64:=Nat.xor_lt_two_pow hr (by omega);generalize hA:x ^^^ (x*8192%18446744073709551616)=A at *;have e2:O_j .u64 (A:Int) (W_ .u64 (A:Int) 7)=((A ^^^ (A/128):Nat):Int):=by
  rw [show (7:Int)=((7:Nat):Int) from rfl,shr_div A 7 (by decide),T_e ha (by omega)]
 have hb:A ^^^ (A/128)<2^64:=Nat.xor_lt_two_pow ha (by omega);have hN:xorNextN x=(A ^^^ (A/128)) ^^^ ((A ^^^ (A/128))*131072%18446744073709551616):=by unfold xorNextN;rw [hA]
 rw [hN];generalize hB:A ^^^ (A/128)=C at *;have e3:O_j .u64 (C:Int) (l_ .u64 (C:Int) 17)=((C ^^^ (C*131072%18446744073709551616):Nat):Int):=by
  rw [show (17:Int)=((17:Nat):Int) from rfl,m_j C 17 (by decide),T_e hb (by omega)]
 refine F261_of ?_;unfold F261;try dsimp only [li_]
 refine h.ld rfl (AsI_int.2 ?_);refine h.ld rfl (AsI_int.2 ?_);rw [e1];refine h.drew.st (by simp) rfl fun w1 n1 f1 s1=>?_;have n1':Has w1 rb [.int .u64 (A:Int)]:=n1;refine n1'.ld rfl (AsI_int.2 ?_);refine n1'.ld rfl (AsI_int.2 ?_);rw [e2];refine n1'.drew.st (by simp) rfl fun w2 n2 f2 s2=>?_;have n2':Has w2 rb [.int .u64 (C:Int)]:=n2;refine n2'.ld rfl (AsI_int.2 ?_);refine n2'.ld rfl (AsI_int.2 ?_);rw [e3];refine n2'.drew.st (by simp) rfl fun w3 n3 f3 s3=>?_;refine n3.ld rfl (AsI_int.2 ?_);exact⟨rfl,n3,(f1.of_drew.trans f2.of_drew).trans f3.of_drew⟩
theorem f260 {w:World} (x:Nat) (hx:x<2^63):Ret prog 260 #[.int .i64 (x:Int)] w fun v w'=>v=.int .u64 (((1 <<< bitsLen x:Nat)):Int)∧w'=w:=by
 refine F260_of ?_;unfold F260;rw [b_a (n:=(x:Int)) (by omega) (by omega)];refine Ret.use (f163x x (by omega)) ?_;rintro _ _ ⟨rfl,hw⟩;obtain rfl:=hw.symm;rw [AsI_int];refine NN.mk (by omega) ?_;have hb:bitsLen x≤63:=(bitsLen_le_iff x 63).2 hx;refine⟨?_,by trivial⟩;rw [show (1:Int)=((1:Nat):Int) from rfl,B_d (by omega) (by rw [Nat.one_shiftLeft];exact Nat.pow_lt_pow_right (by decide) (by omega))]
def w_g (a L m idx:Nat) (s:UInt64×Array Int):Nat→UInt64×Array Int
 | 0=>s
 | k+1=>breakStep a L m (w_g a L m idx s k) (idx+k)
theorem f214 {w:World} {B n c:Nat} {p:Option Addr} {d:Array Int} (h:ArU z w B p n c d) (a b:Nat) (hab:a≤b) (hb:b≤n) (hn:n≤1000000000000) :
  Ret prog (nz z 214 238) #[.slice p n c,.int .i64 (a:Int),.int .i64 (b:Int)] w fun v w'=>v=.tuple #[]∧ArU z w' B p n c (breakPatterns d a b)∧Fr (On p) w w':=by
 refine F214z_of z _ _ _ _ _ _ _ ?_;unfold F214z;try dsimp only [ui_]
 have e1:i64.wrap ((b:Int)-(a:Int))=((b-a:Nat):Int):=by rw [w64 (by omega) (by omega)];omega
 simp only [e1];refine C_ (fun h8=>?_) (fun h8=>?_)
 ·have h8':b-a≥8:=by omega
  refine New.mk fun w1 n1 f1 s1=>?_;rw [b_a (n:=((b-a:Nat):Int)) (by omega) (by omega)];refine n1.st (by simp) rfl fun w2 n2 f2 s2=>?_;have hnew:∀b,On p b→¬b=w.heap.size:=fun b hb e=>by have:=(h.sl.lt b hb).2;omega
  have h2:=(h.fr f1 (fun _ _ h=>h)).fr f2 hnew;have f02:Fr0 w w2:=f1.new f2 (Nat.le_refl _);refine Ret.use (f260 (b-a) (by omega)) ?_;rintro _ _ ⟨rfl,hw⟩;obtain rfl:=hw.symm;rw [AsI_int];have hm1:=two_pow_bitsLen_le (n:=b-a) (by omega);have hmpos:0<2^bitsLen (b-a):=Nat.two_pow_pos _;have hms:(1 <<< bitsLen (b-a):Nat)=2^bitsLen (b-a):=Nat.one_shiftLeft _;obtain⟨m,hm⟩:∃m:Nat,m=1 <<< bitsLen (b-a):=⟨_,rfl⟩;rw [←hm];have e4:i64.wrap ((((b-a:Nat):Int)).tdiv 4)=(((b-a)/4:Nat):Int):=by
   rw [show (4:Int)=((4:Nat):Int) from rfl,←Int.ofNat_tdiv,w64 (by omega) (by omega)]
  have m2:i64.wrap ((((b-a)/4:Nat):Int)*2)=(((b-a)/4*2:Nat):Int):=by rw [w64 (by omega) (by omega)];omega
  have k2:i64.wrap ((a:Int)+(((b-a)/4*2:Nat):Int))=((a+(b-a)/4*2:Nat):Int):=by rw [w64 (by omega) (by omega)];omega
  have k3:i64.wrap (((a+(b-a)/4*2:Nat):Int)-1)=((a+(b-a)/4*2-1:Nat):Int):=by rw [w64 (by omega) (by omega)];omega
  have k4:i64.wrap (((a+(b-a)/4*2:Nat):Int)+1)=((a+(b-a)/4*2+1:Nat):Int):=by rw [w64 (by omega) (by omega)];omega
  simp only [e4,m2,k2,k3,k4];have hL:(UInt64.ofNat (b-a)).toNat=b-a:=by rw [UInt64.toNat_ofNat'];exact Nat.mod_eq_of_lt (by omega)
  have n2':Has w2 w.heap.size [.int .u64 (((w_g a (b-a) m (a+(b-a)/4*2-1) (UInt64.ofNat (b-a),d) 0).1.toNat:Nat):Int)]:=by
   show Has w2 w.heap.size [.int .u64 (((UInt64.ofNat (b-a)).toNat:Nat):Int)];rw [hL];exact n2
  refine Loop.by (fun s w'=>∃k:Nat,k≤3∧s=[.int .i64 ((a+(b-a)/4*2-1+k:Nat):Int)]∧ArU z w' B p n c (w_g a (b-a) m (a+(b-a)/4*2-1) (UInt64.ofNat (b-a),d) k).2∧Has w' w.heap.size [.int .u64 (((w_g a (b-a) m (a+(b-a)/4*2-1) (UInt64.ofNat (b-a),d) k).1.toNat:Nat):Int)]∧Fr (On p) w w')
   (fun s _=>match s with | [.int _ i]=>a+b+2-i.toNat|_=>0) ⟨0,by omega,by simp,h2,n2',f02.mono fun _ _ h=>h.elim⟩ ?_
  rintro _ w3 ⟨k,hk,rfl,h3,n3,f3⟩;simp only [UnC_cons,UnN_nil,AsI_int];refine C_ (fun hle=>?_) (fun hgt=>?_)
  ·refine Ret.use (f261 n3) ?_;rintro _ w4 ⟨rfl,n4,f4⟩;rw [AsI_int];have h4:=h3.fr f4 hnew;obtain⟨st,hst⟩:∃st,st=w_g a (b-a) m (a+(b-a)/4*2-1) (UInt64.ofNat (b-a),d) k:=⟨_,rfl⟩;rw [←hst] at n4 h4 ⊢;have hand:i64.wrap (Q_ .u64 (((xorNext st.1).toNat:Nat):Int) (u64.wrap ((m:Int)-1)))=(((xorNext st.1).toNat &&& (m-1):Nat):Int):=by
    rw [b_a (n:=(m:Int)-1) (by omega) (by omega),show (m:Int)-1=((m-1:Nat):Int) by omega,b_e (xorNext st.1).toNat_lt (by omega)];have:(xorNext st.1).toNat &&& (m-1)≤m-1:=Nat.and_le_right;rw [w64 (by omega) (by omega)]
   have hlt:(xorNext st.1).toNat &&& (m-1)≤m-1:=Nat.and_le_right;simp only [hand];obtain⟨o,ho⟩:∃o,o=if (xorNext st.1).toNat &&& (m-1)≥b-a then ((xorNext st.1).toNat &&& (m-1))-(b-a) else (xorNext st.1).toNat &&& (m-1):=⟨_,rfl⟩
   have hoL:o<b-a:=by rw [ho];split<;>omega
   have hstep:breakStep a (b-a) m st (a+(b-a)/4*2-1+k)=(xorNext st.1,swp st.2 (a+(b-a)/4*2-1+k) (a+o)):=by rw [ho];rfl
   refine Join.at (fun s w'=>s=[.int .i64 (o:Int)]∧w'=w4) ?_ ?_
   ·refine C_ (fun hge=>?_) (fun hlt'=>?_)
    ·refine⟨?_,rfl⟩;rw [w64 (by omega) (by omega),ho,if_pos (by omega)]
     congr 2
     omega
    ·refine⟨?_,rfl⟩;rw [ho,if_neg (by omega)]
   ·rintro _ _ ⟨rfl,hw⟩;obtain rfl:=hw.symm;simp only [UnC_cons,UnN_nil,AsI_int];have e5:i64.wrap ((a:Int)+(o:Int))=((a+o:Nat):Int):=by rw [w64 (by omega) (by omega)];omega
    simp only [e5];refine h4.drew.rd rfl (by omega) ?_;refine h4.drew.rd rfl (by omega) ?_;refine h4.drew.sw (i:=a+(b-a)/4*2-1+k) (j:=a+o) rfl rfl (by omega) (by omega) rfl rfl fun w5 h5 f5=>?_
    replace f5:=f5.of_drew
    rw [w64 (n:=((a+(b-a)/4*2-1+k:Nat):Int)+1) (by omega) (by omega)];have hnn:¬On p w.heap.size:=fun hx=>hnew _ hx rfl;refine⟨⟨k+1,by omega,by congr 2,?_,?_,?_⟩,(by first|omega|(simp only [Int.toNat_natCast];omega))⟩
    ·show ArU z w5 B p n c (breakStep a (b-a) m (w_g a (b-a) m (a+(b-a)/4*2-1) (UInt64.ofNat (b-a),d) k) (a+(b-a)/4*2-1+k)).2;rw [←hst,hstep];exact h5
    ·show Has w5 w.heap.size [.int .u64 (((breakStep a (b-a) m (w_g a (b-a) m (a+(b-a)/4*2-1) (UInt64.ofNat (b-a),d) k) (a+(b-a)/4*2-1+k)).1.toNat:Nat):Int)];rw [←hst,hstep];exact n4.fr f5 hnn
    ·exact (f3.thenS f4 fun x hx e=>by have e:x=w.heap.size:=e;omega).trans f5
  ·obtain rfl:k=3:=by omega
   refine⟨by trivial,?_,f3⟩;have:breakPatterns d a b=(w_g a (b-a) m (a+(b-a)/4*2-1) (UInt64.ofNat (b-a),d) 3).2:=by
    unfold breakPatterns;simp only [if_pos h8',hm]
    rfl
   rw [this];exact h3
 ·have:breakPatterns d a b=d:=by unfold breakPatterns;simp only [if_neg (show ¬b-a≥8 by omega)]
  exact⟨by trivial,by rw [this];exact h,Fr.refl _ _⟩
end Go.Proofs.YtmgjicnipgdjhaaGreatDoor
set_option maxRecDepth 10000
namespace Go.Proofs.YtmgjicnipgdjhaaGreatDoor
open Go Go.Sh Go.Fr Go.Sort
open Go.IntKind (i64 u64 u32)
variable {z:Bool}
theorem f219 {w:World} {B n c:Nat} {p:Option Addr} {d:Array Int} (h:ArU z w B p n c d) (a b pv:Nat) (hap:a≤pv) (hpb:pv<b) (hb:b≤n) (hn:n≤1000000000000) :
  Ret prog (nz z 219 243) #[.slice p n c,.int .i64 (a:Int),.int .i64 (b:Int),.int .i64 (pv:Int)] w fun v w'=>v=.int .i64 (((partitionEqual ltInt d a b pv).1:Nat):Int)∧ArU z w' B p n c (partitionEqual ltInt d a b pv).2∧Fr (On p) w w':=by
 refine F219z_of z _ _ _ _ _ _ _ _ ?_;unfold F219z;try dsimp only [Uii,ui_]
 refine h.rd rfl (by omega) ?_;refine h.rd rfl (by omega) ?_;refine h.drew.sw (i:=a) (j:=pv) rfl rfl (by omega) (by omega) rfl rfl fun w1 h1 f1=>?_
 replace f1:=f1.of_drew
 have e1:i64.wrap ((b:Int)-1)=((b-1:Nat):Int):=by rw [w64 (by omega) (by omega)];omega
 have e2:i64.wrap ((a:Int)+1)=((a+1:Nat):Int):=by rw [w64 (by omega) (by omega)];omega
 rw [e1,e2];refine Loop.by (fun s w'=>∃(i j:Nat) (e:Array Int),a<i∧i≤n∧j<n∧s=[.int .i64 (j:Int),.int .i64 (i:Int)]∧ArU z w' B p n c e∧Fr (On p) w w'∧partEqLoop ltInt a i j e=partitionEqual ltInt d a b pv) (fun s _=>match s with | [.int _ j,.int _ i]=>j.toNat+1-i.toNat|_=>0)
  ⟨a+1,b-1,_,by omega,by omega,by omega,rfl,h1,f1,rfl⟩ ?_
 rintro _ w2 ⟨i,j,e,hi1,hi2,hj,rfl,h2,f2,hres⟩;simp only [UnC_cons,UnN_nil,AsI_int];rw [partEqLoop] at hres;refine Join.at (fun s w'=>∃i2:Nat,s=[.int .i64 (i2:Int)]∧i2=scanUp (fun x=>!ltInt e[a]! x) e j i∧i≤i2∧i2≤n∧ArU z w' B p n c e∧Fr (On p) w w') ?_ ?_
 ·refine Loop.by (fun s w'=>∃i2:Nat,s=[.int .i64 (i2:Int)]∧scanUp (fun x=>!ltInt e[a]! x) e j i2=scanUp (fun x=>!ltInt e[a]! x) e j i∧i≤i2∧i2≤n∧ArU z w' B p n c e∧Fr (On p) w w') (fun s _=>match s with | [.int _ i]=>n-i.toNat|_=>0)
   ⟨i,rfl,rfl,Nat.le_refl _,hi2,h2,f2⟩ ?_
  rintro _ w3 ⟨i2,rfl,hs,k1,k2,h3,f3⟩;simp only [UnC_cons,UnN_nil,AsI_int];rw [scanUp] at hs;refine C_ (fun hle=>?_) (fun hgt=>?_)
  ·refine h3.rd rfl (by omega) ?_;refine h3.rd rfl (by omega) ?_;refine Ret.use (R_j _ _) ?_;rintro _ _ ⟨rfl,hw⟩;obtain rfl:=hw.symm;rw [AsB_bool];refine BIf_not.2 (w_ (fun hl=>?_) (fun hl=>?_))
   ·rw [if_neg (by rw [hl];simp)] at hs;exact⟨i2,rfl,hs,k1,k2,h3.drew,f3.drew⟩
   ·rw [if_pos (by rw [hl,decide_eq_true (show i2≤j by omega)];rfl)] at hs;rw [w64 (n:=(i2:Int)+1) (by omega) (by omega)];exact⟨⟨i2+1,rfl,hs,by omega,by omega,h3.drew,f3.drew⟩,(by first|omega|(simp only [Int.toNat_natCast];omega))⟩
  ·rw [if_neg (by rw [decide_eq_false (show ¬i2≤j by omega)];simp)] at hs;exact⟨i2,rfl,hs,k1,k2,h3.drew,f3.drew⟩
 ·rintro _ w3 ⟨i2,rfl,hs,k1,k2,h3,f3⟩;simp only [UnC_cons,UnN_nil,AsI_int];rw [←hs] at hres;have hguard:=partEqLoop_guard (lt:=ltInt) a i j e;rw [←hs] at hguard;refine Join.at (fun s w'=>∃j2:Nat,s=[.int .i64 (j2:Int)]∧j2=scanDown (fun x=>ltInt e[a]! x) e i2 j∧j2≤j∧ArU z w' B p n c e∧Fr (On p) w w') ?_ ?_
  ·refine Loop.by (fun s w'=>∃j2:Nat,s=[.int .i64 (j2:Int)]∧scanDown (fun x=>ltInt e[a]! x) e i2 j2=scanDown (fun x=>ltInt e[a]! x) e i2 j∧j2≤j∧ArU z w' B p n c e∧Fr (On p) w w') (fun s _=>match s with | [.int _ i]=>i.toNat|_=>0)
    ⟨j,rfl,rfl,Nat.le_refl _,h3,f3⟩ ?_
   rintro _ w4 ⟨j2,rfl,hd,k3,h4,f4⟩;simp only [UnC_cons,UnN_nil,AsI_int];refine C_ (fun hle=>?_) (fun hgt=>?_)
   ·obtain⟨j3,rfl⟩:∃j3,j2=j3+1:=⟨j2-1,by omega⟩;rw [scanDown] at hd;refine h4.rd rfl (by omega) ?_;refine h4.rd rfl (by omega) ?_;refine Ret.use (R_j _ _) ?_;rintro _ _ ⟨rfl,hw⟩;obtain rfl:=hw.symm;rw [AsB_bool];refine w_ (fun hl=>?_) (fun hl=>?_)
    ·rw [if_pos (by rw [hl,decide_eq_true (show i2≤j3+1 by omega)];rfl)] at hd;have ej:i64.wrap (((j3+1:Nat):Int)-1)=(j3:Int):=by rw [w64 (by omega) (by omega)];omega
     rw [ej];exact⟨⟨j3,rfl,hd,by omega,h4.drew,f4.drew⟩,(by first|omega|(simp only [Int.toNat_natCast];omega))⟩
    ·rw [if_neg (by rw [hl];simp)] at hd;exact⟨j3+1,rfl,hd,k3,h4.drew,f4.drew⟩
   ·refine⟨j2,rfl,?_,k3,h4.drew,f4.drew⟩;rw [←hd];cases j2 with
    | zero=>rfl
    | succ j3=>rw [scanDown,if_neg (by rw [decide_eq_false (show ¬i2≤j3+1 by omega)];simp)]
  ·rintro _ w4 ⟨j2,rfl,hd,k3,h4,f4⟩;simp only [UnC_cons,UnN_nil,AsI_int];rw [←hd] at hres hguard;refine C_ (fun hgt=>?_) (fun hle=>?_)
   ·rw [if_pos (by omega)] at hres;rw [←hres];exact⟨rfl,h4,f4⟩
   ·rw [if_neg (by omega),dif_pos (hguard (by omega))] at hres;have e3:i64.wrap ((j2:Int)-1)=((j2-1:Nat):Int):=by rw [w64 (by omega) (by omega)];omega
    have e4:i64.wrap ((i2:Int)+1)=((i2+1:Nat):Int):=by rw [w64 (by omega) (by omega)];omega
    simp only [e3,e4];refine h4.rd rfl (by omega) ?_;refine h4.rd rfl (by omega) ?_;refine h4.drew.sw (i:=i2) (j:=j2) rfl rfl (by omega) (by omega) rfl rfl fun w5 h5 f5=>?_;exact⟨⟨i2+1,j2-1,_,by omega,by omega,by omega,rfl,h5,f4.trans f5.of_drew,hres⟩,(by first|omega|(simp only [Int.toNat_natCast];omega))⟩
end Go.Proofs.YtmgjicnipgdjhaaGreatDoor
set_option maxRecDepth 10000
namespace Go.Proofs.YtmgjicnipgdjhaaGreatDoor
open Go Go.Sh Go.Fr Go.Sort
open Go.IntKind (i64 u64 u32)
variable {z:Bool}
theorem up220 {w:World} {B n c:Nat} {p:Option Addr} {d:Array Int} (h:ArU z w B p n c d) (a i jj:Nat) (ha:a<n) (hi:i≤n) (hj:jj<n) (hn:n≤1000000000000) {Kn:List Value→World→Prop}
  (k:∀(i2:Nat) w',i2=scanUp (fun x=>ltInt x d[a]!) d jj i→i≤i2→i2≤n→ArU z w' B p n c d→Fr (On p) w w'→Kn [.int .i64 (i2:Int)] w') :
  Sh.Loop [.int .i64 (i:Int)] w fun J s w'=>UnC s fun v s'=>AsI .i64 v fun i'=>UnN s' (BIf (decide (i'≤(jj:Int))) (NilP p fun a1=>0≤i'∧i'<(n:Int)∧Ld w' (at0 a1 (i'.toNat*1)) fun v1=>AsI (kd z) v1 fun x1 =>
   NilP p fun a2=>0≤(a:Int)∧(a:Int)<(n:Int)∧Ld w' (at0 a2 ((a:Int).toNat*1)) fun v2=>AsI (kd z) v2 fun x2=>A_ prog (nz z 218 242) #[.int (kd z) x1,.int (kd z) x2] w'.drew fun v3 w3=>AsB v3 fun b3 =>
   BIf b3 (J [.int .i64 (i64.wrap (i'+1))] w3) (Kn [.int .i64 i'] w3)) (Kn [.int .i64 i'] w'.drew)):=by
 refine Loop.by (fun s w'=>∃i2:Nat,s=[.int .i64 (i2:Int)]∧scanUp (fun x=>ltInt x d[a]!) d jj i2=scanUp (fun x=>ltInt x d[a]!) d jj i∧i≤i2∧i2≤n∧ArU z w' B p n c d∧Fr (On p) w w') (fun s _=>match s with | [.int _ i]=>n-i.toNat|_=>0)
  ⟨i,rfl,rfl,Nat.le_refl _,hi,h,Fr.refl _ _⟩ ?_
 rintro _ w3 ⟨i2,rfl,hs,k1,k2,h3,f3⟩;simp only [UnC_cons,UnN_nil,AsI_int];rw [scanUp] at hs;refine C_ (fun hle=>?_) (fun hgt=>?_)
 ·refine h3.rd rfl (by omega) ?_;refine h3.rd rfl (by omega) ?_;refine Ret.use (R_j _ _) ?_;rintro _ _ ⟨rfl,hw⟩;obtain rfl:=hw.symm;rw [AsB_bool];refine w_ (fun hl=>?_) (fun hl=>?_)
  ·rw [if_pos (by rw [hl,decide_eq_true (show i2≤jj by omega)];rfl)] at hs;rw [w64 (n:=(i2:Int)+1) (by omega) (by omega)];exact⟨⟨i2+1,rfl,hs,by omega,by omega,h3.drew,f3.drew⟩,(by first|omega|(simp only [Int.toNat_natCast];omega))⟩
  ·rw [if_neg (by rw [hl];simp)] at hs;exact k i2 _ hs k1 k2 h3.drew f3.drew
 ·rw [if_neg (by rw [decide_eq_false (show ¬i2≤jj by omega)];simp)] at hs;exact k i2 _ hs k1 k2 h3.drew f3.drew
theorem k_k {w:World} {B n c:Nat} {p:Option Addr} {d:Array Int} (h:ArU z w B p n c d) (a i2 j:Nat) (ha:a<n) (hi:1≤i2) (hj:j<n) (hn:n≤1000000000000) {Kn:List Value→World→Prop}
  (k:∀(j2:Nat) w',j2=scanDown (fun x=>!ltInt x d[a]!) d i2 j→j2≤j→ArU z w' B p n c d→Fr (On p) w w'→Kn [.int .i64 (j2:Int)] w') :
  Sh.Loop [.int .i64 (j:Int)] w fun J s w'=>UnC s fun v s'=>AsI .i64 v fun j'=>UnN s' (BIf (decide ((i2:Int)≤j')) (NilP p fun a1=>0≤j'∧j'<(n:Int)∧Ld w' (at0 a1 (j'.toNat*1)) fun v1=>AsI (kd z) v1 fun x1 =>
   NilP p fun a2=>0≤(a:Int)∧(a:Int)<(n:Int)∧Ld w' (at0 a2 ((a:Int).toNat*1)) fun v2=>AsI (kd z) v2 fun x2=>A_ prog (nz z 218 242) #[.int (kd z) x1,.int (kd z) x2] w'.drew fun v3 w3=>AsB v3 fun b3 =>
   BIf (!b3) (J [.int .i64 (i64.wrap (j'-1))] w3) (Kn [.int .i64 j'] w3)) (Kn [.int .i64 j'] w'.drew)):=by
 refine Loop.by (fun s w'=>∃j2:Nat,s=[.int .i64 (j2:Int)]∧scanDown (fun x=>!ltInt x d[a]!) d i2 j2=scanDown (fun x=>!ltInt x d[a]!) d i2 j∧j2≤j∧ArU z w' B p n c d∧Fr (On p) w w') (fun s _=>match s with | [.int _ i]=>i.toNat|_=>0)
  ⟨j,rfl,rfl,Nat.le_refl _,h,Fr.refl _ _⟩ ?_
 rintro _ w4 ⟨j2,rfl,hd,k3,h4,f4⟩;simp only [UnC_cons,UnN_nil,AsI_int];refine C_ (fun hle=>?_) (fun hgt=>?_)
 ·obtain⟨j3,rfl⟩:∃j3,j2=j3+1:=⟨j2-1,by omega⟩;rw [scanDown] at hd;refine h4.rd rfl (by omega) ?_;refine h4.rd rfl (by omega) ?_;refine Ret.use (R_j _ _) ?_;rintro _ _ ⟨rfl,hw⟩;obtain rfl:=hw.symm;rw [AsB_bool];refine BIf_not.2 (w_ (fun hl=>?_) (fun hl=>?_))
  ·rw [if_neg (by rw [hl];simp)] at hd;exact k (j3+1) _ hd k3 h4.drew f4.drew
  ·rw [if_pos (by rw [hl,decide_eq_true (show i2≤j3+1 by omega)];rfl)] at hd;have ej:i64.wrap (((j3+1:Nat):Int)-1)=(j3:Int):=by rw [w64 (by omega) (by omega)];omega
   rw [ej];exact⟨⟨j3,rfl,hd,by omega,h4.drew,f4.drew⟩,(by first|omega|(simp only [Int.toNat_natCast];omega))⟩
 ·refine k j2 _ ?_ k3 h4.drew f4.drew;rw [←hd];cases j2 with
  | zero=>rfl
  | succ j3=>rw [scanDown,if_neg (by rw [decide_eq_false (show ¬i2≤j3+1 by omega)];simp)]
theorem f220 {w:World} {B n c:Nat} {p:Option Addr} {d:Array Int} (h:ArU z w B p n c d) (a b pv:Nat) (hap:a≤pv) (hpb:pv<b) (hb:b≤n) (hn:n≤1000000000000) :
  Ret prog (nz z 220 244) #[.slice p n c,.int .i64 (a:Int),.int .i64 (b:Int),.int .i64 (pv:Int)] w fun v w'=>v=.tuple #[.int .i64 (((partition ltInt d a b pv).1:Nat):Int),.bool (partition ltInt d a b pv).2.1]∧ArU z w' B p n c (partition ltInt d a b pv).2.2∧Fr (On p) w w':=by
 refine F220z_of z _ _ _ _ _ _ _ _ ?_;unfold F220z;try dsimp only [Uii,ui_]
 refine h.rd rfl (by omega) ?_;refine h.rd rfl (by omega) ?_;refine h.drew.sw (i:=a) (j:=pv) rfl rfl (by omega) (by omega) rfl rfl fun w1 h1 f1=>?_
 replace f1:=f1.of_drew
 have e1:i64.wrap ((b:Int)-1)=((b-1:Nat):Int):=by rw [w64 (by omega) (by omega)];omega
 have e2:i64.wrap ((a:Int)+1)=((a+1:Nat):Int):=by rw [w64 (by omega) (by omega)];omega
 rw [e1,e2];have hpart:partition ltInt d a b pv=if scanUp (fun x=>ltInt x (swp d a pv)[a]!) (swp d a pv) (b-1) (a+1)>scanDown (fun x=>!ltInt x (swp d a pv)[a]!) (swp d a pv) (scanUp (fun x=>ltInt x (swp d a pv)[a]!) (swp d a pv) (b-1) (a+1)) (b-1) then
   (scanDown (fun x=>!ltInt x (swp d a pv)[a]!) (swp d a pv) (scanUp (fun x=>ltInt x (swp d a pv)[a]!) (swp d a pv) (b-1) (a+1)) (b-1),true,swp (swp d a pv) (scanDown (fun x=>!ltInt x (swp d a pv)[a]!) (swp d a pv) (scanUp (fun x=>ltInt x (swp d a pv)[a]!) (swp d a pv) (b-1) (a+1)) (b-1)) a)
   else ((partLoop ltInt a (scanUp (fun x=>ltInt x (swp d a pv)[a]!) (swp d a pv) (b-1) (a+1)+1) (scanDown (fun x=>!ltInt x (swp d a pv)[a]!) (swp d a pv) (scanUp (fun x=>ltInt x (swp d a pv)[a]!) (swp d a pv) (b-1) (a+1)) (b-1)-1) (swp (swp d a pv) (scanUp (fun x=>ltInt x (swp d a pv)[a]!) (swp d a pv) (b-1) (a+1)) (scanDown (fun x=>!ltInt x (swp d a pv)[a]!) (swp d a pv) (scanUp (fun x=>ltInt x (swp d a pv)[a]!) (swp d a pv) (b-1) (a+1)) (b-1)))).1,false,
    swp (partLoop ltInt a (scanUp (fun x=>ltInt x (swp d a pv)[a]!) (swp d a pv) (b-1) (a+1)+1) (scanDown (fun x=>!ltInt x (swp d a pv)[a]!) (swp d a pv) (scanUp (fun x=>ltInt x (swp d a pv)[a]!) (swp d a pv) (b-1) (a+1)) (b-1)-1) (swp (swp d a pv) (scanUp (fun x=>ltInt x (swp d a pv)[a]!) (swp d a pv) (b-1) (a+1)) (scanDown (fun x=>!ltInt x (swp d a pv)[a]!) (swp d a pv) (scanUp (fun x=>ltInt x (swp d a pv)[a]!) (swp d a pv) (b-1) (a+1)) (b-1)))).2
     (partLoop ltInt a (scanUp (fun x=>ltInt x (swp d a pv)[a]!) (swp d a pv) (b-1) (a+1)+1) (scanDown (fun x=>!ltInt x (swp d a pv)[a]!) (swp d a pv) (scanUp (fun x=>ltInt x (swp d a pv)[a]!) (swp d a pv) (b-1) (a+1)) (b-1)-1) (swp (swp d a pv) (scanUp (fun x=>ltInt x (swp d a pv)[a]!) (swp d a pv) (b-1) (a+1)) (scanDown (fun x=>!ltInt x (swp d a pv)[a]!) (swp d a pv) (scanUp (fun x=>ltInt x (swp d a pv)[a]!) (swp d a pv) (b-1) (a+1)) (b-1)))).1 a):=rfl
 generalize hd0:swp d a pv=d0 at *;obtain⟨K1,hK1⟩:∃K1:List Value→World→Prop,K1=fun s w'=>∃i2:Nat,s=[.int .i64 (i2:Int)]∧i2=scanUp (fun x=>ltInt x d0[a]!) d0 (b-1) (a+1)∧a+1≤i2∧i2≤n∧ArU z w' B p n c d0∧Fr (On p) w w':=⟨_,rfl⟩;refine Join.at K1 ?_ ?_
 ·exact up220 h1 a (a+1) (b-1) (by omega) (by omega) (by omega) hn fun i2 w' q1 q2 q3 q4 q5=>by rw [hK1];exact⟨i2,rfl,q1,q2,q3,q4,f1.trans q5⟩
 ·intro _ w2 hh;rw [hK1] at hh;obtain⟨i,hs0,hi,hi1,hi2,h2,f2⟩:=hh;subst hs0;simp only [UnC_cons,UnN_nil,AsI_int];rw [←hi] at hpart;obtain⟨K2,hK2⟩:∃K2:List Value→World→Prop,K2=fun s w'=>∃j2:Nat,s=[.int .i64 (j2:Int)]∧j2=scanDown (fun x=>!ltInt x d0[a]!) d0 i (b-1)∧j2≤b-1∧ArU z w' B p n c d0∧Fr (On p) w w':=⟨_,rfl⟩;refine Join.at K2 ?_ ?_
  ·exact k_k h2 a i (b-1) (by omega) (by omega) (by omega) hn fun j2 w' q1 q2 q3 q4=>by rw [hK2];exact⟨j2,rfl,q1,q2,q3,f2.trans q4⟩
  ·intro _ w3 hh;rw [hK2] at hh;obtain⟨j,hs0,hj,hj1,h3,f3⟩:=hh;subst hs0;simp only [UnC_cons,UnN_nil,AsI_int];rw [←hj] at hpart;refine C_ (fun hgt=>?_) (fun hle=>?_)
   ·rw [if_pos (by omega)] at hpart;rw [hpart];refine h3.rd rfl (by omega) ?_;refine h3.rd rfl (by omega) ?_;refine h3.drew.sw (i:=j) (j:=a) rfl rfl (by omega) (by omega) rfl rfl fun w4 h4 f4=>?_;exact⟨rfl,h4,f3.trans f4.of_drew⟩
   ·rw [if_neg (by omega)] at hpart;have e3:i64.wrap ((j:Int)-1)=((j-1:Nat):Int):=by rw [w64 (by omega) (by omega)];omega
    have e4:i64.wrap ((i:Int)+1)=((i+1:Nat):Int):=by rw [w64 (by omega) (by omega)];omega
    simp only [e3,e4];refine h3.rd rfl (by omega) ?_;refine h3.rd rfl (by omega) ?_;refine h3.drew.sw (i:=i) (j:=j) rfl rfl (by omega) (by omega) rfl rfl fun w4 h4 f4=>?_;obtain⟨r,hr⟩:∃r,r=partLoop ltInt a (i+1) (j-1) (swp d0 i j):=⟨_,rfl⟩;rw [←hr] at hpart;rw [hpart];refine Loop.by (fun s w'=>∃(i j:Nat) (e:Array Int),a<i∧i≤n∧j<n∧s=[.int .i64 (j:Int),.int .i64 (i:Int)]∧ArU z w' B p n c e∧Fr (On p) w w'∧partLoop ltInt a i j e=r) (fun s _=>match s with | [.int _ j,.int _ i]=>j.toNat+1-i.toNat|_=>0)
     ⟨i+1,j-1,_,by omega,by omega,by omega,rfl,h4,f3.trans f4.of_drew,hr.symm⟩ ?_
    rintro _ w5 ⟨i5,j5,e,k1,k2,k3,rfl,h5,f5,hres⟩;simp only [UnC_cons,UnN_nil,AsI_int];rw [partLoop_eq] at hres;obtain⟨K3,hK3⟩:∃K3:List Value→World→Prop,K3=fun s w'=>∃i2:Nat,s=[.int .i64 (i2:Int)]∧i2=scanUp (fun x=>ltInt x e[a]!) e j5 i5∧i5≤i2∧i2≤n∧ArU z w' B p n c e∧Fr (On p) w w':=⟨_,rfl⟩;refine Join.at K3 ?_ ?_
    ·exact up220 h5 a i5 j5 (by omega) (by omega) (by omega) hn fun i2 w' q1 q2 q3 q4 q5=>by rw [hK3];exact⟨i2,rfl,q1,q2,q3,q4,f5.trans q5⟩
    ·intro _ w6 hh;rw [hK3] at hh;obtain⟨i6,hs0,hi6,q1,q2,h6,f6⟩:=hh;subst hs0;simp only [UnC_cons,UnN_nil,AsI_int];rw [←hi6] at hres;obtain⟨K4,hK4⟩:∃K4:List Value→World→Prop,K4=fun s w'=>∃j2:Nat,s=[.int .i64 (j2:Int)]∧j2=scanDown (fun x=>!ltInt x e[a]!) e i6 j5∧j2≤j5∧ArU z w' B p n c e∧Fr (On p) w w':=⟨_,rfl⟩;refine Join.at K4 ?_ ?_
     ·exact k_k h6 a i6 j5 (by omega) (by omega) (by omega) hn fun j2 w' q1 q2 q3 q4=>by rw [hK4];exact⟨j2,rfl,q1,q2,q3,f6.trans q4⟩
     ·intro _ w7 hh;rw [hK4] at hh;obtain⟨j7,hs0,hj7,q3,h7,f7⟩:=hh;subst hs0;simp only [UnC_cons,UnN_nil,AsI_int];rw [←hj7] at hres;refine C_ (fun hgt7=>?_) (fun hle7=>?_)
      ·rw [if_pos (by omega)] at hres;rw [←hres];refine h7.rd rfl (by omega) ?_;refine h7.rd rfl (by omega) ?_;refine h7.drew.sw (i:=j7) (j:=a) rfl rfl (by omega) (by omega) rfl rfl fun w8 h8 f8=>?_;exact⟨rfl,h8,f7.trans f8.of_drew⟩
      ·rw [if_neg (by omega)] at hres;have e5:i64.wrap ((j7:Int)-1)=((j7-1:Nat):Int):=by rw [w64 (by omega) (by omega)];omega
       have e6:i64.wrap ((i6:Int)+1)=((i6+1:Nat):Int):=by rw [w64 (by omega) (by omega)];omega
       simp only [e5,e6];refine h7.rd rfl (by omega) ?_;refine h7.rd rfl (by omega) ?_;refine h7.drew.sw (i:=i6) (j:=j7) rfl rfl (by omega) (by omega) rfl rfl fun w8 h8 f8=>?_;exact⟨⟨i6+1,j7-1,_,by omega,by omega,by omega,rfl,h8,f7.trans f8.of_drew,hres⟩,(by first|omega|(simp only [Int.toNat_natCast];omega))⟩
end Go.Proofs.YtmgjicnipgdjhaaGreatDoor
set_option maxRecDepth 10000
namespace Go.Proofs.YtmgjicnipgdjhaaGreatDoor
open Go Go.Sh Go.Fr Go.Sort
open Go.IntKind (i64 u64 u32)
variable {z:Bool}
theorem f217 {w:World} {B n c:Nat} {p:Option Addr} {d:Array Int} (h:ArU z w B p n c d) (a b:Nat) (hab:a<b) (hb:b≤n) (hn:n≤1000000000000) :
  Ret prog (nz z 217 241) #[.slice p n c,.int .i64 (a:Int),.int .i64 (b:Int)] w fun v w'=>v=.bool (partialInsertionSort ltInt d a b).2∧ArU z w' B p n c (partialInsertionSort ltInt d a b).1∧Fr (On p) w w':=by
 refine F217z_of z _ _ _ _ _ _ _ ?_;unfold F217z;try dsimp only [Uib,Uiib,ub_,ui_]
 have e1:i64.wrap ((a:Int)+1)=((a+1:Nat):Int):=by rw [w64 (by omega) (by omega)];omega
 have eba:i64.wrap ((b:Int)-(a:Int))=((b-a:Nat):Int):=by rw [w64 (by omega) (by omega)];omega
 rw [e1];refine Loop.by (fun s w'=>∃(k i:Nat) (e:Array Int) (x:Bool),k≤5∧a+1≤i∧i≤b∧s=[.int .i64 ((5-k:Nat):Int),.int .i64 (i:Int),.bool x]∧ArU z w' B p n c e∧Fr (On p) w w'∧partialIns ltInt a b k i e=partialInsertionSort ltInt d a b) (fun s _=>match s with | [.int _ i,_,_]=>5-i.toNat|_=>0)
  ⟨5,a+1,d,false,by omega,by omega,by omega,rfl,h,Fr.refl _ _,rfl⟩ ?_
 rintro _ w1 ⟨k,i,e,x,hk,hi1,hi2,rfl,h1,f1,hres⟩;simp only [UnC_cons,UnN_nil,AsI_int,AsB_bool];refine C_ (fun hlt=>?_) (fun hge=>?_)
 ·obtain⟨m,rfl⟩:∃m,k=m+1:=⟨k-1,by omega⟩;rw [partialIns] at hres;refine Join.at (fun s w'=>∃(i':Nat) (e':Array Int) (y:Bool),s=[.int .i64 (i':Int),.bool y]∧a+1≤i'∧i'≤b∧ArU z w' B p n c e'∧Fr (On p) w w'∧partialIns ltInt a b m i' e'=partialInsertionSort ltInt d a b) ?_ ?_
  ·refine Join.at (fun s w'=>∃i2:Nat,s=[.int .i64 (i2:Int)]∧i2=scanSorted ltInt e b i∧a+1≤i2∧i2≤b∧ArU z w' B p n c e∧Fr (On p) w w') ?_ ?_
   ·refine Loop.by (fun s w'=>∃i2:Nat,s=[.int .i64 (i2:Int)]∧scanSorted ltInt e b i2=scanSorted ltInt e b i∧a+1≤i2∧i2≤b∧ArU z w' B p n c e∧Fr (On p) w w') (fun s _=>match s with | [.int _ i]=>b-i.toNat|_=>0)
     ⟨i,rfl,rfl,hi1,hi2,h1,f1⟩ ?_
    rintro _ w2 ⟨i2,rfl,hs,q1,q2,h2,f2⟩;simp only [UnC_cons,UnN_nil,AsI_int];rw [scanSorted] at hs;refine C_ (fun hl2=>?_) (fun hg2=>?_)
    ·have ei:i64.wrap ((i2:Int)-1)=((i2-1:Nat):Int):=by rw [w64 (by omega) (by omega)];omega
     simp only [ei];refine h2.rd rfl (by omega) ?_;refine h2.drew.rd rfl (by omega) ?_;refine Ret.use (R_j _ _) ?_;rintro _ _ ⟨rfl,hw⟩;obtain rfl:=hw.symm;rw [AsB_bool];refine BIf_not.2 (w_ (fun hl=>?_) (fun hl=>?_))
     ·rw [if_neg (by rw [hl];simp)] at hs;exact⟨i2,rfl,hs,q1,q2,h2.drew,f2.drew⟩
     ·rw [if_pos (by rw [hl,decide_eq_true (show i2<b by omega)];rfl)] at hs;rw [w64 (n:=(i2:Int)+1) (by omega) (by omega)];exact⟨⟨i2+1,rfl,hs,by omega,by omega,h2.drew,f2.drew⟩,(by first|omega|(simp only [Int.toNat_natCast];omega))⟩
    ·rw [if_neg (by rw [decide_eq_false (show ¬i2<b by omega)];simp)] at hs;exact⟨i2,rfl,hs,q1,q2,h2.drew,f2.drew⟩
   ·rintro _ w2 ⟨i2,rfl,hs,q1,q2,h2,f2⟩;simp only [UnC_cons,UnN_nil,AsI_int];rw [←hs] at hres;simp only at hres;refine O_ (fun hib=>?_) (fun hib=>?_)
    ·rw [if_pos (by omega)] at hres;rw [←hres];exact⟨rfl,h2,f2⟩
    ·rw [if_neg (by omega)] at hres;rw [eba];refine C_ (fun h50=>?_) (fun h50=>?_)
     ·rw [if_pos (by omega)] at hres;rw [←hres];exact⟨rfl,h2,f2⟩
     ·rw [if_neg (by omega)] at hres;have ei:i64.wrap ((i2:Int)-1)=((i2-1:Nat):Int):=by rw [w64 (by omega) (by omega)];omega
      have eia:i64.wrap ((i2:Int)-(a:Int))=((i2-a:Nat):Int):=by rw [w64 (by omega) (by omega)];omega
      have ebi:i64.wrap ((b:Int)-(i2:Int))=((b-i2:Nat):Int):=by rw [w64 (by omega) (by omega)];omega
      have ei1:i64.wrap ((i2:Int)+1)=((i2+1:Nat):Int):=by rw [w64 (by omega) (by omega)];omega
      simp only [ei,eia,ebi,ei1];refine h2.drew.rd rfl (by omega) ?_;refine h2.drew.rd rfl (by omega) ?_;refine h2.drew.sw (i:=i2) (j:=i2-1) rfl rfl (by omega) (by omega) rfl rfl fun w3 h3 f3=>?_;have f03:=f2.trans f3.of_drew;obtain⟨d1,hd1⟩:∃d1,d1=swp e i2 (i2-1):=⟨_,rfl⟩;rw [←hd1] at h3 hres;obtain⟨d2,hd2⟩:∃d2,d2=if i2-a≥2 then shiftDown ltInt (i2-1) d1 else d1:=⟨_,rfl⟩
      rw [←hd2] at hres;obtain⟨d3,hd3⟩:∃d3,d3=if b-i2≥2 then shiftUp ltInt b (i2+1) d2 else d2:=⟨_,rfl⟩
      rw [←hd3] at hres;refine Join.at (fun s w'=>s=[]∧ArU z w' B p n c d2∧Fr (On p) w w') ?_ ?_
      ·refine C_ (fun g2=>?_) (fun g2=>?_)
       ·rw [if_pos (by omega)] at hd2;refine Loop.by (fun s w'=>∃(j:Nat) (e':Array Int),j<n∧s=[.int .i64 (j:Int)]∧ArU z w' B p n c e'∧Fr (On p) w w'∧shiftDown ltInt j e'=d2) (fun s _=>match s with | [.int _ i]=>i.toNat|_=>0)
         ⟨i2-1,d1,by omega,rfl,h3,f03,hd2.symm⟩ ?_
        rintro _ w4 ⟨j,e',hj,rfl,h4,f4,hr4⟩;simp only [UnC_cons,UnN_nil,AsI_int];refine C_ (fun hj1=>?_) (fun hj0=>?_)
        ·obtain⟨j',rfl⟩:∃j',j=j'+1:=⟨j-1,by omega⟩;have ej:i64.wrap (((j'+1:Nat):Int)-1)=(j':Int):=by rw [w64 (by omega) (by omega)];omega
         simp only [ej];rw [shiftDown] at hr4;refine h4.rd rfl (by omega) ?_;refine h4.drew.rd rfl (by omega) ?_;refine Ret.use (R_j _ _) ?_;rintro _ _ ⟨rfl,hw⟩;obtain rfl:=hw.symm;rw [AsB_bool];refine BIf_not.2 (w_ (fun hl=>?_) (fun hl=>?_))
         ·rw [if_neg (by rw [hl];simp)] at hr4;refine h4.drew.drew.rd rfl (by omega) ?_;refine h4.drew.drew.rd rfl (by omega) ?_;refine h4.drew.drew.sw (i:=j'+1) (j:=j') rfl rfl (by omega) (by omega) rfl rfl fun w5 h5 f5=>?_;exact⟨⟨j',_,by omega,rfl,h5,f4.trans f5.of_drew.of_drew,hr4⟩,(by first|omega|(simp only [Int.toNat_natCast];omega))⟩
         ·rw [if_pos (by rw [hl];rfl)] at hr4;exact⟨by trivial,by rw [←hr4];exact h4.drew,f4.drew⟩
        ·obtain rfl:j=0:=by omega
         rw [shiftDown] at hr4;exact⟨by trivial,by rw [←hr4];exact h4,f4⟩
       ·rw [if_neg (by omega)] at hd2;exact⟨rfl,by rw [hd2];exact h3,f03⟩
      ·rintro _ w4 ⟨rfl,h4,f4⟩;rw [UnN_nil];refine C_ (fun g2=>?_) (fun g2=>?_)
       ·rw [if_pos (by omega)] at hd3;refine Loop.by (fun s w'=>∃(j:Nat) (e':Array Int),1≤j∧j≤n∧s=[.int .i64 (j:Int)]∧ArU z w' B p n c e'∧Fr (On p) w w'∧shiftUp ltInt b j e'=d3) (fun s _=>match s with | [.int _ i]=>n-i.toNat|_=>0)
         ⟨i2+1,d2,by omega,by omega,rfl,h4,f4,hd3.symm⟩ ?_
        rintro _ w5 ⟨j,e',hj1,hj,rfl,h5,f5,hr5⟩;simp only [UnC_cons,UnN_nil,AsI_int];rw [shiftUp] at hr5;refine C_ (fun hjb=>?_) (fun hjb=>?_)
        ·rw [if_pos (by omega)] at hr5;have ej:i64.wrap ((j:Int)-1)=((j-1:Nat):Int):=by rw [w64 (by omega) (by omega)];omega
         have ej1:i64.wrap ((j:Int)+1)=((j+1:Nat):Int):=by rw [w64 (by omega) (by omega)];omega
         simp only [ej,ej1];refine h5.rd rfl (by omega) ?_;refine h5.drew.rd rfl (by omega) ?_;refine Ret.use (R_j _ _) ?_;rintro _ _ ⟨rfl,hw⟩;obtain rfl:=hw.symm;rw [AsB_bool];refine BIf_not.2 (w_ (fun hl=>?_) (fun hl=>?_))
         ·rw [if_neg (by rw [hl];simp)] at hr5;refine h5.drew.drew.rd rfl (by omega) ?_;refine h5.drew.drew.rd rfl (by omega) ?_;refine h5.drew.drew.sw (i:=j) (j:=j-1) rfl rfl (by omega) (by omega) rfl rfl fun w6 h6 f6=>?_;exact⟨⟨j+1,_,by omega,by omega,rfl,h6,f5.trans f6.of_drew.of_drew,hr5⟩,(by first|omega|(simp only [Int.toNat_natCast];omega))⟩
         ·rw [if_pos (by rw [hl];rfl)] at hr5;exact⟨i2,_,_,rfl,q1,q2,h5.drew,f5.drew,by rw [hr5];exact hres⟩
        ·rw [if_neg (by omega)] at hr5;exact⟨i2,_,_,rfl,q1,q2,h5,f5,by rw [hr5];exact hres⟩
       ·rw [if_neg (by omega)] at hd3;exact⟨i2,_,_,rfl,q1,q2,h4,f4,by rw [←hd3];exact hres⟩
  ·rintro _ w2 ⟨i',e',y,rfl,q1,q2,h2,f2,hr2⟩;simp only [UnC_cons,UnN_nil,AsI_int,AsB_bool];rw [w64 (n:=((5-(m+1):Nat):Int)+1) (by omega) (by omega),show ((5-(m+1):Nat):Int)+1=((5-m:Nat):Int) by omega];exact⟨⟨m,i',e',y,by omega,q1,q2,rfl,h2,f2,hr2⟩,(by first|omega|(simp only [Int.toNat_natCast];omega))⟩
 ·obtain rfl:k=0:=by omega
  rw [partialIns] at hres;rw [←hres];exact⟨rfl,h1,f1⟩
end Go.Proofs.YtmgjicnipgdjhaaGreatDoor
set_option maxRecDepth 10000
namespace Go.Proofs.YtmgjicnipgdjhaaGreatDoor
open Go Go.Sh Go.Fr Go.Sort
open Go.IntKind (i64 u64 u32)
variable {z:Bool}
theorem B_k (d:Array Int) (a b:Nat) (hab:a<b):a≤(V_g d a b).1∧(V_g d a b).1<b:=by
 have:=choosePivot_holds ltInt d a b hab;rw [q_k] at this;exact this
theorem f162:∀(N:Nat) {w:World} {B n c:Nat} {p:Option Addr} {d:Array Int} (h:ArU z w B p n c d) (a b limit:Nat) (hab:a≤b) (hb:b≤n) (hn:n≤1000000000000) (hlim:limit≤1000000000000) (hN:b-a<N) (hB:Below ltInt a b d),
  Ret prog (nz z 162 176) #[.slice p n c,.int .i64 (a:Int),.int .i64 (b:Int),.int .i64 (limit:Int)] w fun v w'=>v=.tuple #[]∧∃R,ArU z w' B p n c R∧PermIn a b d R∧SortedIn ltInt a b R∧Fr (On p) w w'
 | 0,_,_,_,_,_,_,_,_,_,_,_,_,_,_,hN,_=>absurd hN (by omega)
 | N+1,w,B,n,c,p,d,h,a,b,limit,hab,hb,hn,hlim,hN,hB=>by
  have hds:=h.size;refine F162z_of z _ _ _ _ _ _ _ _ ?_;unfold F162z;try dsimp only [p_f,Uib,Uii,ub_,ui_]
  refine Loop.by (fun s w'=>∃(wp wb:Bool) (a' b' lim:Nat) (e:Array Int),a'≤b'∧b'≤n∧b'-a'≤b-a∧lim≤1000000000000∧s=[.bool wp,.bool wb,.int .i64 (a':Int),.int .i64 (b':Int),.int .i64 (lim:Int)]∧ArU z w' B p n c e∧Fr (On p) w w'∧Below ltInt a' b' e ∧
    ∀R,PermIn a' b' e R→SortedIn ltInt a' b' R→PermIn a b d R∧SortedIn ltInt a b R) (fun s _=>match s with | [_,_,.int _ a,.int _ b,_]=>b.toNat-a.toNat|_=>0)
   ⟨true,true,a,b,limit,d,hab,hb,Nat.le_refl _,hlim,rfl,h,Fr.refl _ _,hB,fun R h1 h2=>⟨h1,h2⟩⟩ ?_
  rintro _ w1 ⟨wp,wb,a',b',lim,e,hab',hb',hsz,hlim',rfl,h1,f1,hB1,hfin⟩;simp only [UnC_cons,UnN_nil,AsI_int,AsB_bool];have hes:=h1.size;have eba:i64.wrap ((b':Int)-(a':Int))=((b'-a':Nat):Int):=by rw [w64 (by omega) (by omega)];omega
  simp only [eba];refine C_ (fun h12=>?_) (fun h12=>?_)
  ·refine Ret.use (f212 h1 a' b' hab' hb' hn) ?_;rintro _ w2 ⟨rfl,h2,f2⟩;simp only [F_,UnC_cons,AsI_int,AsB_bool,UnN_nil];obtain⟨q1,q2⟩:=insertionSort_holds swo_ltInt e a' b' hab' (by omega);obtain⟨r1,r2⟩:=hfin _ q1 q2;exact⟨by trivial,_,h2,r1,r2,f1.trans f2⟩
  ·have hlt:a'<b':=by omega
   refine O_ (fun h0=>?_) (fun h0=>?_)
   ·refine Ret.use (f213 h1 a' b' hlt hb' hn) ?_;rintro _ w2 ⟨rfl,h2,f2⟩;simp only [F_,UnC_cons,AsI_int,AsB_bool,UnN_nil];obtain⟨q1,q2⟩:=heapSort_holds swo_ltInt e a' b' hab' (by omega);obtain⟨r1,r2⟩:=hfin _ q1 q2;exact⟨by trivial,_,h2,r1,r2,f1.trans f2⟩
   ·refine Join.at (fun s w'=>∃(l':Nat) (e1:Array Int),s=[.int .i64 (l':Int)]∧l'≤1000000000000∧PermIn a' b' e e1∧ArU z w' B p n c e1∧Fr (On p) w w') ?_ ?_
    ·refine BIf_not.2 (w_ (fun hwb=>?_) (fun hwb=>?_))
     ·exact⟨lim,e,rfl,hlim',permIn_refl e a' b',h1,f1⟩
     ·refine Ret.use (f214 h1 a' b' hab' hb' hn) ?_;rintro _ w2 ⟨rfl,h2,f2⟩;simp only [F_,UnC_cons,AsI_int,AsB_bool,UnN_nil];rw [w64 (n:=(lim:Int)-1) (by omega) (by omega)];exact⟨lim-1,_,by congr 2;omega,by omega,breakPatterns_holds e a' b' hab' (by omega),h2,f1.trans f2⟩
    ·rintro _ w2 ⟨l',e1,rfl,hl',hp1,h2,f2⟩;simp only [UnC_cons,UnN_nil,AsI_int];obtain⟨c1,c2⟩:=B_k e1 a' b' hlt;refine Ret.use (f215 h2 a' b' hlt hb' hn) ?_;rintro _ w3 ⟨rfl,f3⟩;simp only [F_,UnC_cons,AsI_int,AsB_bool,UnN_nil];have h3:=h2.fr f3 (fun _ _ h=>h);have f03:=f2.trans (f3.mono fun _ _ h=>h.elim);have he1:=h2.size;refine Join.at (fun s w'=>∃(x:Int) (pv:Nat) (e2:Array Int),s=[.int .i64 x,.int .i64 (pv:Int)]∧a'≤pv∧pv<b'∧PermIn a' b' e e2∧ArU z w' B p n c e2∧Fr (On p) w w') ?_ ?_
     ·refine O_ (fun h2'=>?_) (fun h2'=>?_)
      ·refine Ret.use (f216 h3 a' b' hlt hb' hn) ?_;rintro _ w4 ⟨rfl,h4,f4⟩;simp only [F_,UnC_cons,AsI_int,AsB_bool,UnN_nil];have g1:i64.wrap ((b':Int)-1)=((b'-1:Nat):Int):=by rw [w64 (by omega) (by omega)];omega
       have g2:i64.wrap ((((V_g e1 a' b').1:Nat):Int)-(a':Int))=(((V_g e1 a' b').1-a':Nat):Int):=by rw [w64 (by omega) (by omega)];omega
       have g3:i64.wrap (((b'-1:Nat):Int)-(((V_g e1 a' b').1-a':Nat):Int))=((b'-1-((V_g e1 a' b').1-a'):Nat):Int):=by rw [w64 (by omega) (by omega)];omega
       rw [g1,g2,g3];exact⟨1,_,_,rfl,by omega,by omega,permIn_trans _ _ _ _ _ hp1 (reverseRange_holds e1 a' b' hab' (by omega)),h4,f03.trans f4⟩
      ·exact⟨_,_,e1,rfl,c1,c2,hp1,h3,f03⟩
     ·rintro _ w4 ⟨x,pv,e2,rfl,v1,v2,hp2,h4,f4⟩;simp only [UnC_cons,UnN_nil,AsI_int];have he2:=h4.size;have hB2:Below ltInt a' b' e2:=hB1.perm (by omega) hp2;refine Join.at (fun s w'=>s=[]∧∃e3:Array Int,PermIn a' b' e e3∧ArU z w' B p n c e3∧Fr (On p) w w') ?_ ?_
      ·have out:∀W,ArU z W B p n c e2→Fr (On p) w W→(([]:List Value)=[]∧∃e3:Array Int,PermIn a' b' e e3∧ArU z W B p n c e3∧Fr (On p) w W):=fun W q1 q2=>⟨rfl,e2,hp2,q1,q2⟩;refine w_ (fun _=>?_) (fun _=>out _ h4 f4);refine w_ (fun _=>?_) (fun _=>out _ h4 f4);refine O_ (fun _=>?_) (fun _=>out _ h4 f4);refine Ret.use (f217 h4 a' b' hlt hb' hn) ?_;rintro _ w5 ⟨rfl,h5,f5⟩;rw [AsB_bool];obtain⟨q1,q2⟩:=partialInsertionSort_holds swo_ltInt e2 a' b' hlt (by omega) hB2;have q3:=permIn_trans _ _ _ _ _ hp2 q1;refine w_ (fun hfl=>?_) (fun hfl=>?_)
       ·obtain⟨r1,r2⟩:=hfin _ q3 (q2 hfl);exact⟨by trivial,_,h5,r1,r2,f4.trans f5⟩
       ·exact⟨rfl,_,q3,h5,f4.trans f5⟩
      ·rintro _ w5 ⟨rfl,e3,hp3,h5,f5⟩;rw [UnN_nil];have he3:=h5.size;have hb3:b'≤e3.size:=by omega
       have hB3:Below ltInt a' b' e3:=hB1.perm (by omega) hp3;refine Join.at (fun s w'=>s=[.int .i64 (a':Int)]∧ArU z w' B p n c e3∧Fr (On p) w w') ?_ ?_
       ·refine C_ (fun ha0=>?_) (fun ha0=>?_)
        ·have ea:i64.wrap ((a':Int)-1)=((a'-1:Nat):Int):=by rw [w64 (by omega) (by omega)];omega
         simp only [ea];have hq1:a'-1<n:=by omega
         have hq2:pv<n:=by omega
         refine h5.drew.rd (i:=a'-1) rfl hq1 ?_;refine h5.drew.rd (i:=pv) rfl hq2 ?_;refine Ret.use (R_j _ _) ?_;rintro _ _ ⟨rfl,hw⟩;obtain rfl:=hw.symm;rw [AsB_bool];refine BIf_not.2 (w_ (fun hl=>?_) (fun hl=>?_))
         ·exact⟨by trivial,h5.drew,f5.drew⟩
         ·obtain⟨r1,r2,r3,r4,r5⟩:=round_eq swo_ltInt (partitionEqual_holds ltInt) (show 0<a' by omega) v1 v2 hb3 hB3 hl (mid:=(partitionEqual ltInt e3 a' b' pv).1) (d4:=(partitionEqual ltInt e3 a' b' pv).2) rfl;refine Ret.use (f219 h5.drew a' b' pv v1 v2 hb' hn) ?_;rintro _ w6 ⟨rfl,h6,f6⟩;rw [AsI_int];exact⟨⟨wp,wb,_,b',l',_,r2,hb',by omega,hl',rfl,h6,f5.trans f6.of_drew,r4,fun R hR hs=>by
           obtain⟨t1,t2⟩:=r5 R hR hs;exact hfin R (permIn_trans _ _ _ _ _ hp3 t1) t2⟩,(by first|omega|(simp only [Int.toNat_natCast];omega))⟩
        ·exact⟨rfl,h5.drew,f5.drew⟩
       ·rintro _ w6 ⟨rfl,h6,f6⟩;simp only [UnC_cons,UnN_nil,AsI_int];obtain⟨r1,r2,r3,r4,r5,r6,r7⟩:=round_part swo_ltInt (partition_holds ltInt) v1 v2 (by omega) hB3 (mid:=(partition ltInt e3 a' b' pv).1) (ap:=(partition ltInt e3 a' b' pv).2.1) (d4:=(partition ltInt e3 a' b' pv).2.2) rfl;refine Ret.use (f220 h6 a' b' pv v1 v2 hb' hn) ?_;rintro _ w7 ⟨rfl,h7,f7⟩;simp only [F_,UnC_cons,AsI_int,AsB_bool,UnN_nil];generalize hmid:(partition ltInt e3 a' b' pv).1=mid at *;generalize hd4:(partition ltInt e3 a' b' pv).2.2=d4 at *;have g1:i64.wrap ((mid:Int)-(a':Int))=((mid-a':Nat):Int):=by rw [w64 (by omega) (by omega)];omega
        have g2:i64.wrap ((b':Int)-(mid:Int))=((b'-mid:Nat):Int):=by rw [w64 (by omega) (by omega)];omega
        have g3:i64.wrap ((mid:Int)+1)=((mid+1:Nat):Int):=by rw [w64 (by omega) (by omega)];omega
        simp only [g1,g2,g3];have f07:=f6.trans f7;refine C_ (fun hsm=>?_) (fun hsm=>?_)
        ·refine Ret.use (f162 N h7 a' mid l' r1 (by omega) hn hl' (by omega) r4) ?_;rintro _ w8 ⟨rfl,L,h8,t1,t2,f8⟩;simp only [F_,UnC_cons,AsI_int,AsB_bool,UnN_nil];obtain⟨u1,u2⟩:=r6 L t1 t2;exact⟨⟨_,_,mid+1,b',l',L,by omega,hb',by omega,hl',rfl,h8,f07.trans f8,u1,fun R hR hs=>by
          obtain⟨x1,x2⟩:=u2 R hR hs;exact hfin R (permIn_trans _ _ _ _ _ hp3 x1) x2⟩,(by first|omega|(simp only [Int.toNat_natCast];omega))⟩
        ·refine Ret.use (f162 N h7 (mid+1) b' l' (by omega) hb' hn hl' (by omega) r5) ?_;rintro _ w8 ⟨rfl,L,h8,t1,t2,f8⟩;simp only [F_,UnC_cons,AsI_int,AsB_bool,UnN_nil];obtain⟨u1,u2⟩:=r7 L t1 t2;exact⟨⟨_,_,a',mid,l',L,r1,by omega,by omega,hl',rfl,h8,f07.trans f8,u1,fun R hR hs=>by
          obtain⟨x1,x2⟩:=u2 R hR hs;exact hfin R (permIn_trans _ _ _ _ _ hp3 x1) x2⟩,(by first|omega|(simp only [Int.toNat_natCast];omega))⟩
end Go.Proofs.YtmgjicnipgdjhaaGreatDoor
set_option maxRecDepth 10000
namespace Go.Proofs.YtmgjicnipgdjhaaGreatDoor
open Go Go.Sh Go.Fr Go.Sort
theorem f97 {w:World} {B c:Nat} {p:Option Addr} {l:List Int} (h:Sl w B 30 1 p l.length c (l.map (Value.int .u64))) (hn:l.length≤1000000000000) :
  Ret prog 97 #[.slice p l.length c] w fun v w'=>v=.tuple #[]∧∃l':List Int,l'.Perm l∧l'.Pairwise (·≤·)∧Sl w' B 30 1 p l.length c (l'.map (Value.int .u64))∧Fr (On p) w w':=by
 refine F97_of ?_;unfold F97;rw [b_a (n:=(l.length:Int)) (by omega) (by omega)];refine Ret.use (f163x l.length (by omega)) ?_;rintro _ _ ⟨rfl,hw⟩;obtain rfl:=hw.symm;rw [AsI_int];have hb:=K_c (x:=l.length) (by omega);have hA:ArU false w B p l.length c l.toArray:=⟨by simp,by show Sl w B 30 1 p l.length c (l.toArray.toList.map (Value.int .u64));simpa using h⟩;refine Ret.use (f162 (l.length+1) hA 0 l.length (bitsLen l.length) (by omega) (Nat.le_refl _) hn (by omega) (by omega) (.inl rfl)) ?_;rintro _ w1 ⟨rfl,R,h1,hp,hs,f1⟩;simp only [F_,UnN_nil];have hsz:=h1.size;refine⟨by trivial,R.toList,?_,?_,h1.sl,f1⟩
 ·have h3:=hp.2.2;have e1:R.extract 0 l.length=R:=by rw [←hsz];simp
  have e2:l.toArray.extract 0 l.length=l.toArray:=by
   have:l.length=l.toArray.size:=by simp
   rw [this];simp
  rw [e1,e2] at h3;exact h3
 ·rw [List.pairwise_iff_getElem];intro i j hi hj hij;have hi':i<R.size:=by simpa using hi
  have hj':j<R.size:=by simpa using hj
  have:=hs i j (by omega) hij (by omega);rw [getElem!_pos R i hi',getElem!_pos R j hj'] at this;unfold ltInt at this;have h9:=of_decide_eq_false this;rw [Array.getElem_toList,Array.getElem_toList];omega
theorem f48 {w:World} {ma rm:Nat} {L:List (Int×Value)} (h:Has w ma [.map (some rm)]) (hm:MapIs w rm .u64 L) (hl:L.length≤1000000000) :
  Ret prog 48 #[.func (.func 98) #[] #[.pointer (some ⟨ma,0,none⟩)]] w fun v w'=>∃p c acc,v=.slice p L.length c∧List.Perm acc (L.map (·.1))∧acc.Pairwise (·≤·)∧Sl w' w.heap.size 30 1 p L.length c (acc.map (Value.int .u64))∧Fr0 w w':=by
 refine F48_of ?_;unfold F48;refine Ret.use (f96 h hm hl) ?_;rintro _ w1 ⟨p,c,acc,rfl,hp,h1,f1⟩;rw [AsSl_slice];have hal:acc.length=L.length:=by have:=hp.length_eq;simpa using this
 have h97:=f97 (w:=w1) (B:=w.heap.size) (c:=c) (p:=p) (l:=acc) (by rw [hal];exact h1) (by omega);rw [hal] at h97;refine Ret.use h97 ?_;rintro _ w2 ⟨rfl,l',h2,h3,h4,f2⟩;simp only [F_,UnN_nil];exact⟨p,c,l',rfl,h2.trans hp,h3,h4,f1.newS f2 fun b hb=>(h1.lt b hb).1⟩
theorem f111 {w:World} {B c:Nat} {p:Option Addr} {l:List Int} (h:Sl w B 35 1 p l.length c (l.map (Value.int .u32))) (hn:l.length≤1000000000000) :
  Ret prog 111 #[.slice p l.length c] w fun v w'=>v=.tuple #[]∧∃l':List Int,l'.Perm l∧l'.Pairwise (·≤·)∧Sl w' B 35 1 p l.length c (l'.map (Value.int .u32))∧Fr (On p) w w':=by
 refine F111_of ?_;unfold F111;rw [b_a (n:=(l.length:Int)) (by omega) (by omega)];refine Ret.use (f163x l.length (by omega)) ?_;rintro _ _ ⟨rfl,hw⟩;obtain rfl:=hw.symm;rw [AsI_int];have hb:=K_c (x:=l.length) (by omega);have hA:ArU true w B p l.length c l.toArray:=⟨by simp,by show Sl w B 35 1 p l.length c (l.toArray.toList.map (Value.int .u32));simpa using h⟩;refine Ret.use (f162 (l.length+1) hA 0 l.length (bitsLen l.length) (by omega) (Nat.le_refl _) hn (by omega) (by omega) (.inl rfl)) ?_;rintro _ w1 ⟨rfl,R,h1,hp,hs,f1⟩;simp only [F_,UnN_nil];have hsz:=h1.size;refine⟨by trivial,R.toList,?_,?_,h1.sl,f1⟩
 ·have h3:=hp.2.2;have e1:R.extract 0 l.length=R:=by rw [←hsz];simp
  have e2:l.toArray.extract 0 l.length=l.toArray:=by
   have:l.length=l.toArray.size:=by simp
   rw [this];simp
  rw [e1,e2] at h3;exact h3
 ·rw [List.pairwise_iff_getElem];intro i j hi hj hij;have hi':i<R.size:=by simpa using hi
  have hj':j<R.size:=by simpa using hj
  have:=hs i j (by omega) hij (by omega);rw [getElem!_pos R i hi',getElem!_pos R j hj'] at this;unfold ltInt at this;have h9:=of_decide_eq_false this;rw [Array.getElem_toList,Array.getElem_toList];omega
theorem f56 {w:World} {ma rm:Nat} {L:List (Int×Value)} (h:Has w ma [.map (some rm)]) (hm:MapIs w rm .u32 L) (hl:L.length≤1000000000) :
  Ret prog 56 #[.func (.func 112) #[] #[.pointer (some ⟨ma,0,none⟩)]] w fun v w'=>∃p c acc,v=.slice p L.length c∧List.Perm acc (L.map (·.1))∧acc.Pairwise (·≤·)∧Sl w' w.heap.size 35 1 p L.length c (acc.map (Value.int .u32))∧Fr0 w w':=by
 refine F56_of ?_;unfold F56;refine Ret.use (f110 h hm hl) ?_;rintro _ w1 ⟨p,c,acc,rfl,hp,h1,f1⟩;rw [AsSl_slice];have hal:acc.length=L.length:=by have:=hp.length_eq;simpa using this
 have h97:=f111 (w:=w1) (B:=w.heap.size) (c:=c) (p:=p) (l:=acc) (by rw [hal];exact h1) (by omega);rw [hal] at h97;refine Ret.use h97 ?_;rintro _ w2 ⟨rfl,l',h2,h3,h4,f2⟩;simp only [F_,UnN_nil];exact⟨p,c,l',rfl,h2.trans hp,h3,h4,f1.newS f2 fun b hb=>(h1.lt b hb).1⟩
end Go.Proofs.YtmgjicnipgdjhaaGreatDoor
set_option maxRecDepth 10000
namespace Go.Proofs.YtmgjicnipgdjhaaGreatDoor
open Go Go.Sh Go.Fr
theorem f12 {w:World} {ro:Ro} {J:Ids} {fr n:Nat} {S:St} (hS:Sys w ro J fr n S) (hl:S.roots.length≤1000000000) :
  Ret prog 12 #[.pointer (some ⟨J.e,0,none⟩)] w fun v w'=>∃p c acc,v=.slice p S.roots.length c∧List.Perm acc (S.roots.map fun x=>((x.1:Nat):Int))∧acc.Pairwise (·≤·)∧Sl w' w.heap.size 30 1 p S.roots.length c (acc.map (Value.int .u64))∧Fr0 w w':=by
 refine F12_of ?_;unfold F12;try dsimp only [lm_]
 have hst:=hS.ed.st
 try simp only [hst.ld_iff,sb_,Nat.reduceAdd]
 refine Ret.use (f49 _) ?_;rintro _ w1 ⟨rfl,n1,f1,s1⟩;have hm:=hS.ed.rm.fr f1 (fun h=>h);have hlen:(F_a S.roots).length=S.roots.length:=by simp [F_a]
 have h48:=f48 n1 hm (by rw [hlen];exact hl);rw [hlen] at h48;refine Ret.use h48 ?_;rintro _ w2 ⟨p,c,acc,rfl,hp,hr,h2,f2⟩;rw [AsSl_slice];refine⟨p,c,acc,rfl,?_,hr,h2.mono (by omega),f1.trans f2⟩;have:(F_a S.roots).map (·.1)=S.roots.map fun x=>((x.1:Nat):Int):=by unfold F_a;rw [List.map_map];rfl
 rw [←this];exact hp
open Go.IntKind (i64 u64 u32)
def a_a (a:Nat) (R:RootS):List Tr→Mst→Mst
 | [],M=>M
 | t :: r,M=>a_a a R r (Y_g a R M t)
theorem w_d (a:Nat) (R:RootS):∀(l:List Tr) (M:Mst) (t:Tr),a_a a R (l++[t]) M=Y_g a R (a_a a R l M) t
 | [],M,t=>rfl
 | x :: r,M,t=>w_d a R r _ t
inductive ShutRun (a:Nat) (x:Xs):List Nat→Xs→Prop
 | nil:ShutRun a x [] x
 | snoc {ms:List Nat} {y:Xs} {m T e:Nat} {p':Pool} {l':List Qr} (h:ShutRun a x ms y) (hT:tab? y.R.tabs m=some T) (hd:SDrop y.p y.l (T:Int) e p' l') :
   ShutRun a x (ms++[m]) ⟨P_f y.R m,e_a y.M (a+4*m) 0 1,p',l'⟩
def j_i (S:St) (a:Nat) (asid:Int) (e:Nat) (S':St):Prop :=
 (e≠0∧ChoErr S a asid 0 0 true [] e∧S'=S) ∨
 (e=0∧∃R,root? S.roots a=some R∧¬g_c asid 0 0 true∧((R.blocks=[]∧S'=S) ∨
  (R.blocks≠[]∧∃(ms:List Nat) (y:Xs),ms.Perm (R.tabs.map (·.1))∧ms.Pairwise (·≤·)∧ShutRun a ⟨R,C_h (a_a a R R.blocks S.M) 3 (u32.wrap asid),S.p,S.l⟩ ms y ∧
   S'=⟨y.M,y.p,y.l,G_a S.roots a { y.R with blocks:=[] }⟩)))
structure ZeroPre (fr a:Nat) (R:RootS) (t:Tr):Prop where
 reps:reps t.size=1∨reps t.size=16
 wf:t.wf
 tl:∀v,tab? R.tabs t.mib=some v→v<2^30
 place:∀i,i<Go.Proofs.YtmgjicnipgdjhaaGreatDoor.reps t.size→wErr fr (placeOf R a t+4*i)=0
theorem ShutRun.ids {a:Nat} {x y:Xs} {ms:List Nat} (h:ShutRun a x ms y):y.R.rb=x.R.rb∧y.R.tm=x.R.tm∧y.R.blocks=x.R.blocks:=by
 induction h with
 | nil=>exact⟨rfl,rfl,rfl⟩
 | snoc _ _ _ ih=>exact ih
theorem f19 {w:World} {ro:Ro} {J:Ids} {fr n:Nat} {S:St} (hS:Sys w ro J fr n S) (hI:Std n S) (hfr:fr≤65536) (a:Nat) (ha:a<2^40) (hso:∀R,root? S.roots a=some R→R.blocks.Pairwise fun a b=>a.va<b.va) (asid:Int)
  (hz:∀R,root? S.roots a=some R→∀t∈R.blocks,ZeroPre fr a R t) (htl:∀R,root? S.roots a=some R→R.tabs.length≤1000000∧∀x∈R.tabs,x.1<4096)
  (hsh:∀R,root? S.roots a=some R→∀(ms:List Nat) (m:Nat) (y:Xs),(∃rest,(ms++m :: rest).Perm (R.tabs.map (·.1)))→ShutRun a ⟨R,C_h (a_a a R R.blocks S.M) 3 (u32.wrap asid),S.p,S.l⟩ ms y→∃T,tab? y.R.tabs m=some T∧T<2^30∧wErr fr (a+4*m)=0) :
  Ret prog 19 #[.pointer (some ⟨J.e,0,none⟩),.int .u64 (a:Int),.int .i64 asid] w fun v w'=>∃(e:Nat) (S':St) (ro':Ro),v=.int .i64 (e:Int)∧j_i S a asid e S'∧RExt w ro ro'∧Sys w' ro' J fr n S'∧FrR ro w w':=by
 refine F19_of ?_;unfold F19;try dsimp only [B_,S_8,Upsi,lb_,li_,lm_,ls_,ui_,up_,us_]
 refine Ret.use (f53 (vas:=[]) (q:=none) (c:=0) hS hI a hso asid 0 0 true false (fun i v h=>by simp at h) (by simp) (by simp)) ?_;rintro _ w2 ⟨f2,⟨e,rfl,he⟩|⟨R,out,p,c',rfl,hok,hsl2⟩⟩
 ·simp only [sb_,Nat.reduceAdd];refine b_ (fun _=>?_) (fun h=>absurd (by omega) he.ne);exact⟨e,S,ro,rfl,.inl ⟨he.ne,he,rfl⟩,RExt.refl _ _,hS.fr0 f2,f2.mono fun _ _ h=>h.elim⟩
 simp only [sb_,Nat.reduceAdd];refine b_ (fun h=>absurd rfl h) (fun _=>?_);have hm:=U_ hok.1;have hS2:=hS.fr0 f2;obtain⟨pb,cb,h1,h2,h3⟩:=(hS2.ed.root _ hm).st
 try simp only [h1.ld_iff,sb_,Nat.reduceAdd]
 refine O_ (fun h0=>?_) (fun h0=>?_)
 ·have hnil:R.blocks=[]:=List.length_eq_zero_iff.1 (by show R.blocks.length=0;omega);exact⟨0,S,ro,rfl,.inr ⟨rfl,R,hok.1,hok.2.1,.inl ⟨hnil,rfl⟩⟩,RExt.refl _ _,hS2,f2.mono fun _ _ h=>h.elim⟩
 ·have hne:R.blocks≠[]:=fun h=>h0 (by rw [h];rfl);have hlen:R.blocks.length≤1000000000000:=Nat.le_trans (hI.len _ hm) (by decide);refine Loop.by (fun s w'=>∃(i:Nat) (ro':Ro),i≤R.blocks.length∧s=[.int .i64 (i:Int)]∧RExt w2 ro ro'∧Sys w' ro' J fr n { S with M:=a_a a R (R.blocks.take i) S.M }∧FrK D_c ro w2 w')
   (fun s _=>match s with | [.int _ i]=>R.blocks.length-i.toNat|_=>0) ⟨0,ro,by omega,rfl,RExt.refl _ _,hS2,Fr.refl _ _⟩ ?_
  rintro _ w3 ⟨i,ro3,hi,rfl,E3,hS3,F3⟩;simp only [UnC_cons,UnN_nil,AsI_int];refine C_ (fun hlt=>?_) (fun hge=>?_)
  ·obtain⟨t,ht⟩:∃t,R.blocks[i]?=some t:=⟨R.blocks[i]'(by omega),List.getElem?_eq_getElem _⟩;have P:=hz R hok.1 t (List.mem_of_getElem? ht);have h23:=h2.fr F3 (fun b hb h=>by rw [h3 b hb] at h;simp at h);refine g_a h23.rd rfl ht hlt ?_;refine K_j (fun w4 n4 f4 s4=>?_);have hS4:=(hS3.ext (RExt.cut (w:=w3))).fr0 f4
   try simp only [n4.ld_iff,sb_,Nat.reduceAdd]
   refine Ret.use (f54 hS4 hm t P.wf (x:=0) (by decide) hfr P.reps P.tl ha P.place) ?_;rintro _ w5 ⟨rfl,ro5,E5,hS5,F5⟩;simp only [sb_,Nat.reduceAdd];rw [w64 (n:=(i:Int)+1) (by omega) (by omega)];have htake:R.blocks.take (i+1)=R.blocks.take i++[t]:=by rw [List.take_add_one,ht];rfl
   have z3:=F3.size;have z4:=f4.size;refine⟨⟨i+1,ro5,by omega,rfl,fun x hx=>?_,by rw [htake,w_d];exact hS5,?_⟩,(by first|omega|(simp only [Int.toNat_natCast];omega))⟩
   ·rw [E5 x (by omega),RExt.cut x (by omega),E3 x hx]
   ·exact FrK.then F3 E3 (FrK.then (f4.mono fun _ _ h=>h.elim) RExt.cut F5)
  ·obtain rfl:i=R.blocks.length:=by omega
   rw [List.take_length] at hS3;refine Ret.use (f55 hS3 2 (.inr rfl) _) ?_;rintro _ w4 ⟨rfl,ro4,E4,hS4,F4⟩;simp only [sb_,Nat.reduceAdd];have hR4:=hS4.ed.root _ hm;obtain⟨p4,c4,h41,h42,h43⟩:=hR4.st
   try simp only [h41.ld_iff,sb_,Nat.reduceAdd]
   refine Ret.use (f57 _) ?_;rintro _ w5 ⟨rfl,n5,f5,s5⟩;have htm5:=hR4.tm.fr f5 (fun h=>h);have htlen:(I_a R.tabs).length=R.tabs.length:=by simp [I_a]
   have htl':=htl R hok.1;have h56:=f56 n5 htm5 (by rw [htlen];omega);rw [htlen] at h56;refine Ret.use h56 ?_;rintro _ w6 ⟨p6,c6,acc,rfl,hperm,hrise,hsl6,f6⟩;rw [AsSl_slice];have f46:=f5.trans f6;have G4:FrR ro w w4:=FrR.then (f2.mono fun _ _ h=>h.elim) (RExt.refl _ _) (FrR.then (F3.R (by decide)) E3 (F4.R (by decide)))
   have GE4:RExt w ro ro4:=fun x hx=>by
    have z2:=f2.size;have z3:=F3.size;rw [E4 x (by omega),E3 x (by omega)]
   have hS6:=(hS4.ext (RExt.cut (w:=w4))).fr0 f46;have hpr:∀b,On p6 b→((ro4.cut w4) b).1=0:=fun b hb=>Ro.cut_new (by have:=(hsl6.lt b hb).1;have:=f5.size;omega);obtain⟨ms,hms⟩:∃ms:List Nat,acc=ms.map fun m=>((m:Nat):Int):=by
    refine⟨acc.map Int.toNat,?_⟩;rw [List.map_map];have:acc.map ((fun m:Nat=>((m:Nat):Int)) ∘ Int.toNat)=acc.map id:=List.map_congr_left fun x hx=>by
     have:=hperm.mem_iff.1 hx;obtain⟨y,hy,rfl⟩:=List.mem_map.1 this;obtain⟨z,hz,rfl⟩:=List.mem_map.1 hy;simp
    rw [this,List.map_id]
   subst hms;have hpm:ms.Perm (R.tabs.map (·.1)):=by
    have e:(I_a R.tabs).map (·.1)=(R.tabs.map (·.1)).map fun m=>((m:Nat):Int):=by unfold I_a;simp only [List.map_map];rfl
    rw [e] at hperm;have:=hperm.map Int.toNat;simpa [List.map_map,Function.comp_def] using this
   have hrm:ms.Pairwise (·≤·):=by
    rw [List.pairwise_map] at hrise;exact hrise.imp fun h=>by omega
   have hml:ms.length=R.tabs.length:=by have:=hpm.length_eq;simpa using this
   obtain⟨x0,hx0⟩:∃x0:Xs,x0=⟨R,C_h (a_a a R R.blocks S.M) 3 (u32.wrap asid),S.p,S.l⟩:=⟨_,rfl⟩;have hS6':Sys w6 (ro4.cut w4) J fr n (x0.st S.roots a):=by
    have hself:G_a S.roots a R=S.roots:=s_b hS.ed.nd hm;rw [hx0];show Sys w6 (ro4.cut w4) J fr n ⟨_,S.p,S.l,G_a S.roots a R⟩;rw [hself];exact hS6
   refine Loop.by (fun s w'=>∃(i:Nat) (y:Xs) (ro':Ro),i≤ms.length∧s=[.int .i64 (i:Int)]∧ShutRun a x0 (ms.take i) y∧RExt w6 (ro4.cut w4) ro'∧Sys w' ro' J fr n (y.st S.roots a)∧FrR (ro4.cut w4) w6 w')
    (fun s _=>match s with | [.int _ i]=>ms.length-i.toNat|_=>0) ⟨0,x0,_,by omega,rfl,.nil,RExt.refl _ _,hS6',Fr.refl _ _⟩ ?_
   rintro _ w7 ⟨i,y,ro7,hi7,rfl,hrun,E7,hS7,F7⟩;simp only [UnC_cons,UnN_nil,AsI_int];have hrb:y.R.rb=R.rb:=by rw [hrun.ids.1,hx0]
   have hyb:y.R.blocks=R.blocks:=by rw [hrun.ids.2.2,hx0]
   have hym:(a,y.R)∈G_a S.roots a y.R:=S_c hm;refine C_ (fun hlt=>?_) (fun hge=>?_)
   ·obtain⟨m,hmm⟩:∃m,ms[i]?=some m:=⟨ms[i]'(by omega),List.getElem?_eq_getElem _⟩;have htake:ms.take (i+1)=ms.take i++[m]:=by rw [List.take_add_one,hmm];rfl
    have hsplit:ms=ms.take i++m :: ms.drop (i+1):=by
     obtain⟨q1,q2⟩:=List.getElem?_eq_some_iff.1 hmm;rw [←q2,←List.drop_eq_getElem_cons q1,List.take_append_drop]
    obtain⟨T,hT1,hT2,hT3⟩:=hsh R hok.1 (ms.take i) m y ⟨ms.drop (i+1),by rw [←hsplit];exact hpm⟩ (by rw [←hx0];exact hrun);have hm4:m<4096:=by
     have:=hpm.mem_iff.1 (List.mem_of_getElem? hmm);obtain⟨z,hz1,rfl⟩:=List.mem_map.1 this;exact htl'.2 z hz1
    obtain⟨b,o,hp6,hc6⟩:=(hsl6.rd.fr F7 fun b hb h=>h (hpr b hb)) i (.int .u32 (m:Int)) (by simp [hmm]);rw [hp6,G_];refine⟨by omega,by omega,?_⟩;rw [H_,Int.toNat_natCast];refine⟨_,hc6,AsI_int.2 ?_⟩;rw [←hrb];refine Ret.use (f58 hS7 hym hm4 hT1 hT2 hfr hT3) ?_;rintro _ w8 ⟨rfl,ro8,e8,p8,l8,hd8,E8,hS8,F8⟩;simp only [sb_,Nat.reduceAdd];rw [w64 (n:=(i:Int)+1) (by omega) (by omega)];refine⟨⟨i+1,_,ro8,by omega,rfl,by rw [htake];exact .snoc hrun hT1 hd8,fun x hx=>(E8 x (by have:=F7.size;omega)).trans (E7 x hx),?_,F7.then E7 F8⟩,(by first|omega|(simp only [Int.toNat_natCast];omega))⟩;show Sys w8 ro8 J fr n ⟨_,p8,l8,G_a S.roots a (P_f y.R m)⟩;rw [←f_b S.roots a y.R (P_f y.R m)];exact hS8
   ·obtain rfl:i=ms.length:=by omega
    rw [List.take_length] at hrun;obtain⟨p7,c7,h71,h72,h73⟩:=(hS7.ed.root _ hym).st;rw [←hrb];have h71':Has w7 y.R.rb [.int .i64 (y.R.first:Int),.int .i64 (y.R.count:Int),.slice p7 y.R.blocks.length c7,.map (some y.R.tm)]:=h71;refine h71'.st (by simp) rfl fun w8 n8 f8 s8=>?_;obtain⟨ro8,E8,hS8,F8⟩:=hS7.blocksT (w1:=w7) hym (blocks:=[]) (p':=none) (c':=0) h71 h72 h73 (Sl.nil _ _ _ _) (Fr.refl _ _) (fun b hb=>by obtain⟨q,h,_⟩:=hb;cases h) (by simpa using n8) f8;refine⟨0,_,ro8,rfl,.inr ⟨rfl,R,hok.1,hok.2.1,.inr ⟨hne,ms,y,hpm,hrm,by rw [←hx0];exact hrun,rfl⟩⟩,fun x hx=>?_,?_,?_⟩
    ·have z4:=G4.size;have z6:=f46.size;have z7:=F7.size;rw [E8 x (by omega),E7 x (by omega),RExt.cut x (by omega),GE4 x hx]
    ·show Sys w8 ro8 J fr n ⟨y.M,y.p,y.l,G_a S.roots a { y.R with blocks:=[] }⟩;rw [←f_b S.roots a y.R { y.R with blocks:=[] }];exact hS8
    ·exact G4.then GE4 (FrR.then (f46.mono fun _ _ h=>h.elim) RExt.cut (F7.then E7 F8))
structure Acc (p:Pool) (F:List Nat):Prop where
 nd:F.Nodup
 rg:∀f∈F,p.first≤f∧f<p.first+p.u.length
 us:∀k,k<p.u.length→p.u.getD k 0=if p.first+k∈F then 1 else 0
theorem Acc.perm {p:Pool} {F F':List Nat} (h:Acc p F) (e:F.Perm F'):Acc p F' :=
 ⟨e.nodup_iff.1 h.nd,fun f hf=>h.rg f (e.mem_iff.2 hf),fun k hk=>by rw [h.us k hk];simp only [e.mem_iff]⟩
def E_e (f n:Nat):List Nat:=(List.range n).map (f + ·)
theorem mem_span {f n x:Nat}:x∈E_e f n↔f≤x∧x<f+n:=by
 unfold E_e;simp only [List.mem_map,List.mem_range];constructor
 ·rintro ⟨a,h,rfl⟩;omega
 ·rintro ⟨h1,h2⟩;exact⟨x-f,by omega,by omega⟩
theorem span_nd (f n:Nat):(E_e f n).Nodup:=by
 unfold E_e;rw [List.nodup_iff_pairwise_ne,List.pairwise_map];exact List.nodup_range.imp fun h e=>h (by omega)
theorem z_h (f:Nat):E_e f 1=[f]:=by simp [E_e]
theorem Acc.take {p:Pool} {F:List Nat} (h:Acc p F) {n al a:Nat} (hf:Fit p.first p.u n al a):Acc (p.turned a (fun _=>1) n) (E_e (p.first+a) n++F):=by
 obtain⟨h1,h2,h3⟩:=hf;refine⟨?_,?_,?_⟩
 ·rw [List.nodup_append];refine⟨span_nd _ _,h.nd,fun x hx y hy e=>?_⟩;subst e;rw [mem_span] at hx;have h4:=h.us (x-p.first) (by omega);rw [show p.first+(x-p.first)=x by omega,if_pos hy,h3 _ (by omega) (by omega)] at h4;cases h4
 ·intro f hf;simp only [Pool.turned,e_];rcases List.mem_append.1 hf with hf|hf
  ·rw [mem_span] at hf;omega
  ·exact h.rg f hf
 ·intro k hk;simp only [Pool.turned,e_] at hk;show (turn p.u a (fun _=>1) n).getD k 0=if p.first+k∈E_e (p.first+a) n++F then 1 else 0
  rw [O_b _ _ _ _ _ h2];by_cases hx:a≤k∧k<a+n
  ·have hm:p.first+k∈E_e (p.first+a) n++F:=List.mem_append.2 (.inl (mem_span.2 (by omega)))
   rw [if_pos hx,if_pos hm]
  ·rw [if_neg hx,h.us k hk];have:p.first+k∉E_e (p.first+a) n:=by rw [mem_span];omega
   have e:p.first+k∈E_e (p.first+a) n++F↔p.first+k∈F:=by rw [List.mem_append];exact⟨fun h=>h.elim (fun h=>absurd h this) id,.inr⟩
   simp only [e]
theorem Acc.drop {p:Pool} {F:List Nat} {f n:Nat} (h:Acc p (E_e f n++F)) (hn:1≤n):(p.run (f:Int) (n:Int)).2=0∧Acc (p.turned ((f:Int)-p.first).toNat (· - 1) (n:Int).toNat) F:=by
 have hnd:=List.nodup_append.1 h.nd;have hr:∀x,f≤x→x<f+n→p.first≤x∧x<p.first+p.u.length:=fun x h1 h2=>h.rg x (List.mem_append.2 (.inl (mem_span.2 ⟨h1,h2⟩)))
 have a1:=hr f (Nat.le_refl _) (by omega);have a2:=hr (f+n-1) (by omega) (by omega);have hk:((f:Int)-p.first).toNat=f-p.first:=by omega
 have hu:∀x,f-p.first≤x→x<f-p.first+n→p.u.getD x 0=1:=fun x h1 h2=>by
  rw [h.us x (by omega),if_pos (List.mem_append.2 (.inl (mem_span.2 (by omega))))]
 refine⟨?_,?_,?_,?_⟩
 ·unfold Pool.run;rw [if_neg (by omega),if_neg (by omega),hk];obtain⟨s1,s2,s3,s4⟩:=H_b p.u false (f-p.first);have s5:=s2 (by omega);rw [if_neg];intro hlt;have hl:next p.u false (f-p.first)<p.u.length:=by omega
  have:=hu (next p.u false (f-p.first)) s5 (by omega);have h0:=s3 hl;rw [r_ hl] at this;rw [this] at h0;simp at h0
 ·exact hnd.2.1
 ·intro x hx;simp only [Pool.turned,e_];exact h.rg x (List.mem_append.2 (.inr hx))
 ·intro k hk2;simp only [Pool.turned,e_] at hk2;show (turn p.u ((f:Int)-p.first).toNat (· - 1) (n:Int).toNat).getD k 0=if p.first+k∈F then 1 else 0
  rw [hk,Int.toNat_natCast,O_b _ _ _ _ _ (by omega)];by_cases hx:f-p.first≤k∧k<f-p.first+n
  ·have hm:¬p.first+k∈F:=fun hm=>hnd.2.2 (p.first+k) (mem_span.2 (by omega)) (p.first+k) hm rfl
   rw [if_pos hx,hu k hx.1 hx.2,if_neg hm]
  ·rw [if_neg hx,h.us k hk2];have:p.first+k∉E_e f n:=by rw [mem_span];omega
   have e:p.first+k∈E_e f n++F↔p.first+k∈F:=by rw [List.mem_append];exact⟨fun h=>h.elim (fun h=>absurd h this) id,.inr⟩
   simp only [e]
theorem Acc.held {p:Pool} {l:List Qr} {G:List Nat} (h:Acc p (l.map Qr.f++G)):t_c p l:=by
 intro q hq;have hm:q.f∈l.map Qr.f++G:=List.mem_append.2 (.inl (List.mem_map.2 ⟨q,hq,rfl⟩));have:=h.rg q.f hm;refine⟨this.1,this.2,?_⟩;rw [h.us _ (by omega),show p.first+(q.f-p.first)=q.f by omega,if_pos hm];decide
theorem s_e (f:Nat):∀l:List Qr,(insq f l).Perm (Qr.new f :: l)
 | []=>List.Perm.refl _
 | x :: r=>by
  unfold insq;split
  ·exact ((s_e f r).cons x).trans (List.Perm.swap _ _ _)
  ·exact List.Perm.refl _
theorem h_j {l l':List Qr} (h:l.Perm l'):(tabs l).Perm (tabs l'):=by
 unfold tabs;exact h.flatMap_right _
theorem w_j {q:Qr} {k:Nat} (hk:k<4) (h0:q.u k=false):((q.set k true).tabs 4).Perm ((4*q.f+k) :: q.tabs 4):=by
 have hr:∀q:Qr,(q.tabs 4).Nodup:=fun q=>by
  unfold Qr.tabs;rw [List.nodup_iff_pairwise_ne,List.pairwise_map];exact (List.nodup_range.filter _).imp fun h e=>h (by omega)
 refine (List.perm_ext_iff_of_nodup (hr _) (List.nodup_cons.2 ⟨fun hm=>?_,hr q⟩)).2 fun x=>?_
 ·obtain⟨k',h1,h2,h3⟩:=mem_qtabs.1 hm;have:k'=k:=by omega
  subst this;rw [h0] at h2;cases h2
 ·rw [List.mem_cons,mem_qtabs,mem_qtabs];constructor
  ·rintro ⟨k',h1,h2,h3⟩;by_cases e:k'=k
   ·subst e;exact .inl h3
   ·simp only [Qr.set,if_neg e] at h2;exact .inr ⟨k',h1,h2,h3⟩
  ·rintro (h|⟨k',h1,h2,h3⟩)
   ·exact⟨k,hk,by simp [Qr.set],h⟩
   ·refine⟨k',h1,?_,h3⟩;simp only [Qr.set];split
    ·rfl
    ·exact h2
theorem tabs_set {l:List Qr} {i k:Nat} {q:Qr} (hq:l[i]?=some q) (hk:k<4) (h0:q.u k=false):(tabs (l.set i (q.set k true))).Perm ((4*q.f+k) :: tabs l):=by
 have hil:=(List.getElem?_eq_some_iff.1 hq).1;have hy:(l.set i (q.set k true))[i]?=some (q.set k true):=by simp [hil]
 rw [g_b hy,g_b hq,List.take_set_of_le (Nat.le_refl _),List.drop_set_of_lt (by omega)];refine (((w_j hk h0).append_right _).append_left _).trans ?_;exact List.perm_middle
theorem STake.acc {p p':Pool} {l l':List Qr} {r e:Nat} {G:List Nat} (h:STake p l r e p' l') (hok:SlabOk l) (hA:Acc p (l.map Qr.f++G)) (hlt:p.first+p.u.length≤268435456) :
  Acc p' (l'.map Qr.f++G)∧SlabOk l'∧p'.first=p.first∧p'.u.length=p.u.length∧(e=0→(tabs l').Perm (r :: tabs l))∧(e≠0→p'=p∧l'=l):=by
 cases h with
 | old i k q hq hk h0 h1 h2 =>
  refine⟨?_,hok.set hq hk,rfl,rfl,fun _=>tabs_set hq hk h0,fun h=>absurd rfl h⟩;rw [n_j (y:=q.set k true) hq rfl];exact hA
 | none h hn=>exact⟨hA,hok,rfl,rfl,fun h=>absurd h (by decide),fun _=>⟨rfl,rfl⟩⟩
 | fresh h a hf hl =>
  have ha:a<p.u.length:=by have:=hf.2.1;omega
  have h1:=hA.take hf;rw [z_h] at h1;have hn:∀q∈l,q.f≠p.first+a:=fun q hq e=>by
   exact (List.nodup_append.1 h1.nd).2.2 (p.first+a) (by simp) (p.first+a) (List.mem_append.2 (.inl (List.mem_map.2 ⟨q,hq,e⟩))) rfl
  refine⟨h1.perm ?_,hok.insq (by omega) hn,rfl,e_ _ _ _ _,fun _=>?_,fun h=>absurd rfl h⟩
  ·have:=((s_e (p.first+a) l).map Qr.f).append_right G;exact this.symm
  ·refine (h_j (s_e _ l)).trans ?_;have:tabs (Qr.new (p.first+a) :: l)=4*(p.first+a) :: tabs l:=by
    simp only [tabs,List.flatMap_cons];have:(Qr.new (p.first+a)).tabs 4=[4*(p.first+a)]:=by
     simp [Qr.tabs,Qr.new,List.range_succ]
    rw [this];rfl
   rw [this]
theorem Acc.one {p:Pool} {F:List Nat} {f:Nat} (h:Acc p (f :: F)):Acc (p.turned (f-p.first) (· - 1) 1) F:=by
 have h':Acc p (E_e f 1++F):=by rw [z_h];exact h
 have:=(h'.drop (Nat.le_refl 1)).2;have hr:=h.rg f (by simp);rw [show ((f:Int)-p.first).toNat=f-p.first by omega] at this;exact this
theorem SDrop.acc {p p':Pool} {l l':List Qr} {t e:Nat} {G:List Nat} (h:SDrop p l (t:Int) e p' l') (hok:SlabOk l) (hA:Acc p (l.map Qr.f++G)) (ht:t∈tabs l) :
  e=0∧Acc p' (l'.map Qr.f++G)∧SlabOk l'∧p'.first=p.first∧p'.u.length=p.u.length∧(tabs l).Perm (t :: tabs l'):=by
 have hte:=h.tabs_eq hok rfl;rcases hte with ⟨_,h2,_⟩|⟨he,_,htab⟩
 ·exact absurd ht h2
 have hperm:(tabs l).Perm (t :: tabs l'):=by
  rw [htab];have hnd:=i_d (h_e hok.rise);have e1:=List.perm_cons_erase ht;rw [hnd.erase_eq_filter] at e1;refine e1.trans (List.Perm.cons _ ?_);refine List.Perm.of_eq (List.filter_congr fun y _=>?_);by_cases e:y=t
  ·subst e;simp
  ·simp [e]
 cases h with
 | none h=>exact absurd he (by decide)
 | more i k q hq hk hu ht hm =>
  refine⟨rfl,?_,?_,rfl,rfl,hperm⟩
  ·rw [n_j (y:=q.set k false) hq rfl];exact hA
  ·refine hok.of_f (n_j (y:=q.set k false) hq rfl) fun x hx=>?_;rcases List.mem_or_eq_of_mem_set hx with hx|rfl
   ·exact hok.any x hx
   ·obtain⟨k',h1,h2,h3⟩:=hm;exact⟨k',h1,by simp only [Qr.set,if_neg h2];exact h3⟩
 | last i k q hq hk hu ht hm =>
  refine⟨rfl,?_,hok.cut i,rfl,e_ _ _ _ _,hperm⟩;refine Acc.one (f:=q.f) (hA.perm ?_);obtain⟨hi,hqi⟩:=List.getElem?_eq_some_iff.1 hq;have e:l=l.take i++q :: l.drop (i+1):=by rw [←hqi,←List.drop_eq_getElem_cons hi,List.take_append_drop]
  have e2:(l.map Qr.f).Perm (q.f :: (l.take i++l.drop (i+1)).map Qr.f):=by
   conv=>lhs;rw [e]
   exact (List.perm_middle.map Qr.f)
  exact e2.append_right G
theorem PTake.acc {p p':Pool} {n al:Int} {r e:Nat} {F:List Nat} (h:PTake p n al r e p') (hA:Acc p F) :
  p'.first=p.first∧p'.u.length=p.u.length∧(e≠0→p'=p∧r=0)∧(e=0→Acc p' (E_e r n.toNat++F)∧p.first≤r∧r+n.toNat≤p.first+p.u.length∧1≤n∧1≤al∧r%al.toNat=0):=by
 cases h with
 | bad h=>exact⟨rfl,rfl,fun _=>⟨rfl,rfl⟩,fun h=>absurd h (by decide)⟩
 | none h hn=>exact⟨rfl,rfl,fun _=>⟨rfl,rfl⟩,fun h=>absurd h (by decide)⟩
 | ok h a hf hl =>
  refine⟨rfl,e_ _ _ _ _,fun h=>absurd rfl h,fun _=>⟨hA.take hf,by omega,by have:=hf.2.1;omega,?_,?_,hf.1⟩⟩
  ·unfold v_a at h;omega
  ·unfold v_a at h;omega
theorem MayE.det {n:Nat} {blocks l:List Tr} {e e':Nat} (h:MayE n blocks l e) (h':MayE n blocks l e'):e=e':=by
 have key:∀{e e':Nat},MayE n blocks l e→MayE n blocks l e'→e=1→e'=1:=by
  rintro e e' (⟨_,t,ht,hb⟩|⟨he,_⟩|⟨he,_⟩) h' h1
  ·rcases h' with ⟨h',_⟩|⟨_,hg,_⟩|⟨_,hg,_⟩
   ·exact h'
   ·rw [hg t ht] at hb;cases hb
   ·rw [hg t ht] at hb;cases hb
  ·rw [he] at h1;cases h1
  ·rw [he] at h1;cases h1
 have key2:∀{e e':Nat},MayE n blocks l e→MayE n blocks l e'→e=141→e'=0→False:=by
  rintro e e' h h' h1 h0;subst h0;rcases h with ⟨he,_⟩|⟨_,_,i,t,hi,hc⟩|⟨he,_⟩
  ·rw [he] at h1;cases h1
  ·rcases h' with ⟨h',_⟩|⟨h',_⟩|⟨_,_,hg⟩
   ·cases h'
   ·cases h'
   obtain⟨g1,g2⟩:=hg i t hi;rcases hc with ⟨b,hb,hc⟩|⟨b,hb,hc⟩
   ·rw [g1 b hb] at hc;cases hc
   ·rw [g2 b hb] at hc;cases hc
  ·rw [he] at h1;cases h1
 have cases3:∀{e:Nat},MayE n blocks l e→e=1∨e=141∨e=0:=by
  rintro e (⟨h,_⟩|⟨h,_⟩|⟨h,_⟩)
  ·exact .inl h
  ·exact .inr (.inl h)
  ·exact .inr (.inr h)
 rcases cases3 h with a|a|a<;>rcases cases3 h' with b|b|b
 ·omega
 ·have:=key h h' a;omega
 ·have:=key h h' a;omega
 ·have:=key h' h b;omega
 ·omega
 ·exact (key2 h h' a b).elim
 ·have:=key h' h b;omega
 ·exact (key2 h' h b a).elim
 ·omega
theorem A_j {l:List Tr} (hs:l.Pairwise fun a b=>a.va<b.va) {i:Nat} {t:Tr} (h:l[i]?=some t):findIx l t.va=i:=by
 have h1:=c_b hs (va:=t.va) h;have h2:¬i<findIx l t.va:=fun hh=>by have:=h1.2 hh;omega
 rcases Nat.eq_zero_or_pos i with h0|h0
 ·omega
 ·have hil:=(List.getElem?_eq_some_iff.1 h).1;have hj:l[i-1]?=some l[i-1]:=List.getElem?_eq_getElem (by omega);have h3:=(c_b hs (va:=t.va) hj).1 (by
   have:=List.pairwise_iff_getElem.1 hs (i-1) i (by omega) hil (by omega);rw [(List.getElem?_eq_some_iff.1 h).2] at this;exact this)
  omega
theorem J_c {l:List Tr} (hs:l.Pairwise fun a b=>a.va<b.va) {i:Nat} {t:Tr} (h:l[i]?=some t):L_a l t.va=(i,true):=by
 unfold L_a m_b;rw [A_j hs h,h];simp
theorem f_k {l:List Tr} (hs:l.Pairwise fun a b=>a.va<b.va) {t:Tr} (ht:f_d t.size=true) (hl:∀b∈l,f_d b.size=true) (hc:∀b∈l,X_ t b=false):(L_a l t.va).1=findIx l t.va:=by
 have hp:=s_a ht;have no:∀b∈l,¬(t.va<b.tend∧b.va<t.tend):=fun b hb h=>by
  have:=hc b hb;unfold X_ A_g at this;rw [decide_eq_true h.1,decide_eq_true h.2] at this;simp at this
 unfold L_a;split
 ·rfl
 ·cases hx:l[findIx l t.va-1]? with
  | none=>rfl
  | some b =>
   dsimp only;split
   ·rename_i hcc;have hb:=List.mem_of_getElem? hx;refine absurd ⟨hcc.2,?_⟩ (no b hb);have:=(c_b hs (va:=t.va) hx).2 (by omega);unfold Tr.tend;omega
   ·rfl
theorem X_a (l:List Tr) (i:Nat) (t:Tr):(r_b l i t).Perm (t :: l):=by
 unfold r_b;refine List.perm_middle.trans ?_;rw [List.take_append_drop]
theorem BlkOk.ins {n:Nat} {l:List Tr} (h:BlkOk n l) {t:Tr} (ht:Good n t) (hc:∀b∈l,X_ t b=false):BlkOk n (r_b l (L_a l t.va).1 t):=by
 have hs:=h.sorted;refine⟨fun b hb=>?_,?_⟩
 ·rcases List.mem_cons.1 ((X_a _ _ _).mem_iff.1 hb) with rfl|hb
  ·exact ht
  ·exact h.good b hb
 ·rw [f_k hs (Z_ ht.right) (fun b hb=>Z_ (h.good b hb).right) hc];have hne:∀b∈l,b.va≠t.va:=fun b hb e=>by
   have:=H_d ht (h.good b hb) (hc b hb);rw [e] at this;exact this rfl
  have h1:∀b∈l.take (findIx l t.va),b.va<t.va:=fun b hb=>by
   obtain⟨j,hj,rfl⟩:=List.getElem_of_mem hb;rw [List.length_take] at hj;rw [List.getElem_take];exact (c_b hs (List.getElem?_eq_getElem (by omega))).2 (by omega)
  have h2:∀b∈l.drop (findIx l t.va),t.va<b.va:=fun b hb=>by
   have hm:=hne b (List.mem_of_mem_drop hb);obtain⟨j,hj,rfl⟩:=List.getElem_of_mem hb;rw [List.length_drop] at hj;rw [List.getElem_drop] at hm ⊢;have:=mt (c_b hs (va:=t.va) (List.getElem?_eq_getElem (by omega:findIx l t.va+j<l.length))).1 (by omega);omega
  unfold r_b;rw [List.pairwise_append];refine⟨h.sep.sublist (List.take_sublist _ _),List.pairwise_cons.2 ⟨fun b hb=>⟨h2 b hb,hc b (List.mem_of_mem_drop hb)⟩,h.sep.sublist (List.drop_sublist _ _)⟩,fun a ha b hb=>?_⟩;rcases List.mem_cons.1 hb with rfl|hb
  ·exact⟨h1 a ha,by rw [r_d];exact hc a (List.mem_of_mem_take ha)⟩
  ·have:=h.sep;rw [←List.take_append_drop (findIx l t.va) l,List.pairwise_append] at this;exact this.2.2 a ha b hb
theorem i_k {l:List Tr} (hs:l.Pairwise fun a b=>a.va<b.va) {i:Nat} {t:Tr} (h:l[i]?=some t) {b:Tr}:b∈l.eraseIdx i↔b∈l∧b.va≠t.va:=by
 obtain⟨hi,rfl⟩:=List.getElem?_eq_some_iff.1 h;rw [List.mem_eraseIdx_iff_getElem];constructor
 ·rintro ⟨j,hj,hne,rfl⟩;refine⟨List.getElem_mem _,?_⟩;rcases Nat.lt_or_gt_of_ne hne with h|h
  ·have:=List.pairwise_iff_getElem.1 hs j i hj hi h;omega
  ·have:=List.pairwise_iff_getElem.1 hs i j hi hj h;omega
 ·rintro ⟨hb,hne⟩;obtain⟨j,hj,rfl⟩:=List.getElem_of_mem hb;exact⟨j,hj,fun e=>hne (by subst e;rfl),rfl⟩
theorem BlkOk.set {n:Nat} {l:List Tr} (h:BlkOk n l) {i:Nat} {t t':Tr} (hi:l[i]?=some t) (hg:Good n t') (hv:t'.va=t.va) (hz:t'.size=t.size) (hd:t'.dom=t.dom):BlkOk n (l.set i t'):=by
 have hc:∀b,X_ t' b=X_ t b∧X_ b t'=X_ b t:=fun b=>by
  unfold X_ A_g Tr.tend Tr.paged Tr.mib;rw [hv,hz,hd];exact⟨rfl,rfl⟩
 obtain⟨hil,hit⟩:=List.getElem?_eq_some_iff.1 hi;refine⟨fun b hb=>?_,List.pairwise_iff_getElem.2 fun x y hx hy hxy=>?_⟩
 ·rcases List.mem_or_eq_of_mem_set hb with hb|rfl
  ·exact h.good b hb
  ·exact hg
 ·rw [List.length_set] at hx hy;have:=List.pairwise_iff_getElem.1 h.sep x y hx hy hxy;rw [List.getElem_set,List.getElem_set];by_cases e1:i=x
  ·subst e1;rw [if_pos rfl,if_neg (by omega),hv,(hc _).1];rw [hit] at this;exact this
  ·rw [if_neg e1];by_cases e2:i=y
   ·subst e2;rw [if_pos rfl,hv,(hc _).2];rw [hit] at this;exact this
   ·rw [if_neg e2];exact this
theorem B_f {blocks:List Tr}:∀{vas:List Nat} {out out':List Tr},l_a blocks vas out=some out'→(∀t∈out,t∈blocks)→(out.map (·.va)).Nodup→(∀t∈out',t∈blocks)∧(out'.map (·.va)).Nodup∧out'.length=out.length+vas.length
 | [],out,out',h,h1,h2=>by
  unfold l_a at h;injection h with h
  subst h;exact⟨h1,h2,rfl⟩
 | va :: r,out,out',h,h1,h2=>by
  unfold l_a at h;split at h
  ·rename_i hf;split at h
   ·rename_i t ht;split at h
    ·cases h
    ·rename_i hn;have:=B_f h (fun x hx=>by
      rcases List.mem_append.1 hx with hx|hx
      ·exact h1 x hx
      ·rw [List.mem_singleton.1 hx];exact List.mem_of_getElem? ht) (by
      rw [List.map_append,List.nodup_append];refine⟨h2,by simp,fun x hx y hy e=>?_⟩;simp only [List.map_cons,List.map_nil,List.mem_singleton] at hy;subst hy;subst e;obtain⟨z,hz,hz2⟩:=List.mem_map.1 hx;refine hn (List.any_eq_true.2 ⟨z,hz,?_⟩);simpa using hz2)
     refine⟨this.1,this.2.1,?_⟩;rw [this.2.2];simp only [List.length_append,List.length_cons,List.length_nil];omega
   ·cases h
  ·cases h
structure RootOk (n a:Nat) (R:RootS):Prop where
 key:a=4096*R.first
 cnt:R.count=cnt n
 blk:BlkOk n R.blocks
 nd:(R.tabs.map (·.1)).Nodup
 tk:∀m,(tab? R.tabs m).isSome=true↔∃t∈R.blocks,t.paged=true∧t.mib=m
theorem tab_isSome {l:List (Nat×Nat)} {m:Nat}:(tab? l m).isSome=true↔m∈l.map (·.1):=by
 unfold tab?;rw [Option.isSome_map,List.find?_isSome,List.mem_map];constructor
 ·rintro ⟨x,h1,h2⟩;exact⟨x,h1,by simpa using h2⟩
 ·rintro ⟨x,h1,h2⟩;exact⟨x,h1,by simpa using h2⟩
theorem d_d {l:List (Nat×Nat)} {m v:Nat} (h:tab? l m=some v):(m,v)∈l:=by
 unfold tab? at h;obtain⟨x,h1,h2⟩:=Option.map_eq_some_iff.1 h;have h3:=List.find?_some h1;have h4:=List.mem_of_find?_eq_some h1;obtain⟨k,y⟩:=x;simp at h3 h2;subst h3 h2;exact h4
theorem y_h {l:List (Nat×Nat)} {m:Nat} (h:(tab? l m).isSome=false):tab? l m=none:=by
 cases hx:tab? l m with
 | none=>rfl
 | some v=>rw [hx] at h;cases h
theorem Z_f {l l':List (Nat×Nat)} {m:Nat}:(tab? (l++l') m).isSome=((tab? l m).isSome || (tab? l' m).isSome):=by
 rw [Bool.eq_iff_iff,Bool.or_eq_true,tab_isSome,tab_isSome,tab_isSome,List.map_append,List.mem_append]
theorem Good.mib {n:Nat} {t:Tr} (h:Good n t) (hn:1≤n∧n≤7):t.mib<1024*Go.Proofs.YtmgjicnipgdjhaaGreatDoor.cnt n:=by
 have h1:=h.lt hn;unfold Tr.mib Go.Proofs.YtmgjicnipgdjhaaGreatDoor.cnt;split
 ·rename_i e;subst e;have:2^(32-1)=2147483648:=by decide
  omega
 ·have:2^(32-n)≤2^30:=Nat.pow_le_pow_right (by decide) (by omega);omega
structure XI (fr:Nat) (G O:List Nat) (p:Pool) (l:List Qr) (ts:List (Nat×Nat)):Prop where
 ok:SlabOk l
 acc:Acc p (l.map Qr.f++G)
 tb:(ts.map (·.2)++O).Perm (tabs l)
 lt:p.first+p.u.length≤fr
theorem XI.tab_lt {fr:Nat} {G O:List Nat} {p:Pool} {l:List Qr} {ts:List (Nat×Nat)} (h:XI fr G O p l ts) {T:Nat} (hT:T∈tabs l):T<4*fr:=by
 obtain⟨q,hq,k,hk,_,rfl⟩:=mem_tabs.1 hT;have:=h.acc.rg q.f (List.mem_append.2 (.inl (List.mem_map.2 ⟨q,hq,rfl⟩)));have:=h.lt;omega
theorem XI.mem {fr:Nat} {G O:List Nat} {p:Pool} {l:List Qr} {ts:List (Nat×Nat)} (h:XI fr G O p l ts) {m T:Nat} (hT:tab? ts m=some T):T∈tabs l :=
 h.tb.mem_iff.1 (List.mem_append.2 (.inl (List.mem_map.2 ⟨_,d_d hT,rfl⟩)))
theorem XI.tl {fr:Nat} {G O:List Nat} {p:Pool} {l:List Qr} {ts:List (Nat×Nat)} (h:XI fr G O p l ts) {m T:Nat} (hT:tab? ts m=some T):T<4*fr:=h.tab_lt (h.mem hT)
theorem F_g {fr n a:Nat} {R:RootS} (hR:RootOk n a R) (hf:R.first+R.count≤fr) {m:Nat} (hm:m<1024*Go.Proofs.YtmgjicnipgdjhaaGreatDoor.cnt n):wErr fr (a+4*m)=0:=by
 have h1:=hR.key;have h2:=hR.cnt;unfold wErr;rw [if_neg (by omega),if_neg];rw [h2] at hf;have:R.first*4096+Go.Proofs.YtmgjicnipgdjhaaGreatDoor.cnt n*4096≤fr*4096:=by rw [←Nat.add_mul];exact Nat.mul_le_mul_right _ hf
 omega
theorem D_d {n:Nat} {t:Tr} (h:Good n t):reps t.size=1∨reps t.size=16:=a_f h.right
theorem t_d {t:Tr} (h:t.right=true):t.va%bytesOf t.size=0:=by
 obtain⟨h1,h2,_⟩:=j_ h;unfold place at h2;simp only [Bool.and_eq_true,decide_eq_true_eq] at h2;unfold bytesOf;rw [if_pos h1];exact h2.1
theorem K_i {fr n a:Nat} {R:RootS} (hn:1≤n∧n≤7) (hk:a=4096*R.first) (hf:R.first+Go.Proofs.YtmgjicnipgdjhaaGreatDoor.cnt n≤fr) {t:Tr} (ht:Good n t) (hp:t.paged=true→∃T,tab? R.tabs t.mib=some T∧T<4*fr) :
  ∀i,i<reps t.size→wErr fr (placeOf R a t+4*i)=0:=by
 intro i hi;have hal:=t_d ht.right;have hsz:=Z_ ht.right;have hlt:=ht.lt hn;have hen:=ht.en;unfold placeOf;split
 ·rename_i hpg;obtain⟨T,hT,hT2⟩:=hp hpg;rw [hT];simp only [Option.getD_some];unfold wErr;have hi2:t.va/4096%256+i<256:=by
   unfold Tr.paged at hpg;simp only [Bool.or_eq_true,decide_eq_true_eq] at hpg;rcases hpg with e|e
   ·rw [e] at hi;have:reps 1=1:=by decide
    omega
   ·rw [e] at hi hal;have h1:reps 2=16:=by decide
    have h2:bytesOf 2=65536:=by decide
    rw [h2] at hal;omega
  rw [if_neg (by omega),if_neg (by omega)]
 ·rename_i hpg;have hm:t.mib+i<1024*Go.Proofs.YtmgjicnipgdjhaaGreatDoor.cnt n:=by
   have h0:=ht.mib hn;rcases m_ hsz with e|e|e|e
   ·exact absurd (by unfold Tr.paged;simp [e]) hpg
   ·exact absurd (by unfold Tr.paged;simp [e]) hpg
   ·rw [e] at hi;have:reps 3=1:=by decide
    omega
   ·rw [e] at hi hal;have h1:reps 4=16:=by decide
    have h2:bytesOf 4=16777216:=by decide
    rw [h2] at hal;have h3:t.mib%16=0:=by unfold Tr.mib;omega
    have h4:(1024*Go.Proofs.YtmgjicnipgdjhaaGreatDoor.cnt n)%16=0:=by omega
    omega
  unfold wErr;have h2:R.first*4096+Go.Proofs.YtmgjicnipgdjhaaGreatDoor.cnt n*4096≤fr*4096:=by rw [←Nat.add_mul];exact Nat.mul_le_mul_right _ hf
  rw [if_neg (by omega),if_neg (by omega)]
theorem x_h {l:List (Nat×Nat)} {m:Nat} (h:(tab? l m).isSome=true):∃T,tab? l m=some T:=Option.isSome_iff_exists.1 h
theorem RootOk.paged {n a:Nat} {R:RootS} (hR:RootOk n a R) {t:Tr} (ht:t∈R.blocks) (hp:t.paged=true):∃T,tab? R.tabs t.mib=some T:=x_h ((hR.tk _).2 ⟨t,ht,hp,rfl⟩)
theorem G_g (got:List (Nat×Nat×Bool)) (x:Nat×Nat×Bool) (i:Nat):got? (got++[x]) i=(got? got i).or (if x.1=i then some x.2 else none):=by
 unfold got?;rw [List.find?_append];cases hx:got.find? (fun x=>x.1==i) with
 | some y=>rfl
 | none =>
  simp only [Option.none_or,Option.map_none];by_cases e:x.1=i
  ·simp [e]
  ·simp [e]
theorem Z_c {got:List (Nat×Nat×Bool)} {i:Nat} (h:∀g∈got,g.1≠i):got? got i=none:=by
 unfold got?;rw [List.find?_eq_none.2 (fun g hg=>by simpa using h g hg)]
 rfl
theorem p_d {got more:List (Nat×Nat×Bool)} {i:Nat} (h:∀g∈more,g.1≠i):got? (got++more) i=got? got i:=by
 unfold got?;have e:more.find? (fun x=>x.1==i)=none:=List.find?_eq_none.2 (fun g hg=>by simpa using h g hg);rw [List.find?_append,e,Option.or_none]
theorem TakeI.at {tabs:List (Nat×Nat)} {p0 p:Pool} {l0 l:List Qr} {ts:List Tr} {got:List (Nat×Nat×Bool)} {mine:List (Nat×Nat)} (h:TakeI tabs p0 l0 ts got mine p l) :
  ∀i t,ts[i]?=some t→∃got1 mine1 p1 l1 more,TakeI tabs p0 l0 (ts.take i) got1 mine1 p1 l1∧got=got1++more∧(∀g∈more,i≤g.1) ∧
   ((I_d tabs mine1 t=false∧got? got i=none)∨(I_d tabs mine1 t=true∧∃r f p2 l2,STake p1 l1 r 0 p2 l2∧got? got i=some (r,f))):=by
 induction h with
 | nil=>intro i t h;simp at h
 | @skip ts got mine p l t h hn ih =>
  intro i u hu;rcases Nat.lt_or_ge i ts.length with hi|hi
  ·rw [List.getElem?_append_left hi] at hu;rw [List.take_append_of_le_length (by omega)];exact ih i u hu
  ·rw [List.getElem?_append_right hi] at hu;have hi2:i=ts.length:=by
    have:=(List.getElem?_eq_some_iff.1 hu).1;simp at this;omega
   subst hi2;simp at hu;subst hu;rw [List.take_left];exact⟨got,mine,p,l,[],h,by simp,by simp,.inl ⟨hn,Z_c fun g hg=>by have:=h.idx g hg;omega⟩⟩
 | @one ts got mine p p' l l' t r h hn ho hs ih =>
  intro i u hu;rcases Nat.lt_or_ge i ts.length with hi|hi
  ·rw [List.getElem?_append_left hi] at hu;rw [List.take_append_of_le_length (by omega)];obtain⟨g1,m1,p1,l1,more,k1,k2,k3,k4⟩:=ih i u hu;refine⟨g1,m1,p1,l1,more++[(ts.length,r,!decide (r/4∈l.map Qr.f))],k1,by rw [k2,List.append_assoc],fun g hg=>?_,?_⟩
   ·rcases List.mem_append.1 hg with hg|hg
    ·exact k3 g hg
    ·rw [List.mem_singleton.1 hg];exact Nat.le_of_lt hi
   ·rw [p_d fun g hg=>by rw [List.mem_singleton.1 hg];dsimp only;omega];exact k4
  ·rw [List.getElem?_append_right hi] at hu;have hi2:i=ts.length:=by
    have:=(List.getElem?_eq_some_iff.1 hu).1;simp at this;omega
   subst hi2;simp at hu;subst hu;rw [List.take_left];refine⟨got,mine,p,l,[(ts.length,r,!decide (r/4∈l.map Qr.f))],h,rfl,fun g hg=>by rw [List.mem_singleton.1 hg];exact Nat.le_refl _,.inr ⟨hn,r,!decide (r/4∈l.map Qr.f),p',l',hs,?_⟩⟩;rw [G_g,Z_c fun g hg=>by have:=h.idx g hg;omega];simp
theorem U_a {tabs mine:List (Nat×Nat)} {t:Tr}:I_d tabs mine t=(t.paged && !(tab? (tabs++mine) t.mib).isSome):=by
 unfold I_d;rw [Z_f];cases t.paged<;>cases (tab? tabs t.mib).isSome<;>cases (tab? mine t.mib).isSome<;>rfl
theorem TakeI.xi {fr:Nat} {G O:List Nat} {tabs:List (Nat×Nat)} {p0 p:Pool} {l0 l:List Qr} {ts:List Tr} {got:List (Nat×Nat×Bool)} {mine:List (Nat×Nat)} (h:TakeI tabs p0 l0 ts got mine p l) (hX:XI fr G O p0 l0 tabs) (hfr:fr≤65536) :
  XI fr G O p l (tabs++mine)∧p.first=p0.first∧p.u.length=p0.u.length:=by
 induction h with
 | nil=>simpa using hX
 | skip h hn ih=>exact ih
 | @one ts got mine p p' l l' t r h hn ho hs ih =>
  obtain⟨hx,h1,h2⟩:=ih;obtain⟨k1,k2,k3,k4,k5,_⟩:=hs.acc hx.ok hx.acc (by have:=hx.lt;omega);refine⟨⟨k2,k1,?_,by have:=hx.lt;omega⟩,by omega,by omega⟩;refine List.Perm.trans ?_ ((hx.tb.cons r).trans (k5 rfl).symm);simp only [List.map_append,List.map_cons,List.map_nil,List.append_assoc,List.singleton_append];have:(tabs.map (·.2)++(mine.map (·.2)++r :: O)).Perm (r :: (tabs.map (·.2)++(mine.map (·.2)++O))):=by
   rw [←List.append_assoc,←List.append_assoc];exact List.perm_middle
  exact this
theorem W_a (R:RootS) (g:Option (Nat×Bool)) (t:Tr):(v_c R g t).first=R.first∧(v_c R g t).count=R.count:=by
 unfold v_c d_a;cases g<;>exact⟨rfl,rfl⟩
theorem N_a (R:RootS) (g:Option (Nat×Bool)) (t:Tr):(v_c R g t).blocks=r_b R.blocks (L_a R.blocks t.va).1 t:=by
 unfold v_c d_a;cases g<;>rfl
theorem r_a (R:RootS) (g:Option (Nat×Bool)) (t:Tr):(v_c R g t).tabs=R.tabs++(match g with|some (T,_)=>[(t.mib,T)] | none=>[]):=by
 unfold v_c d_a;cases g with
 | none=>simp
 | some x=>rfl
theorem g_f {R:List Tr} {i m:Nat} {t:Tr}:(∃b∈r_b R i t,b.paged=true∧b.mib=m)↔(t.paged=true∧t.mib=m)∨∃b∈R,b.paged=true∧b.mib=m:=by
 constructor
 ·rintro ⟨b,hb,h⟩;rcases List.mem_cons.1 ((X_a _ _ _).mem_iff.1 hb) with rfl|hb
  ·exact .inl h
  ·exact .inr ⟨b,hb,h⟩
 ·rintro (h|⟨b,hb,h⟩)
  ·exact⟨t,(X_a _ _ _).mem_iff.2 (by simp),h⟩
  ·exact⟨b,(X_a _ _ _).mem_iff.2 (by simp [hb]),h⟩
theorem RootOk.putNone {n a:Nat} {R:RootS} (hR:RootOk n a R) {t:Tr} (ht:Good n t) (hc:∀b∈R.blocks,X_ t b=false) (hp:t.paged=true→(tab? R.tabs t.mib).isSome=true):RootOk n a (v_c R none t):=by
 obtain⟨e1,e2⟩:=W_a R none t;refine⟨by rw [e1];exact hR.key,by rw [e2];exact hR.cnt,by rw [N_a];exact hR.blk.ins ht hc,by rw [r_a];simpa using hR.nd,fun m=>?_⟩;rw [r_a,N_a,g_f,List.append_nil,hR.tk];constructor
 ·exact .inr
 ·rintro (⟨h1,rfl⟩|h)
  ·exact (hR.tk _).1 (hp h1)
  ·exact h
theorem RootOk.putSome {n a:Nat} {R:RootS} (hR:RootOk n a R) {t:Tr} (ht:Good n t) (hc:∀b∈R.blocks,X_ t b=false) (hp:t.paged=true) (hn:(tab? R.tabs t.mib).isSome=false) (T:Nat) (f:Bool):RootOk n a (v_c R (some (T,f)) t):=by
 obtain⟨e1,e2⟩:=W_a R (some (T,f)) t;refine⟨by rw [e1];exact hR.key,by rw [e2];exact hR.cnt,by rw [N_a];exact hR.blk.ins ht hc,?_,fun m=>?_⟩
 ·rw [r_a,List.map_append,List.nodup_append];refine⟨hR.nd,by simp,fun x hx y hy e=>?_⟩;simp only [List.map_cons,List.map_nil,List.mem_singleton] at hy;subst hy;subst e;rw [tab_isSome.2 hx] at hn;cases hn
 ·rw [r_a,N_a,g_f,Z_f,Bool.or_eq_true,hR.tk,tab_isSome];simp only [List.map_cons,List.map_nil,List.mem_singleton];constructor
  ·rintro (h|h)
   ·exact .inr h
   ·exact .inl ⟨hp,h.symm⟩
  ·rintro (h|h)
   ·exact .inr h.2.symm
   ·exact .inl h
theorem l_e {n a:Nat} {R:RootS} {M:Mst} {p0 p:Pool} {l0 l:List Qr} {ts:List Tr} {got:List (Nat×Nat×Bool)} {mine:List (Nat×Nat)} (h:TakeI R.tabs p0 l0 ts got mine p l) (hR:RootOk n a R)
  (hg:∀t∈ts,Good n t) (hc:∀t∈ts,∀b∈R.blocks,X_ t b=false) (hp:ts.Pairwise fun a b=>X_ b a=false) :
  ∀more,(∀g∈more,ts.length≤g.1)→RootOk n a (V_b a (got++more) ts 0 (R,M)).1∧(V_b a (got++more) ts 0 (R,M)).1.tabs=R.tabs++mine∧(V_b a (got++more) ts 0 (R,M)).1.blocks.Perm (ts++R.blocks) ∧
   (V_b a (got++more) ts 0 (R,M)).1.first=R.first:=by
 induction h with
 | nil=>intro more _;exact⟨hR,by simp [V_b],by simp [V_b],rfl⟩
 | @skip ts got mine p l t h hn ih =>
  intro more hm;have hm':∀g∈more,ts.length≤g.1:=fun g hg=>by have:=hm g hg;simp at this;omega
  have hpp:=List.pairwise_append.1 hp;obtain⟨k1,k2,k3,k4⟩:=ih (fun t ht=>hg t (by simp [ht])) (fun t ht=>hc t (by simp [ht])) hpp.1 more hm';rw [Z_b];have hgn:got? (got++more) (0+ts.length)=none:=by
   rw [Nat.zero_add];exact Z_c fun g hg=>by
    rcases List.mem_append.1 hg with hg|hg
    ·have:=h.idx g hg;omega
    ·have:=hm g hg;simp at this;omega
  rw [hgn];dsimp only;have ht:=hg t (by simp);have hct:∀b∈(V_b a (got++more) ts 0 (R,M)).1.blocks,X_ t b=false:=fun b hb=>by
   rcases List.mem_append.1 (k3.mem_iff.1 hb) with hb|hb
   ·exact hpp.2.2 b hb t (by simp)
   ·exact hc t (by simp) b hb
  refine⟨k1.putNone ht hct fun hpg=>?_,by rw [r_a,k2];simp,?_,by rw [(W_a _ _ _).1];exact k4⟩
  ·rw [k2];rw [U_a,hpg] at hn;simpa using hn
  ·rw [N_a];refine (X_a _ _ _).trans ((k3.cons t).trans ?_);rw [List.append_assoc];exact List.perm_middle.symm
 | @one ts got mine p p' l l' t r h hn ho hs ih =>
  intro more hm;have hm':∀g∈(ts.length,r,!decide (r/4∈l.map Qr.f)) :: more,ts.length≤g.1:=fun g hg=>by
   rcases List.mem_cons.1 hg with rfl|hg
   ·exact Nat.le_refl _
   ·have:=hm g hg;simp at this;omega
  have hpp:=List.pairwise_append.1 hp;obtain⟨k1,k2,k3,k4⟩:=ih (fun t ht=>hg t (by simp [ht])) (fun t ht=>hc t (by simp [ht])) hpp.1 _ hm';rw [List.append_assoc,List.singleton_append,Z_b];have hgn:got? (got++(ts.length,r,!decide (r/4∈l.map Qr.f)) :: more) (0+ts.length)=some (r,!decide (r/4∈l.map Qr.f)):=by
   rw [Nat.zero_add];have:got++(ts.length,r,!decide (r/4∈l.map Qr.f)) :: more=(got++[(ts.length,r,!decide (r/4∈l.map Qr.f))])++more:=by simp
   rw [this,p_d (fun g hg=>by have:=hm g hg;simp at this;omega),G_g,Z_c fun g hg=>by have:=h.idx g hg;omega];simp
  rw [hgn];dsimp only;have ht:=hg t (by simp);have hct:∀b∈(V_b a (got++(ts.length,r,!decide (r/4∈l.map Qr.f)) :: more) ts 0 (R,M)).1.blocks,X_ t b=false:=fun b hb=>by
   rcases List.mem_append.1 (k3.mem_iff.1 hb) with hb|hb
   ·exact hpp.2.2 b hb t (by simp)
   ·exact hc t (by simp) b hb
  rw [U_a] at hn;simp only [Bool.and_eq_true,Bool.not_eq_true'] at hn;refine⟨k1.putSome ht hct hn.1 (by rw [k2];exact hn.2) _ _,by rw [r_a,k2];simp,?_,by rw [(W_a _ _ _).1];exact k4⟩
  ·rw [N_a];refine (X_a _ _ _).trans ((k3.cons t).trans ?_);rw [List.append_assoc];exact List.perm_middle.symm
theorem put_pre {n a fr:Nat} {G O:List Nat} {R:RootS} {M:Mst} {p0 p:Pool} {l0 l:List Qr} {ts:List Tr} {got:List (Nat×Nat×Bool)} {mine:List (Nat×Nat)} (hn:1≤n∧n≤7) (hfr:fr≤65536) (hX:XI fr G O p0 l0 R.tabs) (hR:RootOk n a R) (hf:R.first+R.count≤fr)
  (hmay:MayE n R.blocks ts 0) (h:TakeI R.tabs p0 l0 ts got mine p l):∀i t,ts[i]?=some t→PutPre fr a (V_b a got (ts.take i) 0 (R,M)).1 (got? got i) t:=by
 intro i t hi;obtain⟨m1,m2,m3⟩:=J_d hmay;obtain⟨g1,mine1,p1,l1,more,k1,k2,k3,k4⟩:=h.at i t hi;have hil:=(List.getElem?_eq_some_iff.1 hi).1;have htm:=List.mem_of_getElem? hi;have htl:(ts.take i).length=i:=by rw [List.length_take];omega
 obtain⟨r1,r2,r3,r4⟩:=l_e (M:=M) k1 hR (fun t ht=>m1 t (List.mem_of_mem_take ht)) (fun t ht=>m2 t (List.mem_of_mem_take ht)) (m3.sublist (List.take_sublist _ _)) more (fun g hg=>by rw [htl];exact k3 g hg);rw [←k2] at r1 r2 r3 r4;obtain⟨x1,x2,x3⟩:=k1.xi hX hfr;have hgt:=m1 t htm;have hcn:=hR.cnt;have hbl:=r1.blk;have key:∀(g:Option (Nat×Bool)) (p2:Pool) (l2:List Qr),XI fr G O p2 l2 (d_a (V_b a got (ts.take i) 0 (R,M)).1 g t).tabs→(d_a (V_b a got (ts.take i) 0 (R,M)).1 g t).first=(V_b a got (ts.take i) 0 (R,M)).1.first →
   (t.paged=true→(tab? (d_a (V_b a got (ts.take i) 0 (R,M)).1 g t).tabs t.mib).isSome=true)→(∀T f,g=some (T,f)→tab? (V_b a got (ts.take i) 0 (R,M)).1.tabs t.mib=none∧T<4*fr∧wErr fr (a+4*t.mib)=0) →
   PutPre fr a (V_b a got (ts.take i) 0 (R,M)).1 g t:=fun g p2 l2 hx2 hfi hpg htab =>
  ⟨hgt.right,hgt.wf hn,htab,K_i hn (by rw [hfi];exact r1.key) (by rw [hfi,r4,←hcn];exact hf) hgt (fun hp=>by obtain⟨T,hT⟩:=x_h (hpg hp);exact⟨T,hT,hx2.tl hT⟩),
   fun v hv=>by have:=hx2.tl hv;omega,hbl.sorted,fun b hb=>(hbl.good b hb).wf hn,by have:=hbl.len hn;omega⟩
 rcases k4 with ⟨n1,n2⟩|⟨n1,r,f,p2,l2,n2,n3⟩
 ·rw [n2];refine key none p1 l1 (by show XI fr G O p1 l1 (V_b a got (ts.take i) 0 (R,M)).1.tabs;rw [r2];exact x1) rfl (fun hp=>?_) (fun T f h=>by cases h);show (tab? (V_b a got (ts.take i) 0 (R,M)).1.tabs t.mib).isSome=true;rw [U_a,hp] at n1;rw [r2];simpa using n1
 ·rw [n3];rw [U_a] at n1;simp only [Bool.and_eq_true,Bool.not_eq_true'] at n1;have hk:=TakeI.one (t:=t) k1 (by rw [U_a];simp [n1.1,n1.2]) x1.ok n2;obtain⟨y1,y2,y3⟩:=hk.xi hX hfr;have htabs:(d_a (V_b a got (ts.take i) 0 (R,M)).1 (some (r,f)) t).tabs=R.tabs++(mine1++[(t.mib,r)]):=by
   show (V_b a got (ts.take i) 0 (R,M)).1.tabs++[(t.mib,r)]=_;rw [r2,List.append_assoc]
  refine key (some (r,f)) p2 l2 (by rw [htabs];exact y1) rfl (fun hp=>?_) (fun T f' h=>?_)
  ·rw [htabs,tab_isSome];simp
  ·injection h with h;injection h with h1 h2
   subst h1 h2;refine⟨by rw [r2];exact y_h n1.2,?_,F_g hR hf (hgt.mib hn)⟩;refine y1.tab_lt (y1.tb.mem_iff.1 ?_);simp
theorem l_d {l:List Tr} {t:Tr} (h:t∈l):∃i:Nat,l[i]?=some t:=by
 obtain⟨i,hi,rfl⟩:=List.getElem_of_mem h;exact⟨i,List.getElem?_eq_getElem hi⟩
theorem b_c {n a:Nat} {R:RootS} (hR:RootOk n a R) {t:Tr} (ht:t∈R.blocks) {b:Tr}:b∈(K_e R t).blocks↔b∈R.blocks∧b.va≠t.va:=by
 obtain⟨i,hi⟩:=l_d ht;have hs:=hR.blk.sorted;unfold K_e;dsimp only;rw [J_c hs hi];exact i_k hs hi
theorem y_c {n:Nat} {l:List Tr} (h:BlkOk n l) {a b:Tr} (ha:a∈l) (hb:b∈l) (e:a.va=b.va):a=b:=by
 obtain⟨i,hi⟩:=l_d ha;obtain⟨j,hj⟩:=l_d hb;have h1:=J_c h.sorted hi;have h2:=J_c h.sorted hj;rw [e,h2] at h1;injection h1 with h1 _
 rw [h1,hi] at hj;exact Option.some.inj hj
theorem mem_untab {l:List (Nat×Nat)} {m k:Nat}:(tab? (l.filter fun x=>decide (x.1≠m)) k).isSome=true↔k≠m∧(tab? l k).isSome=true:=by
 rw [tab_isSome,tab_isSome];simp only [List.mem_map,List.mem_filter,decide_eq_true_eq];constructor
 ·rintro ⟨x,⟨h1,h2⟩,rfl⟩;exact⟨h2,x,h1,rfl⟩
 ·rintro ⟨h,x,h1,rfl⟩;exact⟨x,⟨h1,h⟩,rfl⟩
theorem m_i {l:List (Nat×Nat)} (hnd:(l.map (·.1)).Nodup) {m T:Nat} (h:(m,T)∈l):l.Perm ((m,T) :: l.filter fun x=>decide (x.1≠m)):=by
 induction l with
 | nil=>simp at h
 | cons x r ih =>
  rw [List.map_cons,List.nodup_cons] at hnd;by_cases e:x.1=m
  ·have hx:x=(m,T):=by
    rcases List.mem_cons.1 h with h|h
    ·exact h.symm
    ·exact absurd (List.mem_map.2 ⟨_,h,e.symm⟩) hnd.1
   have hr:(x :: r).filter (fun x=>decide (x.1≠m))=r:=by
    rw [List.filter_cons,if_neg (by simp [e]),List.filter_eq_self];intro y hy;have:y.1≠m:=fun h=>hnd.1 (List.mem_map.2 ⟨y,hy,by rw [h,e]⟩);simpa using this
   rw [hr,hx]
  ·have hm:(m,T)∈r:=by
    rcases List.mem_cons.1 h with h|h
    ·exact absurd (by rw [←h]) e
    ·exact h
   rw [List.filter_cons,if_pos (by simpa using e)];exact ((ih hnd.2 hm).cons x).trans (List.Perm.swap _ _ _)
theorem XI.drop {fr:Nat} {G O:List Nat} {p p':Pool} {l l':List Qr} {ts:List (Nat×Nat)} (h:XI fr G O p l ts) (hnd:(ts.map (·.1)).Nodup) {m T e:Nat} (hT:tab? ts m=some T) (hd:SDrop p l (T:Int) e p' l') :
  e=0∧XI fr G O p' l' (ts.filter fun x=>decide (x.1≠m))∧p'.first=p.first∧p'.u.length=p.u.length:=by
 obtain⟨k1,k2,k3,k4,k5,k6⟩:=hd.acc h.ok h.acc (h.mem hT);refine⟨k1,⟨k3,k2,?_,by have:=h.lt;omega⟩,k4,k5⟩;have e1:=((m_i hnd (d_d hT)).map (·.2)).append_right O;have e2:=(e1.symm.trans h.tb).trans k6;exact e2.cons_inv
theorem u_g {l:List (Nat×Nat)} (h:(l.map (·.1)).Nodup) (m:Nat):((l.filter fun x=>decide (x.1≠m)).map (·.1)).Nodup:=h.sublist ((List.filter_sublist).map _)
theorem n_d {l:List Tr} {t:Tr}:H_e l t=true↔t.paged=true∧∀b∈l,¬(b.paged=true∧b.mib=t.mib):=by
 unfold H_e;rw [Bool.and_eq_true,Bool.not_eq_true',List.any_eq_false];simp only [Bool.and_eq_true,decide_eq_true_eq]
theorem CutStep.ok {n a fr:Nat} {G O:List Nat} {asid:Int} {t:Tr} {x y:Xs} (h:CutStep a asid t x y) (hR:RootOk n a x.R) (hX:XI fr G O x.p x.l x.R.tabs) (ht:t∈x.R.blocks) :
  RootOk n a y.R∧XI fr G O y.p y.l y.R.tabs∧y.R.blocks=(K_e x.R t).blocks∧y.R.first=x.R.first∧y.p.first=x.p.first∧y.p.u.length=x.p.u.length:=by
 have hbl:BlkOk n (K_e x.R t).blocks:=hR.blk.sub (List.eraseIdx_sublist _ _);cases h with
 | keep h =>
  refine⟨⟨hR.key,hR.cnt,hbl,hR.nd,fun m=>?_⟩,hX,rfl,rfl,rfl,rfl⟩;show (tab? x.R.tabs m).isSome=true↔∃b∈(K_e x.R t).blocks,b.paged=true∧b.mib=m;rw [hR.tk];constructor
  ·rintro ⟨b,hb,hp,rfl⟩;by_cases e:b.va=t.va
   ·have:=y_c hR.blk hb ht e;subst this;have h2:¬(H_e (K_e x.R b).blocks b=true):=by rw [h];decide
    rw [n_d] at h2;obtain⟨c,hc⟩:=Classical.not_forall.1 (fun hh=>h2 ⟨hp,hh⟩);obtain⟨hc1,hc2⟩:=Classical.not_imp.1 hc;have hc3:=Classical.not_not.1 hc2;exact⟨c,hc1,hc3⟩
   ·exact⟨b,(b_c hR ht).2 ⟨hb,e⟩,hp,rfl⟩
  ·rintro ⟨b,hb,h⟩;exact⟨b,((b_c hR ht).1 hb).1,h⟩
 | shut h T e p' l' hT hd =>
  obtain⟨k1,k2,k3,k4⟩:=hX.drop hR.nd hT hd;refine⟨⟨hR.key,hR.cnt,hbl,u_g hR.nd _,fun m=>?_⟩,k2,rfl,rfl,k3,k4⟩;show (tab? (x.R.tabs.filter fun x=>decide (x.1≠t.mib)) m).isSome=true↔∃b∈(K_e x.R t).blocks,b.paged=true∧b.mib=m;rw [mem_untab,hR.tk];rw [n_d] at h;constructor
  ·rintro ⟨hne,b,hb,hp,rfl⟩;refine⟨b,(b_c hR ht).2 ⟨hb,fun e=>hne ?_⟩,hp,rfl⟩;rw [y_c hR.blk hb ht e]
  ·rintro ⟨b,hb,hp,rfl⟩;exact⟨fun e=>h.2 b hb ⟨hp,e⟩,b,((b_c hR ht).1 hb).1,hp,rfl⟩
theorem l_h {n a fr:Nat} {G O:List Nat} {asid:Int} {x y:Xs} {ts:List Tr} (h:CutRun a asid x ts y) (hR:RootOk n a x.R) (hX:XI fr G O x.p x.l x.R.tabs) :
  ∀rest,(∀t∈ts++rest,t∈x.R.blocks)→((ts++rest).map (·.va)).Nodup→RootOk n a y.R∧XI fr G O y.p y.l y.R.tabs∧(∀t∈rest,t∈y.R.blocks)∧(∀t,t∈y.R.blocks↔t∈x.R.blocks∧t∉ts)∧y.R.first=x.R.first ∧
   y.p.first=x.p.first∧y.p.u.length=x.p.u.length:=by
 induction h with
 | nil=>intro rest h1 _;exact⟨hR,hX,fun t ht=>h1 t (by simp [ht]),fun t=>by simp,rfl,rfl,rfl⟩
 | @snoc ts y z t h hs ih =>
  intro rest h1 h2;obtain⟨k1,k2,k3,k4,k5,k6,k7⟩:=ih (t :: rest) (fun u hu=>h1 u (by simpa using hu)) (by simpa using h2);obtain⟨s1,s2,s3,s4,s5,s6⟩:=hs.ok k1 k2 (k3 t (by simp));have hmem:∀b,b∈z.R.blocks↔b∈y.R.blocks∧b.va≠t.va:=fun b=>by rw [s3];exact b_c k1 (k3 t (by simp))
  refine⟨s1,s2,fun u hu=>(hmem u).2 ⟨k3 u (by simp [hu]),fun e=>?_⟩,fun u=>?_,by omega,by omega,by omega⟩
  ·simp only [List.map_append,List.map_cons,List.map_nil,List.append_assoc,List.singleton_append] at h2;have:=(List.nodup_append.1 h2).2.1;rw [List.nodup_cons] at this;exact this.1 (List.mem_map.2 ⟨u,hu,e⟩)
  ·rw [hmem,k4];have htx:=h1 t (by simp);constructor
   ·rintro ⟨⟨h3,h4⟩,h5⟩;exact⟨h3,fun h=>by
     rcases List.mem_append.1 h with h|h
     ·exact h4 h
     ·rw [List.mem_singleton.1 h] at h5;exact h5 rfl⟩
   ·rintro ⟨h3,h4⟩;refine⟨⟨h3,fun h=>h4 (by simp [h])⟩,fun e=>h4 ?_⟩;rw [y_c hR.blk h3 htx e];simp
theorem m_h {n a fr:Nat} {G O:List Nat} {R:RootS} {p:Pool} {l:List Qr} (hn:1≤n∧n≤7) (hfr:fr≤65536) (hX:XI fr G O p l R.tabs) (hR:RootOk n a R) (hf:R.first+R.count≤fr) {t:Tr} (ht:t∈R.blocks):CutPre fr a R t:=by
 have hg:=hR.blk.good t ht;obtain⟨i,hi⟩:=l_d ht;exact⟨D_d hg,hg.wf hn,fun v hv=>by have:=hX.tl hv;omega,K_i hn hR.key (by rw [←hR.cnt];exact hf) hg (fun hp=>by obtain⟨T,hT⟩:=hR.paged ht hp;exact⟨T,hT,hX.tl hT⟩),
  hR.blk.sorted,fun b hb=>(hR.blk.good b hb).wf hn,by have:=hR.blk.len hn;omega,by rw [J_c hR.blk.sorted hi];exact (List.getElem?_eq_some_iff.1 hi).1,fun hp=>hR.paged ht hp,F_g hR hf (hg.mib hn)⟩
theorem chg_pre {n a fr:Nat} {G O:List Nat} {R:RootS} {p:Pool} {l:List Qr} (hn:1≤n∧n≤7) (hfr:fr≤65536) (hX:XI fr G O p l R.tabs) (hR:RootOk n a R) (hf:R.first+R.count≤fr) {t:Tr} (ht:t∈R.blocks):ChgPre fr a R t:=by
 have h:=m_h hn hfr hX hR hf ht;exact⟨h.reps,h.wf,h.tl,h.place,h.sorted,h.wfs,h.len,h.ix⟩
theorem zero_pre {n a fr:Nat} {G O:List Nat} {R:RootS} {p:Pool} {l:List Qr} (hn:1≤n∧n≤7) (hfr:fr≤65536) (hX:XI fr G O p l R.tabs) (hR:RootOk n a R) (hf:R.first+R.count≤fr) {t:Tr} (ht:t∈R.blocks):ZeroPre fr a R t:=by
 have h:=m_h hn hfr hX hR hf ht;exact⟨h.reps,h.wf,h.tl,h.place⟩
theorem r_e {n:Nat} {t:Tr} {asid ap:Int} {bits:Nat} {ng xn:Bool} (h:Good n t) (hb:¬g_c asid ap bits ng):Good n (t.leaf ap bits ng xn):=by
 unfold g_c at hb;have hng:ng=true:=by
  cases ng
  ·exact absurd (Or.inr (Or.inr (Or.inr (Or.inr (Or.inr rfl))))) hb
  ·rfl
 refine⟨?_,hng,h.en⟩;have hr:=h.right;simp only [not_or,Int.not_lt,Nat.not_lt] at hb;obtain⟨_,_,b1,b2,b3,_⟩:=hb;unfold Tr.right V_f v_g at hr ⊢;simp only [Bool.and_eq_true,decide_eq_true_eq] at hr;simp only [Bool.and_eq_true,decide_eq_true_eq];exact⟨hr.1,hr.2.1,⟨(by omega:ap≥0),(by omega:ap≤7)⟩,(by omega:bits≤63)⟩
theorem o_h {n a:Nat} {R:RootS} (hR:RootOk n a R) {t t':Tr} (ht:t∈R.blocks) (hg:Good n t') (hv:t'.va=t.va) (hz:t'.size=t.size) (hd:t'.dom=t.dom) :
  RootOk n a (W_g R t t')∧∀b,b∈(W_g R t t').blocks↔b=t'∨(b∈R.blocks∧b.va≠t.va):=by
 obtain⟨i,hi⟩:=l_d ht;have hil:=(List.getElem?_eq_some_iff.1 hi).1;have e:(W_g R t t').blocks=R.blocks.set i t':=by
  unfold W_g;dsimp only;rw [J_c hR.blk.sorted hi]
 have hbl:BlkOk n (R.blocks.set i t'):=hR.blk.set hi hg hv hz hd;have hmem:∀b,b∈R.blocks.set i t'↔b=t'∨(b∈R.blocks∧b.va≠t.va):=fun b=>by
  have hi2:(R.blocks.set i t')[i]?=some t':=by simp [hil]
  constructor
  ·intro hb;rcases List.mem_or_eq_of_mem_set hb with h|h
   ·by_cases e:b.va=t.va
    ·exact .inl (y_c hbl hb (List.mem_of_getElem? hi2) (by rw [e,hv]))
    ·exact .inr ⟨h,e⟩
   ·exact .inl h
  ·rintro (rfl|⟨h1,h2⟩)
   ·exact List.mem_of_getElem? hi2
   ·obtain⟨j,hj⟩:=l_d h1;refine List.mem_of_getElem? (i:=j) ?_;rw [List.getElem?_set,if_neg (fun e=>h2 ?_)]
    ·exact hj
    ·subst e;rw [hi] at hj;injection hj with hj;rw [hj]
 refine⟨⟨hR.key,hR.cnt,by rw [e];exact hbl,hR.nd,fun m=>?_⟩,fun b=>by rw [e];exact hmem b⟩;show (tab? R.tabs m).isSome=true↔∃b∈(W_g R t t').blocks,b.paged=true∧b.mib=m;rw [e,hR.tk];have hpg:t'.paged=t.paged∧t'.mib=t.mib:=by unfold Tr.paged Tr.mib;rw [hz,hv];exact⟨rfl,rfl⟩
 constructor
 ·rintro ⟨b,hb,h1,h2⟩;by_cases e:b.va=t.va
  ·have:=y_c hR.blk hb ht e;subst this;exact⟨t',(hmem _).2 (.inl rfl),by rw [hpg.1];exact h1,by rw [hpg.2];exact h2⟩
  ·exact⟨b,(hmem _).2 (.inr ⟨hb,e⟩),h1,h2⟩
 ·rintro ⟨b,hb,h1,h2⟩;rcases (hmem _).1 hb with rfl|⟨hb,_⟩
  ·exact⟨t,ht,by rw [←hpg.1];exact h1,by rw [←hpg.2];exact h2⟩
  ·exact⟨b,hb,h1,h2⟩
theorem r_k {n a:Nat} {asid:Int} {f:Tr→Tr} (hf:∀t,Good n t→Good n (f t)) (hv:∀t,(f t).va=t.va) (hz:∀t,(f t).size=t.size) (hd:∀t,(f t).dom=t.dom) :
  ∀(ts:List Tr) (s:RootS×Mst),RootOk n a s.1→(∀t∈ts,t∈s.1.blocks)→(ts.map (·.va)).Nodup→RootOk n a (L_e a asid f ts s).1∧(L_e a asid f ts s).1.tabs=s.1.tabs∧(L_e a asid f ts s).1.first=s.1.first ∧
   (∀b,b∈(L_e a asid f ts s).1.blocks↔(b∈s.1.blocks∧b∉ts)∨∃t∈ts,b=f t)
 | [],s,hR,_,_=>⟨hR,rfl,rfl,fun b=>by simp [L_e]⟩
 | t :: r,s,hR,hm,hnd=>by
  have ht:=hm t (by simp);obtain⟨k1,k2⟩:=o_h hR (t':=f t) ht (hf t (hR.blk.good t ht)) (hv t) (hz t) (hd t);rw [List.map_cons,List.nodup_cons] at hnd;have hne:∀u∈r,u.va≠t.va:=fun u hu e=>hnd.1 (List.mem_map.2 ⟨u,hu,e⟩);obtain⟨m1,m2,m3,m4⟩:=r_k hf hv hz hd r (W_g s.1 t (f t),chgM a asid s.1 s.2 t (f t)) k1 (fun u hu=>(k2 u).2 (.inr ⟨hm u (by simp [hu]),hne u hu⟩)) hnd.2;refine⟨m1,m2,m3,fun b=>?_⟩;show b∈(L_e a asid f r (W_g s.1 t (f t),chgM a asid s.1 s.2 t (f t))).1.blocks↔_;rw [m4];dsimp only;rw [k2];constructor
  ·rintro (⟨h1|⟨h1,h2⟩,h3⟩|⟨u,hu,h⟩)
   ·exact .inr ⟨t,by simp,h1⟩
   ·refine .inl ⟨h1,fun h=>?_⟩;rcases List.mem_cons.1 h with h|h
    ·rw [h] at h2;exact h2 rfl
    ·exact h3 h
   ·exact .inr ⟨u,by simp [hu],h⟩
  ·rintro (⟨h1,h2⟩|⟨u,hu,h⟩)
   ·refine .inl ⟨.inr ⟨h1,fun e=>h2 ?_⟩,fun h=>h2 (by simp [h])⟩;rw [y_c hR.blk h1 ht e];simp
   ·rcases List.mem_cons.1 hu with rfl|hu
    ·refine .inl ⟨.inl h,fun hb=>?_⟩;have:=hne b hb;rw [h,hv] at this;exact this rfl
    ·exact .inr ⟨u,hu,h⟩
theorem U_e {n a fr:Nat} {G O:List Nat} {x y:Xs} {ms:List Nat} (h:ShutRun a x ms y) (hnd:(x.R.tabs.map (·.1)).Nodup) (hX:XI fr G O x.p x.l x.R.tabs) :
  (y.R.tabs.map (·.1)).Nodup∧XI fr G O y.p y.l y.R.tabs∧y.R.first=x.R.first∧y.R.count=x.R.count∧y.p.first=x.p.first∧y.p.u.length=x.p.u.length∧∀k,(tab? y.R.tabs k).isSome=true↔(tab? x.R.tabs k).isSome=true∧k∉ms:=by
 induction h with
 | nil=>exact⟨hnd,hX,rfl,rfl,rfl,rfl,fun k=>by simp⟩
 | @snoc ms y m T e p' l' h hT hd ih =>
  obtain⟨k1,k2,k3,k3',k4,k5,k6⟩:=ih;obtain⟨s1,s2,s3,s4⟩:=k2.drop k1 hT hd;refine⟨u_g k1 _,s2,k3,k3',by dsimp only;omega,by dsimp only;omega,fun k=>?_⟩;show (tab? (y.R.tabs.filter fun x=>decide (x.1≠m)) k).isSome=true↔_;rw [mem_untab,k6,List.mem_append,List.mem_singleton];constructor
  ·rintro ⟨h1,h2,h3⟩;exact⟨h2,fun h=>h.elim h3 h1⟩
  ·rintro ⟨h1,h2⟩;exact⟨fun e=>h2 (.inr e),h1,fun h=>h2 (.inl h)⟩
theorem shut_pre {n a fr:Nat} {G O:List Nat} {x y:Xs} {ms:List Nat} {m:Nat} (hn:1≤n∧n≤7) (hfr:fr≤65536) (h:ShutRun a x ms y) (hR:RootOk n a x.R) (hf:x.R.first+x.R.count≤fr) (hX:XI fr G O x.p x.l x.R.tabs)
  (hp:∃rest,(ms++m :: rest).Perm (x.R.tabs.map (·.1))):∃T,tab? y.R.tabs m=some T∧T<2^30∧wErr fr (a+4*m)=0:=by
 obtain⟨rest,hp⟩:=hp;obtain⟨k1,k2,k3,k3',k4,k5,k6⟩:=U_e (n:=n) h hR.nd hX;have hnd:=hp.nodup_iff.2 hR.nd;have hm:m∉ms:=fun h=>(List.nodup_append.1 hnd).2.2 m h m (by simp) rfl;have hm2:(tab? x.R.tabs m).isSome=true:=tab_isSome.2 (hp.mem_iff.1 (by simp));obtain⟨T,hT⟩:=x_h ((k6 m).2 ⟨hm2,hm⟩);obtain⟨t,ht,hpg,hmb⟩:=(hR.tk m).1 hm2;exact⟨T,hT,by have:=k2.tl hT;omega,F_g hR hf (by rw [←hmb];exact (hR.blk.good t ht).mib hn)⟩
theorem o_i {n a:Nat} {R:RootS} (hn:1≤n∧n≤7) (hR:RootOk n a R):R.tabs.length≤1000000∧∀x∈R.tabs,x.1<4096:=by
 have h:∀x∈R.tabs,x.1<4096:=fun x hx=>by
  obtain⟨t,ht,hpg,hmb⟩:=(hR.tk x.1).1 (tab_isSome.2 (List.mem_map.2 ⟨x,hx,rfl⟩));have:=(hR.blk.good t ht).mib hn;have h2:Go.Proofs.YtmgjicnipgdjhaaGreatDoor.cnt n≤2:=by unfold Go.Proofs.YtmgjicnipgdjhaaGreatDoor.cnt;split<;>omega
  omega
 refine⟨?_,h⟩;have:=O_i hR.nd (N:=4096) fun m hm=>by
  obtain⟨x,hx,rfl⟩:=List.mem_map.1 hm;exact h x hx
 rw [List.length_map] at this;omega
def q_a (l:List (Nat×RootS)):List Nat:=l.flatMap fun x=>E_e x.2.first x.2.count
def rootT (l:List (Nat×RootS)):List Nat:=l.flatMap fun x=>x.2.tabs.map (·.2)
def E_a (l:List (Nat×Nat)):List Nat:=l.flatMap fun x=>E_e x.1 x.2
structure Inv (fr n:Nat) (tk:List (Nat×Nat)) (S:St):Prop where
 ok:SlabOk S.l
 acc:Acc S.p (S.l.map Qr.f++(q_a S.roots++E_a tk))
 tb:(rootT S.roots).Perm (tabs S.l)
 lt:S.p.first+S.p.u.length≤fr
 root:∀x∈S.roots,RootOk n x.1 x.2
 nd:(S.roots.map (·.1)).Nodup
 tk1:∀r∈tk,1≤r.2
theorem q_d (n:Nat):1≤cnt n∧cnt n≤2:=by unfold cnt;split<;>omega
theorem U_f {l:List (Nat×RootS)} {a:Nat} (h:a∉l.map (·.1)):l.filter (fun x=>decide (x.1≠a))=l:=by
 rw [List.filter_eq_self];intro y hy;have:y.1≠a:=fun e=>h (List.mem_map.2 ⟨y,hy,e⟩);simpa using this
theorem a_g {l:List (Nat×RootS)} {a:Nat} {R:RootS} (h:a∉l.map (·.1)):G_a l a R=l:=by
 unfold G_a;have e:l.map (fun x=>if x.1=a then (a,R) else x)=l.map id:=List.map_congr_left fun x hx=>if_neg fun e=>h (List.mem_map.2 ⟨x,hx,e⟩);rw [e,List.map_id]
theorem j_a {l:List (Nat×RootS)} (hnd:(l.map (·.1)).Nodup) {a:Nat} {R:RootS} (R':RootS) (hm:(a,R)∈l):l.Perm ((a,R) :: l.filter fun x=>decide (x.1≠a))∧(G_a l a R').Perm ((a,R') :: l.filter fun x=>decide (x.1≠a)):=by
 induction l with
 | nil=>simp at hm
 | cons x r ih =>
  rw [List.map_cons,List.nodup_cons] at hnd;by_cases e:x.1=a
  ·have hx:x=(a,R):=by
    rcases List.mem_cons.1 hm with h|h
    ·exact h.symm
    ·exact absurd (List.mem_map.2 ⟨_,h,e.symm⟩) hnd.1
   subst hx;have hr:((a,R) :: r).filter (fun x=>decide (x.1≠a))=r:=by
    rw [List.filter_cons,if_neg (by simp),U_f hnd.1]
   have hu:G_a ((a,R) :: r) a R'=(a,R') :: r:=by
    have:G_a ((a,R) :: r) a R'=(a,R') :: G_a r a R':=by
     unfold G_a;rw [List.map_cons,if_pos rfl]
    rw [this,a_g hnd.1]
   rw [hr,hu];exact⟨List.Perm.refl _,List.Perm.refl _⟩
  ·have hm2:(a,R)∈r:=by
    rcases List.mem_cons.1 hm with h|h
    ·exact absurd (by rw [←h]) e
    ·exact h
   have hu:G_a (x :: r) a R'=x :: G_a r a R':=by
    unfold G_a;rw [List.map_cons,if_neg e]
   rw [List.filter_cons,if_pos (by simpa using e),hu];obtain⟨k1,k2⟩:=ih hnd.2 hm2;exact⟨(k1.cons x).trans (List.Perm.swap _ _ _),(k2.cons x).trans (List.Perm.swap _ _ _)⟩
theorem A_b {l l':List (Nat×RootS)} (h:l.Perm l'):(q_a l).Perm (q_a l'):=h.flatMap_right _
theorem g_d {l l':List (Nat×RootS)} (h:l.Perm l'):(rootT l).Perm (rootT l'):=h.flatMap_right _
theorem U_c (x:Nat×RootS) (l:List (Nat×RootS)):q_a (x :: l)=E_e x.2.first x.2.count++q_a l:=List.flatMap_cons
theorem h_d (x:Nat×RootS) (l:List (Nat×RootS)):rootT (x :: l)=x.2.tabs.map (·.2)++rootT l:=List.flatMap_cons
theorem Inv.held {fr n:Nat} {tk:List (Nat×Nat)} {S:St} (h:Inv fr n tk S):t_c S.p S.l:=h.acc.held
theorem Inv.frames {fr n:Nat} {tk:List (Nat×Nat)} {S:St} (h:Inv fr n tk S) {a:Nat} {R:RootS} (hm:(a,R)∈S.roots):R.first+R.count≤fr∧S.p.first≤R.first:=by
 have hR:=h.root _ hm;have hc:=q_d n;have hcc:=hR.cnt;dsimp only at hcc;have hin:∀x,R.first≤x→x<R.first+R.count→S.p.first≤x∧x<S.p.first+S.p.u.length:=fun x h1 h2=>h.acc.rg x (List.mem_append.2 (.inr (List.mem_append.2 (.inl (List.mem_flatMap.2 ⟨_,hm,mem_span.2 ⟨h1,h2⟩⟩)))))
 have h1:=hin R.first (Nat.le_refl _) (by omega)
 have h2:=hin (R.first+R.count-1) (by omega) (by omega);have:=h.lt;omega
theorem Inv.small {fr n:Nat} {tk:List (Nat×Nat)} {S:St} (h:Inv fr n tk S) (hfr:fr≤65536) {a:Nat} {R:RootS} (hm:(a,R)∈S.roots):a<2^28∧R.first<65536∧R.count≤2:=by
 have hR:=h.root _ hm;have h1:=(h.frames hm).1;have hk:=hR.key;have hcc:=hR.cnt;have hc:=q_d n;dsimp only at hk hcc;omega
theorem Inv.rootsLen {fr n:Nat} {tk:List (Nat×Nat)} {S:St} (h:Inv fr n tk S) (hfr:fr≤65536):S.roots.length≤2^28:=by
 have:=O_i h.nd (N:=2^28) fun a ha=>by
  obtain⟨x,hx,rfl⟩:=List.mem_map.1 ha;exact (h.small hfr (a:=x.1) (R:=x.2) hx).1
 rwa [List.length_map] at this
theorem Inv.std {fr n:Nat} {tk:List (Nat×Nat)} {S:St} (h:Inv fr n tk S) (hn:1≤n∧n≤7):Std n S :=
 ⟨h.ok,fun x hx t ht=>((h.root x hx).blk.good t ht).wf hn,fun x hx=>by have:=(h.root x hx).blk.len hn;omega⟩
theorem Inv.xi {fr n:Nat} {tk:List (Nat×Nat)} {S:St} (h:Inv fr n tk S) {a:Nat} {R:RootS} (hm:(a,R)∈S.roots):XI fr (q_a S.roots++E_a tk) (rootT (S.roots.filter fun x=>decide (x.1≠a))) S.p S.l R.tabs:=by
 refine⟨h.ok,h.acc,?_,h.lt⟩;have:=g_d (j_a h.nd R hm).1;rw [h_d] at this;exact this.symm.trans h.tb
theorem Inv.upd {fr n:Nat} {tk:List (Nat×Nat)} {S:St} (h:Inv fr n tk S) {a:Nat} {R R':RootS} (hm:(a,R)∈S.roots) {p':Pool} {l':List Qr} (M':Mst) (hX:XI fr (q_a S.roots++E_a tk) (rootT (S.roots.filter fun x=>decide (x.1≠a))) p' l' R'.tabs)
  (hR:RootOk n a R') (hf:R'.first=R.first):Inv fr n tk ⟨M',p',l',G_a S.roots a R'⟩:=by
 obtain⟨k1,k2⟩:=j_a h.nd R' hm;have hc:R'.count=R.count:=by rw [hR.cnt];exact (h.root _ hm).cnt.symm
 refine⟨hX.ok,hX.acc.perm ?_,?_,hX.lt,fun x hx=>?_,?_,h.tk1⟩
 ·refine List.Perm.append_left _ (List.Perm.append_right _ ?_);have e1:=A_b k1;have e2:=A_b k2;rw [U_c] at e1 e2;dsimp only at e1 e2;rw [hf,hc] at e2;exact e1.trans e2.symm
 ·have e2:=g_d k2;rw [h_d] at e2;exact e2.trans hX.tb
 ·rcases List.mem_cons.1 (k2.mem_iff.1 hx) with rfl|hx
  ·exact hR
  ·exact h.root x (List.mem_filter.1 hx).1
 ·show ((G_a S.roots a R').map (·.1)).Nodup;rw [b_g];exact h.nd
theorem Inv.mach {fr n:Nat} {tk:List (Nat×Nat)} {S:St} (h:Inv fr n tk S) (M':Mst):Inv fr n tk { S with M:=M' }:=⟨h.ok,h.acc,h.tb,h.lt,h.root,h.nd,h.tk1⟩
theorem Inv.fresh {fr n:Nat} {tk:List (Nat×Nat)} {S:St} (h:Inv fr n tk S):∀r p',PTake S.p (cnt n) (cnt n) r 0 p'→root? S.roots (4096*r)=none∧r+cnt n≤fr:=by
 intro r p' ht;obtain⟨_,_,_,k⟩:=ht.acc h.acc;obtain⟨k1,k2,k3,_⟩:=k rfl;have hc:=q_d n;have hl:=h.lt;refine⟨?_,by omega⟩;cases hx:root? S.roots (4096*r) with
 | none=>rfl
 | some R =>
  have hm:=U_ hx;have hR:=h.root _ hm;have e:R.first=r:=by have:=hR.key;dsimp only at this;omega
  have h2:=hR.cnt;dsimp only at h2;exact absurd rfl ((List.nodup_append.1 k1.nd).2.2 r (mem_span.2 (by omega)) r (List.mem_append.2 (.inr (List.mem_append.2 (.inl (List.mem_flatMap.2 ⟨_,hm,mem_span.2 (by dsimp only;omega)⟩))))))
theorem Inv.rootR {fr n:Nat} {tk:List (Nat×Nat)} {S S':St} {x e:Nat} (h:Inv fr n tk S) (hr:x_k n S x e S'):Inv fr n tk S':=by
 rcases hr with ⟨_,_,_,rfl⟩|⟨_,r,p',rb,tm,ht,_,rfl⟩
 ·exact h
 obtain⟨k1,k2,_,k⟩:=ht.acc h.acc;obtain⟨k3,k4,k5,_⟩:=k rfl;have hf:=(h.fresh r p' ht).1;refine⟨h.ok,k3.perm ?_,?_,by dsimp only;have:=h.lt;omega,fun x hx=>?_,?_,h.tk1⟩
 ·rw [Int.toNat_natCast];have e:q_a (S.roots++[(4096*r,⟨rb,tm,r,cnt n,[],[]⟩)])=q_a S.roots++E_e r (cnt n):=by
   simp [q_a]
  rw [e];refine List.perm_append_comm.trans ?_;simp only [List.append_assoc];refine List.Perm.append_left _ (List.Perm.append_left _ ?_);exact List.perm_append_comm
 ·have e:rootT (S.roots++[(4096*r,⟨rb,tm,r,cnt n,[],[]⟩)])=rootT S.roots:=by
   simp [rootT]
  rw [e];exact h.tb
 ·rcases List.mem_append.1 hx with hx|hx
  ·exact h.root x hx
  ·rw [List.mem_singleton.1 hx];exact⟨rfl,rfl,⟨fun t ht=>by simp at ht,List.Pairwise.nil⟩,by simp,fun m=>by simp [tab?]⟩
 ·rw [List.map_append,List.nodup_append];refine⟨h.nd,by simp,fun a ha b hb e=>?_⟩;simp only [List.map_cons,List.map_nil,List.mem_singleton] at hb;subst hb;subst e;obtain⟨y,hy,hy2⟩:=List.mem_map.1 ha;obtain⟨y1,y2⟩:=y;dsimp only at hy2;subst hy2;rw [G_b h.nd hy] at hf;cases hf
theorem Inv.unroot {fr n:Nat} {tk:List (Nat×Nat)} {S:St} (h:Inv fr n tk S) {a:Nat} {R:RootS} (hm:(a,R)∈S.roots) :
  Acc S.p (E_e R.first R.count++(S.l.map Qr.f++(q_a (S.roots.filter fun x=>decide (x.1≠a))++E_a tk))):=by
 have e1:=A_b (j_a h.nd R hm).1;rw [U_c] at e1;refine h.acc.perm (((e1.append_right _).append_left _).trans ?_);rw [←List.append_assoc,←List.append_assoc,←List.append_assoc,←List.append_assoc];refine List.Perm.append_right _ (List.Perm.append_right _ ?_);exact List.perm_append_comm
theorem Inv.freeH {fr n:Nat} {tk:List (Nat×Nat)} {S:St} (h:Inv fr n tk S) {a:Nat} {R:RootS} (hm:root? S.roots a=some R):(S.p.run (R.first:Int) (R.count:Int)).2=0∧t_c (S.p.turned ((R.first:Int)-S.p.first).toNat (· - 1) (R.count:Int).toNat) S.l:=by
 have hR:=h.root _ (U_ hm);have hc:=q_d n;have hcc:=hR.cnt;dsimp only at hcc;obtain⟨k1,k2⟩:=(h.unroot (U_ hm)).drop (by omega);exact⟨k1,k2.held⟩
theorem Inv.freeR {fr n:Nat} {tk:List (Nat×Nat)} {S S':St} {a e:Nat} (h:Inv fr n tk S) (hr:FreeR S a e S'):Inv fr n tk S':=by
 rcases hr with ⟨_,_,rfl⟩|⟨R,hm,⟨_,_,rfl⟩|⟨hb,_,rfl⟩⟩
 ·exact h
 ·exact h
 have hm':=U_ hm;have hR:=h.root _ hm';have hc:=q_d n;have hcc:=hR.cnt;dsimp only at hcc;obtain⟨k1,k2⟩:=(h.unroot hm').drop (by omega);have e1:=g_d (j_a h.nd R hm').1;rw [h_d] at e1;have ht0:R.tabs=[]:=by
  cases hx:R.tabs with
  | nil=>rfl
  | cons x r =>
   obtain⟨t,ht,_⟩:=(hR.tk x.1).1 (tab_isSome.2 (by rw [hx];simp));dsimp only at ht;rw [hb] at ht;simp at ht
 rw [ht0] at e1;unfold x_i;rw [if_pos k1];refine⟨h.ok,k2,e1.symm.trans h.tb,?_,fun x hx=>h.root x (List.mem_filter.1 hx).1,h.nd.sublist (List.filter_sublist.map _),h.tk1⟩;show S.p.first+(turn _ _ _ _).length≤fr
 rw [e_];exact h.lt
theorem Inv.putPre {fr n:Nat} {tk:List (Nat×Nat)} {S:St} (h:Inv fr n tk S) (hn:1≤n∧n≤7) (hfr:fr≤65536) {a:Nat} {l:List Tr} :
  ∀R got mine p' l',root? S.roots a=some R→MayE n R.blocks l 0→TakeI R.tabs S.p S.l l got mine p' l'→∀i t,l[i]?=some t→PutPre fr a (V_b a got (l.take i) 0 (R,S.M)).1 (got? got i) t :=
 fun R got mine p' l' hm hmay ht=>put_pre hn hfr (h.xi (U_ hm)) (h.root _ (U_ hm)) (h.frames (U_ hm)).1 hmay ht
theorem Inv.putE {fr n:Nat} {tk:List (Nat×Nat)} {S S':St} {a e:Nat} {l:List Tr} (h:Inv fr n tk S) (hfr:fr≤65536) (hr:PutE n S a l e S'):Inv fr n tk S':=by
 rcases hr with ⟨_,_,rfl⟩|⟨_,R,got,mine,p',l',hm,hmay,ht,rfl⟩
 ·exact h
 have hm':=U_ hm;obtain⟨m1,m2,m3⟩:=J_d hmay;obtain⟨k1,k2,k3,k4⟩:=l_e (M:=S.M) ht (h.root _ hm') m1 m2 m3 [] (by simp);rw [List.append_nil] at k1 k2 k3 k4;obtain⟨x1,_,_⟩:=ht.xi (h.xi hm') hfr;exact h.upd hm' _ (by rw [k2];exact x1) k1 k4
theorem Inv.choOk {fr n:Nat} {tk:List (Nat×Nat)} {S:St} (h:Inv fr n tk S) {a:Nat} {asid ap:Int} {bits:Nat} {ng:Bool} {vas:List Nat} {R:RootS} {out:List Tr} (hc:v_d S a asid ap bits ng vas R out) :
  (a,R)∈S.roots∧(∀t∈out,t∈R.blocks)∧(out.map (·.va)).Nodup∧out.length=vas.length:=by
 obtain⟨h1,_,h3⟩:=hc;obtain⟨k1,k2,k3⟩:=B_f h3 (by simp) (by simp);exact⟨U_ h1,k1,k2,by simpa using k3⟩
theorem Inv.choLen {fr n:Nat} {tk:List (Nat×Nat)} {S:St} (h:Inv fr n tk S) (hn:1≤n∧n≤7) {a:Nat} {asid ap:Int} {bits:Nat} {ng:Bool} {vas:List Nat} {R:RootS} {out:List Tr} (hc:v_d S a asid ap bits ng vas R out):out.length≤1048576:=by
 obtain⟨k1,k2,k3,k4⟩:=h.choOk hc;have hb:=(h.root _ k1).blk;have h1:=D_g (L:=out.map (·.va)) (M:=R.blocks.map (·.va)) k3 fun x hx=>by
  obtain⟨t,ht,rfl⟩:=List.mem_map.1 hx;exact List.mem_map.2 ⟨t,k2 t ht,rfl⟩
 rw [List.length_map,List.length_map] at h1;have:=hb.len hn;dsimp only at this;omega
theorem Inv.cutPre {fr n:Nat} {tk:List (Nat×Nat)} {S:St} (h:Inv fr n tk S) (hn:1≤n∧n≤7) (hfr:fr≤65536) {a:Nat} {asid:Int} {vas:List Nat} :
  ∀R out,v_d S a asid 0 0 true vas R out→∀i t,out[i]?=some t→∀y,CutRun a asid ⟨R,S.M,S.p,S.l⟩ (out.take i) y→CutPre fr a y.R t:=by
 intro R out hc i t hi y hy;obtain⟨k1,k2,k3,k4⟩:=h.choOk hc;have hR:=h.root _ k1;have e:out.take i++out.drop i=out:=List.take_append_drop _ _;obtain⟨c1,c2,c3,c4,c5,c6,c7⟩:=l_h hy hR (h.xi k1) (out.drop i) (by rw [e];exact k2) (by rw [e];exact k3);have hf:=(h.frames k1).1;have hcc:=hR.cnt;have hcc2:=c1.cnt;dsimp only at hcc c5;have ht:t∈y.R.blocks:=c3 t (List.mem_of_getElem? (i:=0) (by rw [List.getElem?_drop];exact hi));exact m_h hn hfr c2 c1 (by omega) ht
theorem Inv.cutE {fr n:Nat} {tk:List (Nat×Nat)} {S S':St} {a e:Nat} {asid:Int} {vas:List Nat} (h:Inv fr n tk S) (hr:CutE S a asid vas e S'):Inv fr n tk S':=by
 rcases hr with ⟨_,_,rfl⟩|⟨_,R,out,y,hc,hy,rfl⟩
 ·exact h
 obtain⟨k1,k2,k3,k4⟩:=h.choOk hc;obtain⟨c1,c2,c3,c4,c5,c6,c7⟩:=l_h hy (h.root _ k1) (h.xi k1) [] (by simpa using k2) (by simpa using k3);exact h.upd k1 _ c2 c1 c5
theorem Inv.chgRun {fr n:Nat} {tk:List (Nat×Nat)} {S:St} (h:Inv fr n tk S) {a:Nat} {asid ap:Int} {bits:Nat} {ng xn:Bool} {vas:List Nat} {R:RootS} {out:List Tr} (hc:v_d S a asid ap bits ng vas R out) (ts:List Tr) (hs:ts.Sublist out) :
  RootOk n a (L_e a asid (fun t=>t.leaf ap bits ng xn) ts (R,S.M)).1∧(L_e a asid (fun t=>t.leaf ap bits ng xn) ts (R,S.M)).1.tabs=R.tabs∧(L_e a asid (fun t=>t.leaf ap bits ng xn) ts (R,S.M)).1.first=R.first ∧
   (∀b,b∈(L_e a asid (fun t=>t.leaf ap bits ng xn) ts (R,S.M)).1.blocks↔(b∈R.blocks∧b∉ts)∨∃t∈ts,b=t.leaf ap bits ng xn):=by
 obtain⟨k1,k2,k3,k4⟩:=h.choOk hc;exact r_k (f:=fun t=>t.leaf ap bits ng xn) (fun t ht=>r_e ht hc.2.1) (fun _=>rfl) (fun _=>rfl) (fun _=>rfl) ts (R,S.M) (h.root _ k1) (fun t ht=>k2 t (hs.subset ht)) (k3.sublist (hs.map _))
theorem Inv.chgPre {fr n:Nat} {tk:List (Nat×Nat)} {S:St} (h:Inv fr n tk S) (hn:1≤n∧n≤7) (hfr:fr≤65536) {a:Nat} {asid ap:Int} {bits:Nat} {ng xn:Bool} {vas:List Nat} :
  ∀R out,v_d S a asid ap bits ng vas R out→∀i t,out[i]?=some t→ChgPre fr a (L_e a asid (fun t=>t.leaf ap bits ng xn) (out.take i) (R,S.M)).1 t∧(t.leaf ap bits ng xn).right=true:=by
 intro R out hc i t hi;obtain⟨k1,k2,k3,k4⟩:=h.choOk hc;have hR:=h.root _ k1;have htm:=List.mem_of_getElem? hi;obtain⟨c1,c2,c3,c4⟩:=h.chgRun (xn:=xn) hc (out.take i) (List.take_sublist _ _);have hf:=(h.frames k1).1;have hcc:=hR.cnt;have hcc2:=c1.cnt;dsimp only at hcc;have hil:=(List.getElem?_eq_some_iff.1 hi).1;have hnt:t∉out.take i:=fun hm=>by
  obtain⟨j,hj,hjt⟩:=List.getElem_of_mem hm;rw [List.length_take] at hj;rw [List.getElem_take] at hjt;have h2:=List.pairwise_iff_getElem.1 (List.nodup_iff_pairwise_ne.1 k3) j i (by rw [List.length_map];omega) (by rw [List.length_map];omega) (by omega);rw [List.getElem_map,List.getElem_map,hjt] at h2;exact h2 (by rw [(List.getElem?_eq_some_iff.1 hi).2])
 refine⟨chg_pre (p:=S.p) (l:=S.l) (G:=q_a S.roots++E_a tk) hn hfr (by rw [c2];exact h.xi k1) c1 (by omega) ((c4 t).2 (.inl ⟨k2 t htm,hnt⟩)),?_⟩;exact (r_e (hR.blk.good t (k2 t htm)) hc.2.1).right
theorem Inv.chgE {fr n:Nat} {tk:List (Nat×Nat)} {S S':St} {a e:Nat} {asid ap:Int} {bits:Nat} {ng xn:Bool} {vas:List Nat} (h:Inv fr n tk S) (hr:ChgE S a asid ap bits ng xn vas e S'):Inv fr n tk S':=by
 rcases hr with ⟨_,_,rfl⟩|⟨_,R,out,hc,rfl⟩
 ·exact h
 obtain⟨k1,k2,k3,k4⟩:=h.choOk hc;obtain⟨c1,c2,c3,c4⟩:=h.chgRun (xn:=xn) hc out (List.Sublist.refl _);exact h.upd k1 _ (by rw [c2];exact h.xi k1) c1 c3
theorem Inv.emptyPre {fr n:Nat} {tk:List (Nat×Nat)} {S:St} (h:Inv fr n tk S) (hn:1≤n∧n≤7) (hfr:fr≤65536) {a:Nat} {asid:Int} :
  ∀R,root? S.roots a=some R→∀(ms:List Nat) (m:Nat) (y:Xs),(∃rest,(ms++m :: rest).Perm (R.tabs.map (·.1)))→ShutRun a ⟨R,C_h (a_a a R R.blocks S.M) 3 (u32.wrap asid),S.p,S.l⟩ ms y→∃T,tab? y.R.tabs m=some T∧T<2^30∧wErr fr (a+4*m)=0 :=
 fun R hm ms m y hp hy=>shut_pre hn hfr hy (h.root _ (U_ hm)) (h.frames (U_ hm)).1 (h.xi (U_ hm)) hp
theorem Inv.emptyE {fr n:Nat} {tk:List (Nat×Nat)} {S S':St} {a e:Nat} {asid:Int} (h:Inv fr n tk S) (hr:j_i S a asid e S'):Inv fr n tk S':=by
 rcases hr with ⟨_,_,rfl⟩|⟨_,R,hm,hb,⟨_,rfl⟩|⟨hne,ms,y,hp,_,hy,rfl⟩⟩
 ·exact h
 ·exact h
 have hm':=U_ hm;have hR:=h.root _ hm';obtain⟨k1,k2,k3,k3',k4,k5,k6⟩:=U_e (n:=n) hy hR.nd (h.xi hm');have h0:y.R.tabs=[]:=by
  cases hx:y.R.tabs with
  | nil=>rfl
  | cons x r =>
   have:=(k6 x.1).1 (tab_isSome.2 (by rw [hx];simp));exact absurd (hp.mem_iff.2 (tab_isSome.1 this.1)) this.2
 refine h.upd hm' _ k2 ⟨?_,?_,⟨fun t ht=>by simp at ht,List.Pairwise.nil⟩,k1,fun m=>?_⟩ k3
 ·show a=4096*y.R.first
  rw [k3];exact hR.key
 ·show y.R.count=cnt n;rw [k3'];exact hR.cnt
 ·rw [h0];simp [tab?]
theorem Inv.take {fr n:Nat} {tk:List (Nat×Nat)} {S:St} (h:Inv fr n tk S) {k al:Int} {r e:Nat} {p':Pool} (ht:PTake S.p k al r e p'):(e=0→Inv fr n (tk++[(r,k.toNat)]) { S with p:=p' }∧1≤k)∧(e≠0→p'=S.p):=by
 obtain⟨k1,k2,k0,k3⟩:=ht.acc h.acc;refine⟨fun he=>?_,fun he=>(k0 he).1⟩;obtain⟨k4,k5,k6,k7,_⟩:=k3 he;refine⟨⟨h.ok,k4.perm ?_,h.tb,by dsimp only;have:=h.lt;omega,h.root,h.nd,fun x hx=>?_⟩,k7⟩
 ·have e:E_a (tk++[(r,k.toNat)])=E_a tk++E_e r k.toNat:=by simp [E_a]
  rw [e];refine List.perm_append_comm.trans ?_;simp only [List.append_assoc];exact List.Perm.refl _
 ·rcases List.mem_append.1 hx with hx|hx
  ·exact h.tk1 x hx
  ·rw [List.mem_singleton.1 hx];dsimp only;omega
theorem Inv.drop {fr n:Nat} {l1 l2:List (Nat×Nat)} {f c:Nat} {S:St} (h:Inv fr n (l1++(f,c) :: l2) S) :
  (S.p.run (f:Int) (c:Int)).2=0∧Inv fr n (l1++l2) { S with p:=S.p.turned ((f:Int)-S.p.first).toNat (· - 1) (c:Int).toNat }:=by
 have hc:1≤c:=h.tk1 (f,c) (by simp);have e:E_a (l1++(f,c) :: l2)=E_a l1++(E_e f c++E_a l2):=by simp [E_a]
 have hA:=h.acc;rw [e] at hA;have hA2:Acc S.p (E_e f c++(S.l.map Qr.f++(q_a S.roots++E_a (l1++l2)))):=by
  refine hA.perm ?_;have e2:E_a (l1++l2)=E_a l1++E_a l2:=by simp [E_a]
  rw [e2];have:∀A B C D E:List Nat,(A++(B++(C++(D++E)))).Perm (D++(A++(B++(C++E)))):=fun A B C D E=>by
   refine List.perm_iff_count.2 fun x=>?_;simp only [List.count_append];omega
  exact this _ _ _ _ _
 obtain⟨k1,k2⟩:=hA2.drop hc;refine⟨k1,⟨h.ok,k2,h.tb,?_,h.root,h.nd,fun x hx=>h.tk1 x ?_⟩⟩
 ·show S.p.first+(turn _ _ _ _).length≤fr
  rw [e_];exact h.lt
 ·rcases List.mem_append.1 hx with hx|hx<;>simp [hx]
theorem Inv.start {fr n k:Nat} (hf:8+k≤fr) (M:Mst):Inv fr n [] ⟨M,⟨8,List.replicate k 0⟩,[],[]⟩:=by
 refine⟨⟨by simp,by simp,by simp⟩,⟨by simp [q_a,E_a],by simp [q_a,E_a],fun j hj=>?_⟩,by simp [rootT,tabs],by simpa using hf,by simp,by simp,by simp⟩;simp only [List.length_replicate] at hj;simp [q_a,E_a,List.getD_eq_getElem?_getD,List.getElem?_replicate,hj]
def I64 (x:Int):Prop:=-9223372036854775808≤x∧x≤9223372036854775807
theorem f17 {w:World} (e:Int):Ret prog 17 #[.int .i64 e] w fun v w'=>v=.int .i64 e∧w'=w:=by
 refine F17_of ?_;unfold F17;exact⟨rfl,rfl⟩
theorem u_ {P:Program} {f:FuncId} {args:Array Value} {w:World} {r:Value} {K:Value→World→Prop} (h:Ret P f args w fun v w'=>v=r∧w'=w) (k:K r w):A_ P f args w K :=
 h.use (by rintro _ _ ⟨rfl,rfl⟩;exact k)
theorem f37 {w:World} (n k:Int) (hk:0<k) (hk2:k≤9223372036854775807) (hn:I64 n):Ret prog 37 #[.int .i64 n,.int .i64 k] w fun v w'=>v=.int .i64 (n.emod k)∧w'=w:=by
 refine F37_of ?_;unfold F37;rw [NZ_iff];refine⟨by omega,?_⟩;have h1:=Int.emod_nonneg n (by omega:k≠0);have h2:=Int.emod_lt_of_pos n hk;have h3:n.tmod k=if 0≤n∨k ∣ n then n.emod k else n.emod k-k:=by
  rw [Int.tmod_eq_emod];split
  ·exact Int.sub_zero _
  ·rw [show ((k.natAbs:Nat):Int)=k by omega];rfl
 refine C_ (fun h=>?_) (fun h=>?_)
 ·split at h3
  ·exfalso;have:n.emod k=n%k:=rfl;omega
  ·refine⟨?_,rfl⟩;rw [h3,show n.emod k-k+k=n.emod k by omega,w64 (by have:n.emod k=n%k:=rfl;omega) (by have:n.emod k=n%k:=rfl;omega)]
 ·refine⟨?_,rfl⟩;rw [h3];split
  ·rfl
  ·exfalso;rw [h3,if_neg (by assumption)] at h;have:n.emod k=n%k:=rfl;omega
def Y_ (l:List (Int×Int)):List Value:=l.flatMap fun r=>[.int .i64 r.1,.int .i64 r.2]
theorem V_e (r:Int×Int):([.int .i64 r.1,.int .i64 r.2]:List Value).length=2:=rfl
theorem pair_ld {w:World} {p:Option Addr} {l:List (Int×Int)} (h:Rd w p (Y_ l)) {e N:Int} {i:Nat} (he:e=(i:Int)) {t:Int×Int} (ht:l[i]?=some t) (hN:(i:Int)<N) {K:Int→Int→Prop} (k:K t.1 t.2) :
  NilP p fun a=>0≤e∧e<N∧Ld w (at0 a (e.toNat*2)) fun v0=>AsI .i64 v0 fun i0=>Ld w (at0 (at0 a (e.toNat*2)) 1) fun v1=>AsI .i64 v1 fun i1=>K i0 i1:=by
 subst he;have hg:∀j v,j<2→([.int .i64 t.1,.int .i64 t.2]:List Value)[j]?=some v→(Y_ l)[i*2+j]?=some v:=fun j v hj hv=>(l_b V_e l i j hj t ht).trans hv;obtain⟨b,o,hp,h0⟩:=h _ _ (hg 0 _ (by decide) rfl);have h1:=Rd.cell h hp (hg 1 _ (by decide) rfl);rw [hp,G_];simp only [H_,Int.toNat_natCast];refine⟨by omega,hN,?_⟩;exact⟨_,h0,AsI_int.2 ⟨_,by rw [Nat.add_assoc];exact h1,AsI_int.2 k⟩⟩
theorem f15 {w:World} {p q:Option Addr} {c d:Nat} {l:List Tr} (hp:Rd w p (D_ l)) (hq:Rd w q (D_ l)) (hl:l.length≤9223372036854775806) :
  Ret prog 15 #[.slice p l.length c,.slice q l.length d] w fun v w'=>v=.bool true∧Fr0 w w':=by
 refine F15_of ?_;unfold F15;try dsimp only [B_,Uib,lb_,li_,ub_,ui_]
 refine b_ (fun h=>absurd rfl h) (fun _=>?_);refine Loop.by (fun s w'=>∃i:Nat,i≤l.length∧s=[.int .i64 (i:Int),.bool false]∧Fr0 w w') (fun s _=>match s with | [.int _ i,_]=>l.length-i.toNat|_=>0) ⟨0,by omega,rfl,Fr.refl _ _⟩ ?_
 rintro _ w1 ⟨i,hi,rfl,f1⟩;simp only [UnC_cons,UnN_nil,AsI_int,AsB_bool,P_];refine C_ (fun hlt=>?_) (fun hge=>⟨by trivial,f1⟩);obtain⟨t,ht⟩:∃t,l[i]?=some t:=⟨l[i]'(by omega),List.getElem?_eq_getElem _⟩;refine g_a (hp.fr0 f1) rfl ht hlt ?_;refine g_a (hq.fr0 f1) rfl ht hlt ?_;refine RunP.neqS S57 (fun w=>eq57 t t w) fun r hr=>?_;have hr:r=true:=hr.2 rfl;subst hr;rw [AsB_bool];show BIf false _ _;rw [E_,w64 (by omega) (by omega)];exact⟨⟨i+1,by omega,rfl,f1.drew⟩,(by first|omega|(simp only [Int.toNat_natCast];omega))⟩
def a_b (l:List (Nat×RootS)):List Int:=(l.map fun x=>((x.1:Nat):Int)).mergeSort (fun a b=>decide (a≤b))
theorem j_b (l:List (Nat×RootS)):(a_b l).Perm (l.map fun x=>((x.1:Nat):Int)):=List.mergeSort_perm _ _
theorem h_f (l:List (Nat×RootS)):(a_b l).length=l.length:=by rw [(j_b l).length_eq,List.length_map]
theorem T_k {l:List (Nat×RootS)} {acc:List Int} (hp:acc.Perm (l.map fun x=>((x.1:Nat):Int))) (hs:acc.Pairwise (·≤·)):acc=a_b l:=by
 refine List.Perm.eq_of_pairwise (le:=(·≤·)) (fun a b _ _ h1 h2=>by omega) hs ?_ (hp.trans (j_b l).symm);exact (List.pairwise_mergeSort (le:=fun a b:Int=>decide (a≤b)) (fun a b c h1 h2=>by simp at *;omega) (fun a b=>by simp;omega) _).imp fun h=>by simpa using h
def w_b (l:List (Nat×RootS)) (k:Int):Int:=(a_b l).getD (k.emod ((l.length:Int)+1)).toNat 1191936
theorem f12k {w:World} {ro:Ro} {J:Ids} {fr n:Nat} {S:St} (hS:Sys w ro J fr n S) (hl:S.roots.length≤1000000000) :
  Ret prog 12 #[.pointer (some ⟨J.e,0,none⟩)] w fun v w'=>∃p c,v=.slice p S.roots.length c∧Sl w' w.heap.size 30 1 p S.roots.length c ((a_b S.roots).map (Value.int .u64))∧Fr0 w w':=by
 refine (f12 hS hl).mono ?_;rintro v w' ⟨p,c,acc,h1,h2,h3,h4,h5⟩;obtain rfl:=T_k h2 h3;exact⟨p,c,h1,h4,h5⟩
theorem f23 {w:World} {q:Option Addr} {c:Nat} {l:List (Nat×RootS)} (h:Rd w q ((a_b l).map (Value.int .u64))) (hl:l.length≤1000000000) (k:Int) (hk:I64 k) :
  Ret prog 23 #[.slice q l.length c,.int .i64 k] w fun v w'=>v=.int .u64 (w_b l k)∧w'=w:=by
 refine F23_of ?_;unfold F23;try dsimp only [li_]
 rw [w64 (by omega) (by omega)];refine Ret.use (f37 k _ (by omega) (by omega) hk) ?_;rintro _ _ ⟨rfl,rfl⟩;have h1:=Int.emod_nonneg k (by omega:((l.length:Int)+1)≠0);have h2:=Int.emod_lt_of_pos k (by omega:0<(l.length:Int)+1);have hr:k.emod ((l.length:Int)+1)=k%((l.length:Int)+1):=rfl;have hkl:=h_f l;rw [AsI_int];unfold w_b;refine C_ (fun hlt=>?_) (fun hge=>?_)
 ·have hi:(k.emod ((l.length:Int)+1)).toNat<(a_b l).length:=by omega
  refine h.int hkl (by omega) (x:=(a_b l)[(k.emod ((l.length:Int)+1)).toNat]) (List.getElem?_eq_getElem hi) ?_;refine⟨?_,rfl⟩;rw [List.getD_eq_getElem?_getD,List.getElem?_eq_getElem hi,Option.getD_some]
 ·refine⟨?_,rfl⟩;rw [List.getD_eq_getElem?_getD,List.getElem?_eq_none (by omega),Option.getD_none]
theorem j_g (l:List (Nat×RootS)) (k:Int):∃a:Nat,w_b l k=(a:Int)∧(a∈l.map (·.1)∨a=1191936):=by
 unfold w_b;by_cases hi:(k.emod ((l.length:Int)+1)).toNat<(a_b l).length
 ·rw [List.getD_eq_getElem?_getD,List.getElem?_eq_getElem hi,Option.getD_some];have:=(j_b l).mem_iff.1 (List.getElem_mem hi);obtain⟨x,hx,e⟩:=List.mem_map.1 this;exact⟨x.1,e.symm,.inl (List.mem_map.2 ⟨x,hx,rfl⟩)⟩
 ·rw [List.getD_eq_getElem?_getD,List.getElem?_eq_none (by omega),Option.getD_none];exact⟨1191936,rfl,.inr rfl⟩
def Ro.desk (ro:Ro) (w:World):Ro:=fun x=>if x<w.heap.size then ro x else (0,100)
theorem RExt.desk {w:World} {ro:Ro}:RExt w ro (ro.desk w):=fun x hx=>by unfold Ro.desk;rw [if_pos hx]
theorem Ro.desk_new {ro:Ro} {w:World} {x:Nat} (h:w.heap.size≤x):(ro.desk w) x=(0,100):=by unfold Ro.desk;rw [if_neg (by omega)]
abbrev FrD (ro:Ro) (w w':World):Prop:=Fr (fun b=>(ro b).1≠0∨ro b=(0,100)) w w'
def tkI (tk:List (Nat×Nat)):List (Int×Int):=tk.map fun r=>((r.1:Int),(r.2:Int))
structure DeskAt (w:World) (ro:Ro) (J:Ids) (n d B:Nat) (tk:List (Nat×Nat)):Prop where
 st:∃p c,Has w d [.pointer (some ⟨J.I.m,0,none⟩),.pointer (some ⟨J.b,0,none⟩),.pointer (some ⟨J.e,0,none⟩),.int .i64 (n:Int),.slice p tk.length c]∧Sl w B 68 2 p tk.length c (Y_ (tkI tk))∧∀x,On p x→ro x=(0,100)∧x≠d
 rd:ro d=(0,100)
 lo:B≤d
theorem DeskAt.fr {w w':World} {ro ro':Ro} {J:Ids} {n d B:Nat} {tk:List (Nat×Nat)} (h:DeskAt w ro J n d B tk) {T:Nat→Prop} (f:Fr T w w') (hT:∀x,(ro x).1=0→¬T x) (e:RExt w ro ro'):DeskAt w' ro' J n d B tk:=by
 obtain⟨p,c,h1,h2,h3⟩:=h.st;exact⟨⟨p,c,h1.fr f (hT _ (by rw [h.rd])),h2.fr f (fun x hx=>hT x (by rw [(h3 x hx).1])),fun x hx=>by rw [e x (h2.lt x hx).2];exact h3 x hx⟩,by rw [e _ h1.lt];exact h.rd,h.lo⟩
structure LawAt (w0 w:World) (ro:Ro) (J:Ids) (n:Nat) (S:St) (d:Nat) (tk:List (Nat×Nat)):Prop where
 sys:Sys w ro J 256 n S
 inv:Inv 256 n tk S
 n1:1≤n∧n≤7
 desk:DeskAt w ro J n d w0.heap.size tk
 ext:∀b,b<w0.heap.size→(ro b).1=0
 fr:Fr0 w0 w
 b7:7≤w0.heap.size
theorem LawAt.fr0 {w0 w w':World} {ro:Ro} {J:Ids} {n d:Nat} {S:St} {tk:List (Nat×Nat)} (h:LawAt w0 w ro J n S d tk) (f:Fr0 w w'):LawAt w0 w' ro J n S d tk :=
 ⟨h.sys.fr0 f,h.inv,h.n1,h.desk.fr f (fun _ _ h=>h) (RExt.refl _ _),h.ext,h.fr.trans f,h.b7⟩
theorem LawAt.cut {w0 w:World} {ro:Ro} {J:Ids} {n d:Nat} {S:St} {tk:List (Nat×Nat)} (h:LawAt w0 w ro J n S d tk):LawAt w0 w (ro.cut w) J n S d tk :=
 ⟨h.sys.ext RExt.cut,h.inv,h.n1,h.desk.fr (Fr.refl (fun _=>False) _) (fun _ _ h=>h) RExt.cut,fun b hb=>by rw [RExt.cut b (Nat.lt_of_lt_of_le hb h.fr.size)];exact h.ext b hb,h.fr,h.b7⟩
theorem LawAt.sysT {w0 w w':World} {ro ro':Ro} {J:Ids} {n d:Nat} {S S':St} {tk:List (Nat×Nat)} (h:LawAt w0 w ro J n S d tk) (hS:Sys w' ro' J 256 n S') (f:FrR ro w w') (e:RExt w ro ro') (hI:Inv 256 n tk S'):LawAt w0 w' ro' J n S' d tk :=
 ⟨hS,hI,h.n1,h.desk.fr f (fun x hx h=>h hx) e,fun b hb=>by rw [e b (Nat.lt_of_lt_of_le hb h.fr.size)];exact h.ext b hb,h.fr.thenS f fun x hx hs=>hs (h.ext x hx),h.b7⟩
theorem G_h {w w1 w2:World} {ro:Ro} {J:Ids} {n d B:Nat} {S:St} {tk tk':List (Nat×Nat)} (hS:Sys w ro J 256 n S) (hB:7≤B) {p p':Option Addr} {c c':Nat} (hsl:Sl w B 68 2 p tk.length c (Y_ (tkI tk)))
  (hro:∀x,On p x→ro x=(0,100)∧x≠d) (hd:ro d=(0,100)) (hdB:B≤d) (hdl:d<w.heap.size) (hsl':Sl w1 B 68 2 p' tk'.length c' (Y_ (tkI tk'))) (f1:Fr (On p) w w1) (hon:∀b,On p' b→On p b∨w.heap.size≤b)
  (hst:Has w2 d [.pointer (some ⟨J.I.m,0,none⟩),.pointer (some ⟨J.b,0,none⟩),.pointer (some ⟨J.e,0,none⟩),.int .i64 (n:Int),.slice p' tk'.length c']) (f2:Fr (·=d) w1 w2) :
  Sys w2 (ro.desk w) J 256 n S∧DeskAt w2 (ro.desk w) J n d B tk'∧Fr (fun x=>On p x∨x=d) w w2:=by
 have f12:Fr (fun x=>On p x∨x=d) w w2:=(f1.mono fun _ _ h=>.inl h).trans (f2.mono fun _ _ h=>.inr h);have hne:∀x,On p' x→(ro.desk w) x=(0,100)∧x≠d:=fun x hx=>by
  rcases hon x hx with h|h
  ·rw [RExt.desk x (hsl.lt x h).2];exact hro x h
  ·exact⟨Ro.desk_new h,by omega⟩
 have hdc:(ro.desk w) d=(0,100):=by rw [RExt.desk d hdl];exact hd
 refine⟨(hS.ext RExt.desk).frO f12 (fun x hx=>?_) (fun x hx7 hx=>?_),⟨⟨p',c',hst,hsl'.fr f2 (fun x hx=>(hne x hx).2),hne⟩,hdc,hdB⟩,f12⟩
 ·rcases hx with hx|rfl
  ·rw [RExt.desk x (hsl.lt x hx).2,(hro x hx).1]
  ·rw [hdc]
 ·rcases hx with hx|rfl
  ·have:=(hsl.lt x hx).1;omega
  ·omega
structure Op17 where
 k:Int
 r:Int
 sid:Int
 lq:Option Addr
 ln:Nat
 lc:Nat
 vq:Option Addr
 vn:Nat
 vc:Nat
 ap:Int
 bits:Nat
 ng:Bool
 xn:Bool
 nq:Option Addr
 nn:Nat
 nc:Nat
 a0:Int
 a1:Int
 a2:Int
 a3:Int
 a4:Bool
 cn:Int
 al:Int
def Op17.cells (o:Op17):List Value:=[.int .i64 o.k,.int .i64 o.r,.int .i64 o.sid,.slice o.lq o.ln o.lc,.slice o.vq o.vn o.vc,.int .i64 o.ap,.int .u32 (o.bits:Int),.bool o.ng,.bool o.xn,.slice o.nq o.nn o.nc,
 .int .i64 o.a0,.int .u32 o.a1,.int .i64 o.a2,.int .u32 o.a3,.bool o.a4,.int .i64 o.cn,.int .i64 o.al]
structure OpIn (w:World) (B:Nat) (o:Op17) (l:List Tr) (vas:List Nat):Prop where
 k:I64 o.k
 r:I64 o.r
 sid:I64 o.sid
 ap:I64 o.ap
 cn:I64 o.cn
 al:I64 o.al
 bits:o.bits<4294967296
 ln:o.ln=l.length
 lc:l.length≤o.lc
 lr:Rd w o.lq (D_ l)
 ls:l.length≤9000000000000
 lw:∀t∈l,t.wf
 lo:l≠[]→∀b,On o.lq b→b<B
 vn:o.vn=vas.length
 vr:Rd w o.vq (vas.map fun v=>Value.int .u32 ((v:Nat):Int))
 vs:vas.length≤100000000000000
 vw:∀v∈vas,v<4294967296
theorem OpIn.fr0 {w w':World} {B:Nat} {o:Op17} {l:List Tr} {vas:List Nat} (h:OpIn w B o l vas) (f:Fr0 w w'):OpIn w' B o l vas:={ h with lr:=h.lr.fr0 f,vr:=h.vr.fr0 f }
inductive DoesR (n:Nat) (o:Op17) (l:List Tr) (vas:List Nat) (S:St) (tk:List (Nat×Nat)):Int→Nat→St→List (Nat×Nat)→Prop
 | root {x e:Nat} {S':St} (hk:o.k=1) (h:x_k n S x e S'):DoesR n o l vas S tk (x:Int) e S' tk
 | free {a e:Nat} {S':St} (hk:o.k=2) (ha:w_b S.roots o.r=(a:Int)) (h:FreeR S a e S'):DoesR n o l vas S tk 0 e S' tk
 | put {a e:Nat} {S':St} (hk:o.k=3) (ha:w_b S.roots o.r=(a:Int)) (h:PutE n S a l e S'):DoesR n o l vas S tk 0 e S' tk
 | fits {a e:Nat} (hk:o.k=4) (ha:w_b S.roots o.r=(a:Int)) (h:FitsE n S a l e):DoesR n o l vas S tk 0 e S tk
 | cut {a e:Nat} {S':St} (hk:o.k=5) (ha:w_b S.roots o.r=(a:Int)) (h:CutE S a o.sid vas e S'):DoesR n o l vas S tk 0 e S' tk
 | chg {a e:Nat} {S':St} (hk:o.k=6) (ha:w_b S.roots o.r=(a:Int)) (h:ChgE S a o.sid o.ap o.bits o.ng o.xn vas e S'):DoesR n o l vas S tk 0 e S' tk
 | empty {a e:Nat} {S':St} (hk:o.k=7) (ha:w_b S.roots o.r=(a:Int)) (h:j_i S a o.sid e S'):DoesR n o l vas S tk 0 e S' tk
 | take {r:Nat} {p':Pool} (hk:o.k=12) (h:PTake S.p o.cn o.al r 0 p'):DoesR n o l vas S tk (r:Int) 0 { S with p:=p' } (tk++[(r,o.cn.toNat)])
 | takeN {r e:Nat} {p':Pool} (hk:o.k=12) (he:e≠0) (h:PTake S.p o.cn o.al r e p'):DoesR n o l vas S tk (r:Int) e S tk
 | drop {l1 l2:List (Nat×Nat)} {f c:Nat} {x:Int} (hk:o.k=13) (ht:tk=l1++(f,c) :: l2):DoesR n o l vas S tk x 0 { S with p:=S.p.turned ((f:Int)-S.p.first).toNat (· - 1) (c:Int).toNat } (l1++l2)
 | dropN (hk:o.k=13) (ht:tk=[]):DoesR n o l vas S tk 0 0 S tk
 | none (hk:(o.k<1∨7<o.k)∧o.k≠12∧o.k≠13):DoesR n o l vas S tk 0 0 S tk
theorem Inv.tkLen {fr n:Nat} {tk:List (Nat×Nat)} {S:St} (h:Inv fr n tk S):tk.length≤fr:=by
 have h1:(E_a tk).Nodup:=(List.nodup_append.1 (List.nodup_append.1 h.acc.nd).2.1).2.1;have h2:=O_i h1 (N:=fr) fun x hx=>by
  have:=h.acc.rg x (List.mem_append.2 (.inr (List.mem_append.2 (.inr hx))));have:=h.lt;omega
 have h3:∀tk:List (Nat×Nat),(∀r∈tk,1≤r.2)→tk.length≤(E_a tk).length:=by
  intro tk
  induction tk with
  | nil=>intro _;exact Nat.zero_le _
  | cons r l ih =>
   intro hh;have:=ih fun r hr=>hh r (by simp [hr]);have h5:=hh r (by simp);have h6:(E_a (r :: l)).length=r.2+(E_a l).length:=by simp [E_a,E_e]
   rw [h6,List.length_cons];omega
 exact Nat.le_trans (h3 tk h.tk1) h2
theorem s_j {fr n:Nat} {tk:List (Nat×Nat)} {S:St} (h:Inv fr n tk S) (hfr:fr≤65536) (k:Int):∃a:Nat,w_b S.roots k=(a:Int)∧a<2^40:=by
 obtain⟨a,ha,h1|h1⟩:=j_g S.roots k
 ·obtain⟨x,hx,rfl⟩:=List.mem_map.1 h1;exact⟨x.1,ha,by have:=(h.small hfr (a:=x.1) (R:=x.2) hx).1;omega⟩
 ·exact⟨a,ha,by omega⟩
theorem Inv.rl {n:Nat} {tk:List (Nat×Nat)} {S:St} (h:Inv 256 n tk S):S.roots.length≤1000000000:=by
 have:=h.rootsLen (by decide);omega
theorem Inv.so {fr n:Nat} {tk:List (Nat×Nat)} {S:St} (h:Inv fr n tk S) {a:Nat}:∀R,root? S.roots a=some R→R.blocks.Pairwise fun a b=>a.va<b.va:=fun R hR=>(h.root _ (U_ hR)).blk.sorted
def S0 (k:Nat):St:=⟨⟨fun _=>0,[]⟩,⟨8,List.replicate k 0⟩,[],[]⟩
theorem f9 {w:World} (hG:Gl w) (c0 c1 c2 c3 c4 c5 c6 c7 c8:Int) (h7:I64 c7) (h8:I64 c8) :
  Ret prog 9 #[.agg #[.int .i64 c0,.int .i64 c1,.int .i64 c2,.int .i64 c3,.int .i64 c4,.int .i64 c5,.int .i64 c6,.int .i64 c7,.int .i64 c8],.int .i64 0] w fun v w'=>∃(J:Ids) (ro:Ro) (n d k:Nat),v=.pointer (some ⟨d,0,none⟩)∧LawAt w w' ro J n (S0 k) d []:=by
 refine F9_of ?_;unfold F9;try dsimp only [Upi,li_,ui_,up_]
 refine New.mk fun w1 n1 f1 s1=>?_
 try simp only [n1.ld_iff,sb_,Nat.reduceAdd]
 refine u_ (f37 c7 7 (by decide) (by decide) h7) ?_;simp only [sb_,Nat.reduceAdd];have hn1:=Int.emod_nonneg c7 (by decide:(7:Int)≠0);have hn2:=Int.emod_lt_of_pos c7 (by decide:(0:Int)<7);obtain⟨m,hm⟩:∃m:Nat,c7.emod 7=(m:Int):=⟨(c7%7).toNat,by show c7%7=_;omega⟩;have hm7:m<7:=by have:c7.emod 7=c7%7:=rfl;omega
 rw [hm];refine u_ (f37 0 4 (by decide) (by decide) ⟨by decide,by decide⟩) ?_;simp only [sb_,Nat.reduceAdd];rw [show (0:Int).emod 4=0 from rfl,show i64.wrap (1+0)=1 from by kernel_rfl];refine u_ (f37 1 3 (by decide) (by decide) ⟨by decide,by decide⟩) ?_;simp only [sb_,Nat.reduceAdd];rw [show (1:Int).emod 3=1 from rfl,show i64.wrap (1+1)=2 from by kernel_rfl];have hG1:=hG.fr0 f1;have hsz:=hG.gr.size;have hs1:=f1.size;refine Ret.use (f38 (fun _=>(0,0)) hG1.gr 256 1 2 1 (by decide) (by decide) (by decide) (by decide) (by decide) (by decide) 0 0) ?_;rintro _ w2 ⟨I,ro2,rfl,e2,hM,f2⟩;have hs2:=f2.size;have n2:=n1.fr0 f2;simp only [sb_,Nat.reduceAdd]
 try simp only [n2.ld_iff,sb_,Nat.reduceAdd]
 refine u_ (f37 c8 248 (by decide) (by decide) h8) ?_;simp only [sb_,Nat.reduceAdd];have hk1:=Int.emod_nonneg c8 (by decide:(248:Int)≠0);have hk2:=Int.emod_lt_of_pos c8 (by decide:(0:Int)<248);obtain⟨k,hk⟩:∃k:Nat,1+c8.emod 248=(k:Int):=⟨(1+c8%248).toNat,by show 1+c8%248=_;omega⟩;have hk3:1≤k∧k≤248:=by have:c8.emod 248=c8%248:=rfl;omega
 rw [hk,w64 (by omega) (by omega)];refine Ret.use (f39 8 (k:Int) (by decide)) ?_;rintro _ w3 (⟨he,_⟩|⟨_,_,_,_,_,b,bu,bd,rfl,hP,f3,l1,l2,l3⟩)
 ·exfalso;apply he;unfold newErr;rw [if_neg (by omega),if_neg (by omega)]
 have hP:PoolAt w3 b bu bd ⟨8,List.replicate k 0⟩:=hP;simp only [sb_,Nat.reduceAdd];refine u_ (f17 0) ?_;simp only [sb_,Nat.reduceAdd];refine b_ (fun h=>absurd rfl h) (fun _=>?_);refine u_ (f17 0) ?_;simp only [sb_,Nat.reduceAdd];refine b_ (fun h=>absurd rfl h) (fun _=>?_);simp only [Option.isNone_some,E_];rw [w64 (n:=1+(m:Int)) (by omega) (by omega),show (1:Int)+(m:Int)=((m+1:Nat):Int) by omega];have E3:RExt w2 ro2 (fun x=>if x<w2.heap.size then ro2 x else (12,0)):=fun x hx=>by simp only [if_pos hx]
 have hG3:=hG1.fr0 (f2.trans f3);have hlow:Low (fun x=>if x<w2.heap.size then ro2 x else (12,0)):=fun x hx=>by
  simp only [if_pos (by omega:x<w2.heap.size)];rw [e2 x (by omega)]
 have hM3:MachAt w3 (fun x=>if x<w2.heap.size then ro2 x else (12,0)) I 256 ⟨fun _=>0,[]⟩:=(hM.ext E3).fr0 f3;refine Ret.use (f40 (fr:=256) hG3 hlow hM3 hP ?_ (n:=m+1) (by omega) (by simp;omega)) ?_
 ·intro x hx;have:¬x<w2.heap.size:=by rcases hx with rfl|rfl|rfl<;>omega
  simp only [if_neg this]
 rintro _ w4 ⟨J,ro4,rfl,rfl,rfl,rfl,rfl,e4,hS4,f4⟩;simp only [sb_,Nat.reduceAdd];refine u_ (f17 0) ?_;simp only [sb_,Nat.reduceAdd];refine b_ (fun h=>absurd rfl h) (fun _=>?_);simp only [Option.isNone_some,E_];have f04:Fr0 w w4:=f1.trans (f2.trans (f3.trans f4));refine New.mk fun w5 n5 f5 s5=>?_;have hs4:=f04.size;have hs3:=f3.size;refine⟨J,ro4.desk w4,m+1,w4.heap.size,k,rfl,(hS4.ext RExt.desk).fr0 f5,Inv.start (by omega) _,by omega,⟨⟨none,0,n5,Sl.nil _ _ _ _,fun x hx=>?_⟩,Ro.desk_new (Nat.le_refl _),hs4⟩,fun x hx=>?_,f04.trans f5,hsz⟩
 ·obtain⟨a,h,_⟩:=hx;cases h
 ·rw [RExt.desk x (by omega),e4 x (by omega)];simp only [if_pos (by omega:x<w2.heap.size)];rw [e2 x (by omega)]
theorem tkI_len (tk:List (Nat×Nat)):(Y_ (tkI tk)).length=tk.length*2:=by
 unfold Y_;rw [k_b V_e,tkI,List.length_map]
theorem L_i (l:List (Int×Int)):∀u∈Y_ l,u.oneCell'=true:=by
 intro u hu;obtain⟨x,_,h⟩:=List.mem_flatMap.1 hu;simp only [List.mem_cons,List.not_mem_nil,or_false] at h;rcases h with rfl|rfl<;>rfl
theorem X_f (a b:List (Nat×Nat)):Y_ (tkI (a++b))=Y_ (tkI a)++Y_ (tkI b):=by simp [Y_,tkI]
theorem tkI_take (tk:List (Nat×Nat)) (i:Nat):(Y_ (tkI tk)).take (i*2)=Y_ (tkI (tk.take i)):=by
 unfold Y_;rw [H_c V_e,tkI,tkI,List.map_take]
theorem tkI_drop (tk:List (Nat×Nat)) (i:Nat):(Y_ (tkI tk)).drop (i*2)=Y_ (tkI (tk.drop i)):=by
 unfold Y_;rw [I_c V_e,tkI,tkI,List.map_drop]
set_option maxHeartbeats 800000 in
theorem f11 {w0 w:World} {ro:Ro} {J:Ids} {n d:Nat} {S:St} {tk:List (Nat×Nat)} (H:LawAt w0 w ro J n S d tk) {o:Op17} {l:List Tr} {vas:List Nat} (hO:OpIn w0 w0.heap.size o l vas) :
  Ret prog 11 #[.pointer (some ⟨d,0,none⟩),.agg o.cells.toArray] w fun v w'=>∃(x:Int) (e:Nat) (S':St) (tk':List (Nat×Nat)) (ro':Ro),v=.tuple #[.int .u64 x,.int .i64 (e:Int)]∧DoesR n o l vas S tk x e S' tk'∧RExt w ro ro'∧LawAt w0 w' ro' J n S' d tk'∧FrD ro w w':=by
 refine F11_of ?_;unfold F11;try dsimp only [t_a,Uii,Uvi,ce_,lb_,li_,lp_,ls_,ui_]
 have hI:=H.inv;have hn:=H.n1;refine New.mk fun w1 n1 f1 s1=>?_;have H1:=H.cut.fr0 f1;have hrw:((ro.cut w) w.heap.size).1=0:=Ro.cut_new (Nat.le_refl _);have e1:RExt w ro (ro.cut w):=RExt.cut;have hsz1:w.heap.size≤w1.heap.size:=f1.size;obtain⟨p1,c1,d1,_,_⟩:=H1.desk.st
 try simp only [d1.ld_iff,n1.ld_iff,sb_,Nat.reduceAdd]
 refine Ret.use (f12k (H1.fr0 (Fr.refl _ _).drew).sys hI.rl) ?_;rintro _ w2 ⟨q2,c2,rfl,sl2,f2⟩;have f2:=f2.of_drew;have H2:=H1.fr0 f2;have n2:=n1.fr0 f2;have hsz2:w.heap.size≤w2.heap.size:=Nat.le_trans hsz1 f2.size;obtain⟨p,c,d2,sl,hon⟩:=H2.desk.st;simp only [sb_,Nat.reduceAdd];refine⟨n2.cell.trans rfl,?_⟩;refine u_ (f23 sl2.rd hI.rl o.r hO.r) ?_;obtain⟨a,ha,ha40⟩:=s_j hI (by decide) o.r;rw [ha];have hO2:=hO.fr0 H2.fr;have hlq:l≠[]→∀b,On o.lq b→((ro.cut w) b).1=0:=fun hl b hb=>H2.ext b (hO.lo hl b hb);have hstd:=hI.std hn;have endE:∀{ro':Ro},RExt w2 (ro.cut w) ro'→RExt w ro ro':=fun E=>RExt.then e1 hsz2 E
 have frd:∀{a b:World},Fr0 w a→FrR (ro.cut w) a b→FrD ro w b:=fun f F=>(f.mono fun _ _ h=>h.elim:FrD ro w _).thenS F fun x hx hs=>.inl (by rw [RExt.cut x hx] at hs;exact hs);have f02:Fr0 w w2:=f1.trans f2;have f02d:Fr0 w w2.drew:=f02.drew
 try simp only [n2.ld_iff,d2.ld_iff,sb_,Nat.reduceAdd]
 refine O_ (fun hk=>?_) (fun k1=>?_)
 ·try simp only [d2.ld_iff,sb_,Nat.reduceAdd]
  refine Ret.use (f41 H2.sys (by decide) hI.fresh) ?_;rintro _ w3 ⟨x,e,S',ro',rfl,hr,E,hS',F⟩;simp only [sb_,Nat.reduceAdd];refine u_ (f17 _) ?_;simp only [sb_,Nat.reduceAdd];exact⟨(x:Int),e,S',tk,ro',by trivial,.root hk hr,endE E,H2.sysT hS' F E (hI.rootR hr),frd f02 F⟩
 try simp only [n2.ld_iff,d2.ld_iff,sb_,Nat.reduceAdd]
 refine O_ (fun hk=>?_) (fun k2=>?_)
 ·try simp only [d2.ld_iff,sb_,Nat.reduceAdd]
  refine Ret.use (f18 H2.sys a (fun R hR=>?_) (fun R hR _ _=>(hI.freeH hR).2)) ?_
  ·have:=hI.small (by decide) (U_ hR);omega
  rintro _ w3 ⟨e,S',rfl,hr,hS',F⟩;simp only [sb_,Nat.reduceAdd];refine u_ (f17 _) ?_;simp only [sb_,Nat.reduceAdd];exact⟨0,e,S',tk,ro.cut w,by trivial,.free hk ha hr,e1,H2.sysT hS' F (RExt.refl _ _) (hI.freeR hr),frd f02 F⟩
 try simp only [n2.ld_iff,d2.ld_iff,sb_,Nat.reduceAdd]
 refine O_ (fun hk=>?_) (fun k3=>?_)
 ·try simp only [n2.ld_iff,d2.ld_iff,sb_,Nat.reduceAdd]
  rw [hO.ln];refine Ret.use (f24 (H2.fr0 (Fr.refl _ _).drew).sys hstd (by decide) hn a ha40 (hO2.lr.fr0 (Fr.refl _ _).drew) hlq hO.lc hO.ls hO.lw (hI.putPre hn (by decide))) ?_;rintro _ w3 ⟨e,S',ro',rfl,hr,E,hS',F⟩;simp only [sb_,Nat.reduceAdd];refine u_ (f17 _) ?_;simp only [sb_,Nat.reduceAdd];exact⟨0,e,S',tk,ro',by trivial,.put hk ha hr,endE E,(H2.fr0 (Fr.refl _ _).drew).sysT hS' F E (hI.putE (by decide) hr),frd f02d F⟩
 try simp only [n2.ld_iff,d2.ld_iff,sb_,Nat.reduceAdd]
 refine O_ (fun hk=>?_) (fun k4=>?_)
 ·try simp only [n2.ld_iff,d2.ld_iff,sb_,Nat.reduceAdd]
  rw [hO.ln];refine Ret.use (f29 (H2.fr0 (Fr.refl _ _).drew).sys hstd hn a (hO2.lr.fr0 (Fr.refl _ _).drew) hlq hO.lc hO.ls hO.lw) ?_;rintro _ w3 ⟨e,ro',rfl,hr,E,hS',F⟩;simp only [sb_,Nat.reduceAdd];refine u_ (f17 _) ?_;simp only [sb_,Nat.reduceAdd];exact⟨0,e,S,tk,ro',by trivial,.fits hk ha hr,endE E,(H2.fr0 (Fr.refl _ _).drew).sysT hS' (F.R (by decide)) E hI,frd f02d (F.R (by decide))⟩
 try simp only [n2.ld_iff,d2.ld_iff,sb_,Nat.reduceAdd]
 refine O_ (fun hk=>?_) (fun k5=>?_)
 ·try simp only [n2.ld_iff,d2.ld_iff,sb_,Nat.reduceAdd]
  rw [hO.vn];refine Ret.use (f44 (H2.fr0 (Fr.refl _ _).drew).sys hstd (by decide) a ha40 hI.so o.sid (hO2.vr.fr0 (Fr.refl _ _).drew) hO.vw hO.vs (fun R out h=>Nat.le_trans (hI.choLen hn h) (by decide)) (hI.cutPre hn (by decide))) ?_;rintro _ w3 ⟨e,S',ro',rfl,hr,E,hS',F⟩;simp only [sb_,Nat.reduceAdd];refine u_ (f17 _) ?_;simp only [sb_,Nat.reduceAdd];exact⟨0,e,S',tk,ro',by trivial,.cut hk ha hr,endE E,(H2.fr0 (Fr.refl _ _).drew).sysT hS' F E (hI.cutE hr),frd f02d F⟩
 try simp only [n2.ld_iff,d2.ld_iff,sb_,Nat.reduceAdd]
 refine O_ (fun hk=>?_) (fun k6=>?_)
 ·try simp only [n2.ld_iff,d2.ld_iff,sb_,Nat.reduceAdd]
  rw [hO.vn];refine Ret.use (f45 (H2.fr0 (Fr.refl _ _).drew).sys hstd (by decide) a ha40 hI.so o.sid o.ap o.bits o.ng o.xn (hO2.vr.fr0 (Fr.refl _ _).drew) hO.vw hO.vs (fun R out h=>Nat.le_trans (hI.choLen hn h) (by decide)) (hI.chgPre hn (by decide))) ?_;rintro _ w3 ⟨e,S',ro',rfl,hr,E,hS',F⟩;simp only [sb_,Nat.reduceAdd];refine u_ (f17 _) ?_;simp only [sb_,Nat.reduceAdd];exact⟨0,e,S',tk,ro',by trivial,.chg hk ha hr,endE E,(H2.fr0 (Fr.refl _ _).drew).sysT hS' F E (hI.chgE hr),frd f02d F⟩
 try simp only [n2.ld_iff,d2.ld_iff,sb_,Nat.reduceAdd]
 refine O_ (fun hk=>?_) (fun k7=>?_)
 ·try simp only [n2.ld_iff,d2.ld_iff,sb_,Nat.reduceAdd]
  refine Ret.use (f19 (H2.fr0 (Fr.refl _ _).drew).sys hstd (by decide) a ha40 hI.so o.sid ?_ ?_ (hI.emptyPre hn (by decide))) ?_
  ·intro R hR t ht;exact zero_pre hn (by decide) (hI.xi (U_ hR)) (hI.root _ (U_ hR)) (hI.frames (U_ hR)).1 ht
  ·intro R hR;exact o_i hn (hI.root _ (U_ hR))
  rintro _ w3 ⟨e,S',ro',rfl,hr,E,hS',F⟩;simp only [sb_,Nat.reduceAdd];refine u_ (f17 _) ?_;simp only [sb_,Nat.reduceAdd];exact⟨0,e,S',tk,ro',by trivial,.empty hk ha hr,endE E,(H2.fr0 (Fr.refl _ _).drew).sysT hS' F E (hI.emptyE hr),frd f02d F⟩
 try simp only [n2.ld_iff,d2.ld_iff,sb_,Nat.reduceAdd]
 refine O_ (fun hk=>?_) (fun k8=>?_)
 ·try simp only [n2.ld_iff,d2.ld_iff,sb_,Nat.reduceAdd]
  have Hd:=H2.fr0 (Fr.refl _ _).drew;refine Ret.use (I_i Hd.sys.ps Hd.sys.gl Hd.sys.low o.cn o.al hO.cn.2) ?_;rintro _ w3 ⟨r,e,p',rfl,ht,hps,F⟩;have hS3:Sys w3 (ro.cut w) J 256 n { S with p:=p' }:=Hd.sys.psT (RExt.refl _ _) hps F;have FR:FrR (ro.cut w) w2.drew w3:=F.R (by decide);have n3:=n2.drew.fr FR (fun h=>h hrw);have f03:Fr0 w0 w3:=Hd.fr.thenS FR fun x hx hs=>hs (Hd.ext x hx);simp only [sb_,Nat.reduceAdd];refine u_ (f17 _) ?_;simp only [sb_,Nat.reduceAdd];refine O_ (fun he=>?_) (fun he=>?_)
  ·obtain rfl:e=0:=by omega
   obtain⟨hI3,hcn⟩:=(hI.take ht).1 rfl;have D3:=Hd.desk.fr FR (fun x hx h=>h hx) (RExt.refl _ _);obtain⟨p3,c3,d3,sl3,hon3⟩:=D3.st;have htl:=hI.tkLen
   try simp only [d3.ld_iff,n3.ld_iff,sb_,Nat.reduceAdd]
   refine RunV.build1 E55 (by decide) rfl fun w4 b4 f4 s4=>?_;have d4:=d3.fr0 f4.of_drew;have sl4:=sl3.fr0 f4.of_drew;simp only [sb_,Nat.reduceAdd];refine⟨d4.cell.trans rfl,?_⟩;have hB4:w0.heap.size≤w4.heap.size:=Nat.le_trans f03.size f4.of_drew.size;refine J_b E55 sl4 hB4 (news:=[.int .i64 (r:Int),.int .i64 o.cn]) (m:=1) (fun j u hu=>?_) rfl (fun u hu=>?_) (by simp only [maxLen];omega) (by omega) (fun p5 c5 w5 sl5 f5 hon5=>?_)
   ·rw [Nat.zero_add];exact b4.cell.trans hu
   ·simp only [List.mem_cons,List.not_mem_nil,or_false] at hu;rcases hu with rfl|rfl<;>rfl
   have d5:=d4.fr f5 (fun h=>(hon3 _ h).2 rfl);simp only [sb_,Nat.reduceAdd];refine d5.st (by simp) rfl fun w6 d6 f6 s6=>?_;refine u_ (f17 _) ?_;simp only [sb_,Nat.reduceAdd];have hS4:Sys w4 (ro.cut w) J 256 n { S with p:=p' }:=hS3.fr0 f4.of_drew;have hcells:Y_ (tkI tk)++[.int .i64 (r:Int),.int .i64 o.cn]=Y_ (tkI (tk++[(r,o.cn.toNat)])):=by
    rw [X_f];have:((o.cn.toNat:Nat):Int)=o.cn:=by omega
    simp [Y_,tkI,this]
   rw [hcells] at sl5;have hlen:tk.length+1=(tk++[(r,o.cn.toNat)]).length:=by simp
   rw [hlen] at sl5 d6;obtain⟨k1,k2,k3⟩:=G_h hS4 H.b7 sl4 hon3 D3.rd D3.lo d4.lt sl5 f5 hon5 d6 f6;have hE:RExt w ro ((ro.cut w).desk w4):=RExt.then e1 (Nat.le_trans hsz2 (Nat.le_trans FR.size f4.of_drew.size)) RExt.desk
   have htr:=(DoesR.take (n:=n) (o:=o) (l:=l) (vas:=vas) (tk:=tk) hk ht);rw [show u64.wrap (r:Int)=(r:Int) from b_a (by omega) (by have:=hI.lt;obtain⟨_,_,_,k⟩:=ht.acc hI.acc;have:=(k rfl).2.2.1;omega)];refine⟨(r:Int),0,_,_,(ro.cut w).desk w4,by trivial,htr,hE,⟨k1,hI3,hn,k2,fun b hb=>by rw [hE b (Nat.lt_of_lt_of_le hb H.fr.size)];exact H.ext b hb,
    (f03.trans f4.of_drew).newS k3 (fun b hb=>hb.elim (fun h=>(sl4.lt b h).1) (fun h=>by rw [h];exact D3.lo)),H.b7⟩,?_⟩
   refine ((frd f02d FR).trans (f4.of_drew.mono fun _ _ h=>h.elim)).thenS k3 fun x hx hs=>.inr ?_;rcases hs with hs|hs
   ·have h1:=(hon3 x hs).1;rw [RExt.cut x hx] at h1;exact h1
   ·rw [hs] at hx ⊢;have h1:=D3.rd;rw [RExt.cut d hx] at h1;exact h1
  ·refine u_ (f17 _) ?_;simp only [sb_,Nat.reduceAdd];obtain rfl:=(hI.take ht).2 (by omega);have hr0:r=0:=(ht.err (by omega)).2;rw [show u64.wrap (r:Int)=(r:Int) from b_a (by omega) (by omega)];exact⟨(r:Int),e,S,tk,ro.cut w,by trivial,.takeN hk (by omega) ht,e1,Hd.sysT hS3 FR (RExt.refl _ _) hI,frd f02d FR⟩
 try simp only [n2.ld_iff,d2.ld_iff,sb_,Nat.reduceAdd]
 refine O_ (fun hk=>?_) (fun k9=>?_)
 ·try simp only [n2.ld_iff,d2.ld_iff,sb_,Nat.reduceAdd]
  refine C_ (fun h0=>?_) (fun h0=>?_)
  ·have hpos:0<tk.length:=by omega
   have htl:=hI.tkLen
   try simp only [n2.ld_iff,d2.ld_iff,sb_,Nat.reduceAdd]
   refine u_ (f37 o.cn _ (by omega) (by omega) hO.cn) ?_;have m1:=Int.emod_nonneg o.cn (by omega:((tk.length:Int))≠0);have m2:=Int.emod_lt_of_pos o.cn (by omega:0<(tk.length:Int));obtain⟨i,hi⟩:∃i:Nat,o.cn.emod (tk.length:Int)=(i:Int):=⟨(o.cn%(tk.length:Int)).toNat,by show o.cn%_=_;omega⟩;have hil:i<tk.length:=by have:o.cn.emod (tk.length:Int)=o.cn%(tk.length:Int):=rfl;omega
   rw [hi]
   try simp only [n2.ld_iff,d2.ld_iff,sb_,Nat.reduceAdd]
   obtain⟨⟨f,cc⟩,hfc⟩:∃t,tk[i]?=some t:=⟨tk[i],List.getElem?_eq_getElem hil⟩;refine pair_ld (sl.rd.fr0 (Fr.refl _ _).drew) rfl (t:=((f:Int),(cc:Int))) (by simp [tkI,hfc]) (by omega) ?_;dsimp only;have hdlt:=d2.lt;have hle:=sl.le;refine New.mk fun w3 n3 f3 s3=>?_;have f3:=f3.of_drew;change Has w3 w2.heap.size _ at n3;refine n3.st (by simp) rfl fun w4 n4 f4 s4=>?_;refine n4.st (by simp) rfl fun w5 n5 f5 s5=>?_;have f25:Fr0 w2 w5:=(f3.new f4 (Nat.le_refl _)).new f5 (Nat.le_refl _);have d5:=d2.fr0 f25;have sl5:=sl.fr0 f25;have hs25:w2.heap.size≤w5.heap.size:=f25.size
   try simp only [d5.ld_iff,n5.ld_iff,sb_,Nat.reduceAdd]
   refine⟨by omega,by omega,?_⟩
   try simp only [d5.ld_iff,n5.ld_iff,sb_,Nat.reduceAdd]
   rw [w64 (n:=(i:Int)+1) (by omega) (by omega),show ((i:Int)+1).toNat=i+1 by omega,Int.toNat_natCast];refine⟨by omega,by omega,?_⟩;have hB:w0.heap.size≤w2.heap.size:=H2.fr.size;refine RunV.build0 E55 w0.heap.size (Nat.le_trans hB hs25) fun p6 w6 sl6 f6 hon6=>?_;have f6:=f6.of_drew;change ∀b,On p6 b→w5.heap.size≤b at hon6;have f26:Fr0 w2 w6:=f25.trans f6;have hs26:w2.heap.size≤w6.heap.size:=f26.size;have d6:=d5.fr0 f6;simp only [sb_,Nat.reduceAdd];refine⟨d6.cell.trans rfl,d6.cell.trans rfl,?_⟩;refine F_b E55 sl6 (Nat.le_trans hB hs26) ((sl5.fr0 f6).src_sub (lo:=0) (hi:=i) (by omega) (by omega)) (fun u hu=>L_i _ u (List.mem_of_mem_drop (List.mem_of_mem_take hu))) (by simp only [maxLen];omega) (by omega) fun p7 c7 w7 sl7 f7 hon7=>?_;rw [Nat.zero_add,List.nil_append] at sl7;have f27:Fr0 w2 w7:=f26.newS f7 (fun b hb=>Nat.le_trans hs25 (hon6 b hb));have hs27:w2.heap.size≤w7.heap.size:=f27.size;have d7:=d2.fr0 f27;simp only [sb_,Nat.reduceAdd];refine⟨d7.cell.trans rfl,?_⟩;refine F_b E55 sl7 (Nat.le_trans hB hs27) ((sl.fr0 f27).src_sub (lo:=i+1) (hi:=tk.length) (by omega) (by omega)) (fun u hu=>L_i _ u (List.mem_of_mem_drop (List.mem_of_mem_take hu))) (by simp only [maxLen];omega) (by omega) fun p8 c8 w8 sl8 f8 hon8=>?_;have hon7':∀b,On p7 b→w2.heap.size≤b:=fun b hb=>(hon7 b hb).elim (fun h=>Nat.le_trans hs25 (hon6 b h)) (fun h=>Nat.le_trans hs26 h);have f28:Fr0 w2 w8:=f27.newS f8 hon7';have d8:=d2.fr0 f28;have n8:Has w8 w2.heap.size [.int .i64 (f:Int),.int .i64 (cc:Int)]:=((n5.fr0 f6).fr f7 (fun h=>by have:=hon6 _ h;have:=n5.lt;omega)).fr f8 (fun h=>by
    rcases hon7 _ h with h|h
    ·have:=hon6 _ h;have:=n5.lt;omega
    ·have:=n5.lt;have:=f6.size;omega)
   simp only [sb_,Nat.reduceAdd];refine d8.st (by simp) rfl fun w9 d9 f9 s9=>?_;have n9:=n8.fr f9 (fun h=>by omega);have hlen:(i-0)+(tk.length-(i+1))=(tk.take i++tk.drop (i+1)).length:=by simp;omega
   have hcells:((Y_ (tkI tk)).drop (0*2)).take ((i-0)*2)++((Y_ (tkI tk)).drop ((i+1)*2)).take ((tk.length-(i+1))*2)=Y_ (tkI (tk.take i++tk.drop (i+1))):=by
    rw [X_f,Nat.zero_mul,List.drop_zero,Nat.sub_zero,tkI_take,tkI_drop]
    congr 1
    rw [List.take_of_length_le (by rw [tkI_len,List.length_drop];exact Nat.le_refl _)]
   rw [hcells,hlen] at sl8;rw [hlen] at d9;obtain⟨k1,k2,k3⟩:=G_h H2.sys H.b7 sl hon H2.desk.rd H2.desk.lo hdlt sl8 (f28.mono fun _ _ h=>h.elim) (fun b hb=>.inr ((hon8 b hb).elim (hon7' b) (fun h=>Nat.le_trans hs27 h))) d9 f9;have hsp:tk=tk.take i++(f,cc) :: tk.drop (i+1):=by
    obtain⟨h1,h2⟩:=List.getElem?_eq_some_iff.1 hfc;rw [←h2,←List.drop_eq_getElem_cons h1,List.take_append_drop]
   have hI':Inv 256 n (tk.take i++(f,cc) :: tk.drop (i+1)) S:=by rw [←hsp];exact hI
   obtain⟨r0,hI9⟩:=hI'.drop;have hfr:f<65536∧cc<65536:=by
    have h1:=hI'.tk1 (f,cc) (by simp);have h2:∀x,f≤x→x<f+cc→x<S.p.first+S.p.u.length:=fun x hx1 hx2=>(hI'.acc.rg x (List.mem_append.2 (.inr (List.mem_append.2 (.inr (List.mem_flatMap.2 ⟨(f,cc),by simp,mem_span.2 ⟨hx1,hx2⟩⟩)))))).2
    have h3:=h2 (f+cc-1) (by omega) (by omega);have h4:=hI.lt;omega
   have d9':Has w9 d [.pointer (some ⟨J.I.m,0,none⟩),.pointer (some ⟨J.b,0,none⟩),.pointer (some ⟨J.e,0,none⟩),.int .i64 (n:Int),.slice p8 (tk.take i++tk.drop (i+1)).length c8]:=d9;have n9':Has w9 w2.drew.heap.size [.int .i64 (f:Int),.int .i64 (cc:Int)]:=n9
   try simp only [d9'.ld_iff,n9'.ld_iff,sb_,Nat.reduceAdd]
   refine Ret.use (J_i (k1.fr0 (Fr.refl _ _).drew).ps (k1.fr0 (Fr.refl _ _).drew).gl (k1.fr0 (Fr.refl _ _).drew).low (f:Int) (cc:Int) (by omega) (by omega) (fun _=>hI9.held)) ?_;rintro _ w10 (⟨h,_⟩|⟨_,rfl,hps,F⟩)
   ·exact absurd r0 h
   simp only [sb_,Nat.reduceAdd];refine u_ (f17 _) ?_;simp only [sb_,Nat.reduceAdd];have hE:RExt w ro ((ro.cut w).desk w2):=RExt.then e1 hsz2 RExt.desk
   have f09:Fr0 w0 w9:=H2.fr.newS k3 (fun b hb=>hb.elim (fun h=>(sl.lt b h).1) (fun h=>by rw [h];exact H2.desk.lo));have hx:∀b,b<w0.heap.size→(((ro.cut w).desk w2) b).1=0:=fun b hb=>by rw [hE b (Nat.lt_of_lt_of_le hb H.fr.size)];exact H.ext b hb
   have FR:FrR ((ro.cut w).desk w2) w9.drew w10:=F.R (by decide);have hS10:=(k1.fr0 (Fr.refl _ _).drew).psT (RExt.refl _ _) hps F;refine⟨_,0,_,tk.take i++tk.drop (i+1),_,rfl,.drop hk hsp,hE,⟨hS10,hI9,hn,k2.fr (T:=fun b=>(((ro.cut w).desk w2) b).1≠0) FR.of_drew (fun x hx h=>h hx) (RExt.refl _ _),hx,f09.thenS FR.of_drew (fun x hx' hs=>hs (hx x hx')),H.b7⟩,?_⟩;have hdesk:∀x,x<w.heap.size→On p x∨x=d→ro x=(0,100):=fun x hx hs=>by
    rcases hs with hs|hs
    ·have h1:=(hon x hs).1;rw [RExt.cut x hx] at h1;exact h1
    ·rw [hs] at hx ⊢;have h1:=H2.desk.rd;rw [RExt.cut d hx] at h1;exact h1
   have k3':FrD ro w w9:=(f02.mono fun _ _ h=>h.elim:FrD ro w w2).thenS k3 fun x hx hs=>.inr (hdesk x hx hs);exact k3'.thenS FR.of_drew fun x hx hs=>.inl (by rw [hE x hx] at hs;exact hs)
  ·obtain rfl:tk=[]:=List.eq_nil_of_length_eq_zero (by omega);exact⟨0,0,S,[],ro.cut w,by trivial,.dropN hk rfl,e1,H2,f02.mono fun _ _ h=>h.elim⟩
 ·exact⟨0,0,S,tk,ro.cut w,by trivial,.none (by omega),e1,H2,f02.mono fun _ _ h=>h.elim⟩
def n_c (pa:Nat):Tr:=⟨1,4096,pa,1,3,14,true,false⟩
theorem f42 {w:World} (pa:Nat):Ret prog 42 #[.int .u32 4096,.int .u64 (pa:Int)] w fun v w'=>v=(n_c pa).v∧Fr0 w w':=by
 refine F42a_of ?_;unfold F42a;try dsimp only [B_,S_8,lb_,li_]
 refine K_j (fun w1 n1 f1 s1=>?_)
 try simp only [n1.ld_iff,sb_,Nat.reduceAdd]
 exact⟨by trivial,f1⟩
theorem st8 {w:World} {b:Nat} {cs:List Value} (h:Has w b cs) (hl:cs.length=8) {v0 v1 v2 v3 v4 v5 v6 v7:Value} {K:World→Prop} (k:∀w',Has w' b [v0,v1,v2,v3,v4,v5,v6,v7]→Fr (·=b) w w'→w'.heap.size=w.heap.size→K w')
  (h0:v0.oneCell'=true:=by rfl) (h1:v1.oneCell'=true:=by rfl) (h2:v2.oneCell'=true:=by rfl) (h3:v3.oneCell'=true:=by rfl) (h4:v4.oneCell'=true:=by rfl) (h5:v5.oneCell'=true:=by rfl) (h6:v6.oneCell'=true:=by rfl) (h7:v7.oneCell'=true:=by rfl) :
  Sh.St w ⟨b,0,none⟩ v0 fun w2=>Sh.St w2 ⟨b,1,none⟩ v1 fun w3=>Sh.St w3 ⟨b,2,none⟩ v2 fun w4=>Sh.St w4 ⟨b,3,none⟩ v3 fun w5=>Sh.St w5 ⟨b,4,none⟩ v4 fun w6=>Sh.St w6 ⟨b,5,none⟩ v5 fun w7=>Sh.St w7 ⟨b,6,none⟩ v6 fun w8=>Sh.St w8 ⟨b,7,none⟩ v7 fun w9=>K w9:=by
 obtain⟨c0,c1,c2,c3,c4,c5,c6,c7,rfl⟩:∃c0 c1 c2 c3 c4 c5 c6 c7,cs=[c0,c1,c2,c3,c4,c5,c6,c7]:=by
  match cs,hl with
  | [c0,c1,c2,c3,c4,c5,c6,c7],_=>exact⟨_,_,_,_,_,_,_,_,rfl⟩
 refine h.st (by simp) h0 fun w2 n1 f1 s1=>?_;refine n1.st (by simp) h1 fun w3 n2 f2 s2=>?_;refine n2.st (by simp) h2 fun w4 n3 f3 s3=>?_;refine n3.st (by simp) h3 fun w5 n4 f4 s4=>?_;refine n4.st (by simp) h4 fun w6 n5 f5 s5=>?_;refine n5.st (by simp) h5 fun w7 n6 f6 s6=>?_;refine n6.st (by simp) h6 fun w8 n7 f7 s7=>?_;refine n7.st (by simp) h7 fun w9 n8 f8 s8=>?_;exact k w9 (by simpa using n8) (f1.trans f2 |>.trans f3 |>.trans f4 |>.trans f5 |>.trans f6 |>.trans f7 |>.trans f8) (by omega)
theorem f43 {w:World} {ro:Ro} {J:Ids} {fr n:Nat} {S:St} (hS:Sys w ro J fr n S) (hI:Std n S) (a:Nat) {R:RootS} (hr:root? S.roots a=some R) (hso:R.blocks.Pairwise fun a b=>a.va<b.va) (va:Nat) (hva:va<4294967296) {i:Nat} {t:Tr}
  (hf:L_a R.blocks va=(i,true)) (ht:R.blocks[i]?=some t) :
  Ret prog 43 #[.pointer (some ⟨J.e,0,none⟩),.int .u64 (a:Int),.int .u32 (va:Int)] w fun v w'=>v=.tuple #[t.v,.bool true]∧Fr0 w w':=by
 refine F43_of ?_;unfold F43;try dsimp only [B_,S_8,Uib,Upb,lb_,li_,lm_,ls_,ub_,ui_,up_]
 refine New.mk fun w1 n1 f1 s1=>?_;have hS1:=hS.fr0 f1;have hst:=hS1.ed.st
 try simp only [hst.ld_iff,sb_,Nat.reduceAdd]
 refine Y_b hS1 a (fun h0=>?_) (fun R1 hr1=>?_)
 ·rw [hr] at h0;cases h0
 rw [hr] at hr1;obtain rfl:=Option.some.inj hr1;have hm:=U_ hr;have hR1:=hS1.ed.root _ hm;simp only [sb_,Nat.reduceAdd];simp only [Bool.not_true,E_];refine Ret.use (f66 hS1.gl hR1 hso (Nat.le_trans (hI.len _ hm) (by decide)) (hI.wf _ hm) va hva) ?_;rintro _ w2 ⟨rfl,f2⟩;rw [hf];simp only [sb_,Nat.reduceAdd];simp only [Bool.not_true,E_];obtain⟨p2,c2,h1,h2,h3⟩:=((hS1.fr0 f2).ed.root _ hm).st;have n2:=n1.fr0 f2
 try simp only [h1.ld_iff,sb_,Nat.reduceAdd]
 refine g_a h2.rd rfl ht (by have:=(List.getElem?_eq_some_iff.1 ht).1;omega) ?_;refine st8 n2 rfl fun w3 n3 f3 s3=>?_
 try simp only [n3.ld_iff,sb_,Nat.reduceAdd]
 exact⟨by trivial,(f1.trans f2).new f3 (Nat.le_refl _)⟩
def p248:Pool:=⟨8,turn (List.replicate 248 0) 0 (fun _=>1) 1⟩
def L1 (rb tm:Nat):RootS:=⟨rb,tm,8,1,[],[]⟩
def M1:Mst:=⟨i_c (fun _=>0) 8 1,[⟨5,8,1⟩]⟩
theorem O_k {S':St} {x e:Nat} (h:x_k 2 (S0 248) x e S'):x=32768∧e=0∧∃rb tm,S'=⟨M1,p248,[],[(32768,L1 rb tm)]⟩:=by
 have hfit:Fit 8 (List.replicate 248 0) (1:Int).toNat (1:Int).toNat 0:=⟨by decide,by simp,fun y h1 h2=>by
  have:y=0:=by simp at h2;omega
  subst this;rfl⟩
 have hc:((cnt 2:Nat):Int)=1:=rfl;rcases h with ⟨he,_,h,_⟩|⟨he,r,p',rb,tm,h,hx,rfl⟩
 ·rw [hc] at h;exact absurd (h.eq G_f hfit (fun a ha=>absurd ha (by omega))).2.1 he
 ·rw [hc] at h;obtain⟨h1,_,h2⟩:=h.eq G_f hfit (fun a ha=>absurd ha (by omega));have h1:r=8:=h1;subst h1;refine⟨hx,he,rb,tm,?_⟩;rw [h2]
  rfl
theorem needs1:I_d [] [] (n_c 131072)=true:=by decide
theorem bad1 (pa:Nat) (h:pa=131072∨pa=196608):(n_c pa).bad 2=false:=by rcases h with rfl|rfl<;>decide
theorem may1:MayE 2 [] [n_c 131072] 0:=by
 refine .inr (.inr ⟨rfl,fun t ht=>?_,fun i t hi=>⟨fun b hb=>by simp at hb,fun b hb=>?_⟩⟩)
 ·rw [List.mem_singleton.1 ht];exact bad1 _ (.inl rfl)
 ·have:=(List.getElem?_eq_some_iff.1 hi).1;have:i=0:=by simp at this;omega
  subst this;simp at hb
theorem fit1:Fit p248.first p248.u 1 1 1:=by
 refine⟨by decide,by simp [p248,e_],fun y h1 h2=>?_⟩;have:y=1:=by omega
 subst this;show (turn (List.replicate 248 0) 0 (fun _=>1) 1).getD 1 0=0;rw [O_b _ _ _ _ _ (by simp)];simp [List.getD_eq_getElem?_getD]
theorem nofit1:∀a,a<1→¬Fit p248.first p248.u 1 1 a:=by
 intro a ha h;have:a=0:=by omega
 subst this;have h:=h.2.2 0 (Nat.le_refl _) (by omega);have e:p248.u.getD 0 0=1:=by
  show (turn (List.replicate 248 0) 0 (fun _=>1) 1).getD 0 0=1;rw [O_b _ _ _ _ _ (by simp)];simp
 rw [e] at h;cases h
theorem take1 {r e:Nat} {p':Pool} {l':List Qr} (h:STake p248 [] r e p' l'):r=36∧e=0:=by
 have h2:STake p248 [] (4*(p248.first+1)) 0 (p248.turned 1 (fun _=>1) 1) (insq (p248.first+1) []):=.fresh (fun q hq=>by simp at hq) 1 fit1 nofit1;obtain⟨h3,h4,_⟩:=h.det h2;exact⟨h3,h4⟩
theorem Y_k (mem:Nat→Nat) (pa v:Nat) (hv:v<2^32):getW (p_i mem pa v) pa=v:=by
 have h:∀j,j<4→p_i mem pa v (pa+j)=v/256^j%256:=by
  intro j hj;unfold p_i;simp only [setB,upd];rcases (by omega:j=0∨j=1∨j=2∨j=3) with rfl|rfl|rfl|rfl<;>simp
 unfold getW;rw [h 3 (by decide),h 2 (by decide),h 1 (by decide),show p_i mem pa v pa=v/256^0%256 from h 0 (by decide)];simp only [Nat.reducePow,Nat.div_one];omega
def evs2:List Ev:=[⟨5,8,1⟩,⟨5,9,1⟩,⟨1,32768,(tabW 36 1:Nat)⟩,⟨1,36868,133246⟩]
theorem word1:wordN (n_c 131072)=133246:=by decide
theorem live_put {S':St} {rb tm e:Nat} (h:PutE 2 ⟨M1,p248,[],[(32768,L1 rb tm)]⟩ 32768 [n_c 131072] e S') :
  e=0∧∃mem p l,S'=⟨⟨mem,evs2⟩,p,l,[(32768,⟨rb,tm,8,1,[n_c 131072],[(0,36)]⟩)]⟩∧getW mem 36868=133246∧p.u.length=248:=by
 have hr:root? [(32768,L1 rb tm)] 32768=some (L1 rb tm):=rfl;rcases h with ⟨he,h,_⟩|⟨he,R,got,mine,p',l',hR,_,ht,rfl⟩
 ·exfalso;rcases h with ⟨h,_⟩|⟨R,hR,h⟩
  ·rw [hr] at h;cases h
  rw [hr] at hR;obtain rfl:=Option.some.inj hR;rcases h with ⟨h,_⟩|⟨_,h|⟨h,_⟩⟩
  ·exact he (h.det may1)
  ·obtain⟨_,i,t,got,mine,p,l,r,p',l',hi,hti,hn,hs⟩:=h;have:=(List.getElem?_eq_some_iff.1 hi).1;have:i=0:=by simp at this;omega
   subst this;rw [List.take_zero] at hti;generalize hts:([]:List Tr)=ts at hti;cases hti with
   | nil=>exact he (take1 hs).2
   | skip h hn=>simp at hts
   | one h hn ho hs=>simp at hts
  ·exact he h
 ·rw [hr] at hR;obtain rfl:=Option.some.inj hR;refine⟨he,?_⟩;generalize hts:[n_c 131072]=ts at ht;cases ht with
  | nil=>simp at hts
  | @skip ts got mine p l t h hn =>
   exfalso;have h1:ts=[]:=by
    have:=congrArg List.length hts;simp at this;exact this
   subst h1;simp at hts;subst hts;generalize hts:([]:List Tr)=ts at h;cases h with
   | nil=>rw [show (L1 rb tm).tabs=[] from rfl,needs1] at hn;cases hn
   | skip h hn=>simp at hts
   | one h hn ho hs=>simp at hts
  | @one ts got mine p _ l _ t r h hn ho hs =>
   have h1:ts=[]:=by
    have:=congrArg List.length hts;simp at this;exact this
   subst h1;simp at hts;subst hts;generalize hts:([]:List Tr)=ts at h;cases h with
   | nil =>
    obtain⟨rfl,_⟩:=take1 hs;refine⟨_,_,_,rfl,?_,?_⟩
    ·show getW (p_i _ 36868 (wordN (n_c 131072))) 36868=133246;rw [Y_k _ _ _ (c_a _),word1]
    ·rw [(hs.ones (fun q hq=>by simp at hq) (fun q hq=>by simp at hq)).2.2.2.2];simp [p248,e_]
   | skip h hn=>simp at hts
   | one h hn ho hs=>simp at hts
def R2 (rb tm:Nat):RootS:=⟨rb,tm,8,1,[n_c 131072],[(0,36)]⟩
theorem P_k {S S':St} {rb tm e:Nat} (hS:S.roots=[(32768,R2 rb tm)]) (h:PutE 2 S 32768 [n_c 196608] e S'):e=141∧S'=S:=by
 have hr:root? S.roots 32768=some (R2 rb tm):=by rw [hS];rfl
 have hcl:X_ (n_c 196608) (n_c 131072)=true:=by decide
 have no:¬MayE 2 (R2 rb tm).blocks [n_c 196608] 0:=fun h=>by
  have:=(J_d h).2.1 (n_c 196608) (by simp) (n_c 131072) (by simp [R2]);rw [hcl] at this;cases this
 rcases h with ⟨he,h,hs⟩|⟨he,R,got,mine,p',l',hR,hm,_⟩
 ·refine⟨?_,hs⟩;rcases h with ⟨h,_⟩|⟨R,hR,h⟩
  ·rw [hr] at h;cases h
  rw [hr] at hR;obtain rfl:=Option.some.inj hR;rcases h with ⟨h,_⟩|⟨h,_⟩
  ·rcases h with ⟨_,t,ht,hb⟩|⟨h,_⟩|⟨h,_⟩
   ·rw [List.mem_singleton.1 ht,bad1 _ (.inr rfl)] at hb;cases hb
   ·exact h
   ·exact absurd h he
  ·exact absurd h no
 ·rw [hr] at hR;obtain rfl:=Option.some.inj hR;exact absurd hm no
theorem Q_k:L_a [n_c 131072] 8191=(0,true):=by decide
theorem SDrop.len {p p':Pool} {l l':List Qr} {t:Int} {e:Nat} (h:SDrop p l t e p' l'):p'.first=p.first∧p'.u.length=p.u.length:=by
 cases h with
 | none=>exact⟨rfl,rfl⟩
 | more=>exact⟨rfl,rfl⟩
 | last=>exact⟨rfl,e_ _ _ _ _⟩
def evs3:List Ev:=evs2++[⟨1,36868,0⟩,⟨3,2,4099⟩,⟨1,32768,0⟩]
theorem live_cut {mem:Nat→Nat} {p:Pool} {l:List Qr} {S':St} {rb tm e:Nat} (h:CutE ⟨⟨mem,evs2⟩,p,l,[(32768,R2 rb tm)]⟩ 32768 3 [6844] e S') :
  e=0∧S'.M.evs=evs3∧S'.p.u.length=p.u.length∧∃R,S'.roots=[(32768,R)]∧R.blocks=[]:=by
 have hr:root? [(32768,R2 rb tm)] 32768=some (R2 rb tm):=rfl;have hc:l_a [n_c 131072] [6844] []=some [n_c 131072]:=by decide
 have hb:¬g_c 3 0 0 true:=by unfold g_c;simp
 rcases h with ⟨he,h,_⟩|⟨he,R,out,y,⟨hR,_,hch⟩,hy,rfl⟩
 ·exfalso;rcases h with ⟨h,_⟩|⟨R,hR,⟨h,_⟩|⟨_,h,_⟩⟩
  ·rw [hr] at h;cases h
  ·exact hb h
  ·rw [hr] at hR;obtain rfl:=Option.some.inj hR;rw [show l_a (R2 rb tm).blocks [6844] []=some [n_c 131072] from hc] at h;cases h
 ·rw [hr] at hR;obtain rfl:=Option.some.inj hR;rw [show l_a (R2 rb tm).blocks [6844] []=some [n_c 131072] from hc] at hch;obtain rfl:=Option.some.inj hch;refine⟨he,?_⟩;generalize hts:[n_c 131072]=ts at hy;cases hy with
  | nil=>simp at hts
  | @snoc ts y _ t h hs =>
   have h1:ts=[]:=by
    have:=congrArg List.length hts;simp at this;exact this
   subst h1;simp at hts;subst hts;generalize hts:([]:List Tr)=ts at h;cases h with
   | snoc h hs=>simp at hts
   | nil =>
    have hbl:(K_e (R2 rb tm) (n_c 131072)).blocks=[]:=rfl;cases hs with
    | keep h =>
     exfalso;rw [show (K_e (⟨R2 rb tm,⟨mem,evs2⟩,p,l⟩:Xs).R (n_c 131072)).blocks=[] from rfl] at h;exact absurd h (by decide)
    | shut h T e p' l' hT hd =>
     refine⟨rfl,?_,P_f (K_e (R2 rb tm) (n_c 131072)) 0,rfl,rfl⟩;show p'.u.length=p.u.length;exact (SDrop.len hd).2
theorem Acc.free {p:Pool} (h:Acc p []):p.free=p.u.length:=by
 unfold Pool.free;rw [List.countP_eq_length];intro x hx;obtain⟨i,hi,rfl⟩:=List.getElem_of_mem hx;have:=h.us i hi;rw [r_ hi,if_neg (by simp)] at this;simpa using this
theorem Inv.bare {fr n:Nat} {tk:List (Nat×Nat)} {S:St} (h:Inv fr n tk S) (hb:∀x∈S.roots,x.2.blocks=[]):tabs S.l=[]∧S.l=[]:=by
 have h0:rootT S.roots=[]:=by
  unfold rootT;rw [List.flatMap_eq_nil_iff];intro x hx;have hR:=h.root x hx;cases ht:x.2.tabs with
  | nil=>rfl
  | cons y r =>
   obtain⟨t,ht,_⟩:=(hR.tk y.1).1 (tab_isSome.2 (by rw [ht];simp));rw [hb x hx] at ht;simp at ht
 have h1:tabs S.l=[]:=by
  have:=h.tb;rw [h0] at this;exact this.nil_eq.symm
 exact⟨h1,tabs_nil h.ok h1⟩
theorem Inv.allFree {fr n:Nat} {S:St} (h:Inv fr n [] S) (hr:S.roots=[]):S.p.free=S.p.u.length:=by
 have hl:=(h.bare (by rw [hr];simp)).2;have:=h.acc;rw [hr,hl] at this;exact this.free
end Go.Proofs.YtmgjicnipgdjhaaGreatDoor
