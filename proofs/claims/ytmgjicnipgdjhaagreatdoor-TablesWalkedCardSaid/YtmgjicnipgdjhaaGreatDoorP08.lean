import Derived.Test.YtmgjicnipgdjhaaGreatDoorP07
import Derived.ProofKit
import Derived.LaidMore
import Derived.OpenShut
import Derived.Carry
import Derived.Stop.Joined
import Derived.SevenTiedAt
set_option linter.unusedVariables false
set_option linter.unusedSimpArgs false
set_option maxRecDepth 10000
namespace Go.Proofs.YtmgjicnipgdjhaaGreatDoor
open Go Go.Sh Go.Fr
set_option maxHeartbeats 1000000 in
theorem f10 {w:World} (hG:Gl w):Ret prog 10 #[] w fun v w'=>v=.bool true∧Fr0 w w':=by
 refine F10_of _ _ ?_;unfold F10;try dsimp only [C_8,B_,S_8,a_,Upi,Uui,Uvi,ce_,lb_,li_,ub_,ui_,up_]
 have hsz:=hG.gr.size;refine Ret.use (f38 (fun _=>(0,0)) hG.gr 256 2 2 2 (by decide) (by decide) (by decide) (by decide) (by decide) (by decide) 0 0) ?_;rintro _ w2 ⟨I,ro2,rfl,e2,hM,f2⟩;have hs2:=f2.size;simp only [sb_,Nat.reduceAdd];refine Ret.use (f39 8 248 (by decide)) ?_;rintro _ w3 (⟨he,_⟩|⟨_,_,_,_,_,b,bu,bd,rfl,hP,f3,l1,l2,l3⟩)
 ·exfalso;apply he;unfold newErr;rw [if_neg (by omega),if_neg (by omega)]
 have hP:PoolAt w3 b bu bd ⟨8,List.replicate 248 0⟩:=hP;simp only [sb_,Nat.reduceAdd];refine u_ (f17 0) ?_;simp only [sb_,Nat.reduceAdd];refine b_ (fun h=>absurd rfl h) (fun _=>?_);refine u_ (f17 0) ?_;simp only [sb_,Nat.reduceAdd];refine b_ (fun h=>absurd rfl h) (fun _=>?_);simp only [Option.isNone_some,E_];have E3:RExt w2 ro2 (fun x=>if x<w2.heap.size then ro2 x else (12,0)):=fun x hx=>by simp only [if_pos hx]
 have hG3:=hG.fr0 (f2.trans f3);have hlow:Low (fun x=>if x<w2.heap.size then ro2 x else (12,0)):=fun x hx=>by
  simp only [if_pos (by omega:x<w2.heap.size)];rw [e2 x (by omega)]
 have hM3:MachAt w3 (fun x=>if x<w2.heap.size then ro2 x else (12,0)) I 256 ⟨fun _=>0,[]⟩:=(hM.ext E3).fr0 f3;refine Ret.use (f40 (fr:=256) hG3 hlow hM3 hP ?_ (n:=2) (by omega) (by simp)) ?_
 ·intro x hx;have:¬x<w2.heap.size:=by rcases hx with rfl|rfl|rfl<;>omega
  simp only [if_neg this]
 rintro _ w4 ⟨J,ro4,rfl,rfl,rfl,rfl,rfl,e4,hS4,f4⟩;simp only [sb_,Nat.reduceAdd];have hI4:Inv 256 2 [] (S0 248):=Inv.start (by decide) _;have hS4:Sys w4 ro4 J 256 2 (S0 248):=hS4;have hn:1≤2∧2≤7:=by decide
 have f04:Fr0 w w4:=f2.trans (f3.trans f4);have hs3:=f3.size;have z4:∀b,b<w.heap.size→(ro4 b).1=0:=fun x hx=>by
  rw [e4 x (by omega)];simp only [if_pos (by omega:x<w2.heap.size)];rw [e2 x (by omega)]
 have keep:∀{w1 w1':World} {ro ro':Ro},Fr0 w w1→(∀b,b<w.heap.size→(ro b).1=0)→FrR ro w1 w1'→RExt w1 ro ro'→Fr0 w w1'∧∀b,b<w.heap.size→(ro' b).1=0:=fun f z F E =>
  ⟨f.thenS F (fun x hx hs=>hs (z x hx)),fun b hb=>by rw [E b (Nat.lt_of_lt_of_le hb f.size)];exact z b hb⟩
 refine u_ (f17 0) ?_;simp only [sb_,Nat.reduceAdd];refine b_ (fun h=>absurd rfl h) (fun _=>?_);simp only [Option.isNone_some,E_];refine Ret.use (f41 hS4 (by decide) hI4.fresh) ?_;rintro _ w5 ⟨x,e,S5,ro5,rfl,hr,E5,hS5,F5⟩;have hI5:=hI4.rootR hr;obtain⟨rfl,rfl,rb,tm,q5⟩:=O_k hr;obtain⟨f05,z5⟩:=keep f04 z4 F5 E5;simp only [sb_,Nat.reduceAdd];refine u_ (f17 _) ?_;simp only [sb_,Nat.reduceAdd];refine b_ (fun h=>absurd rfl h) (fun _=>?_);refine b_ (fun h=>absurd rfl h) (fun _=>?_);refine Ret.use (f42 131072) ?_;rintro _ w6 ⟨rfl,f6⟩;unfold Tr.v Tr.cells;simp only [sb_,Nat.reduceAdd];refine RunV.build1 E57 (by decide) rfl fun w7 b7 f7 s7=>?_;simp only [sb_,Nat.reduceAdd];have E7:RExt w5 ro5 (ro5.cut w6):=fun x hx=>RExt.cut x (Nat.lt_of_lt_of_le hx f6.size);have hS7:Sys w7 (ro5.cut w6) J 256 2 _:=((hS5.ext E7).fr0 f6).fr0 f7;have f07:=(f05.trans f6).trans f7;have z7:∀b,b<w.heap.size→((ro5.cut w6) b).1=0:=fun b hb=>by rw [E7 b (Nat.lt_of_lt_of_le hb f05.size)];exact z5 b hb
 have hrd7:Rd w7 (some ⟨w6.heap.size,0,none⟩) (D_ [n_c 131072]):=fun i v hv=>⟨_,_,rfl,by rw [Nat.zero_add];exact b7.cell.trans hv⟩;have h7n:∀b,On (some ⟨w6.heap.size,0,none⟩) b→((ro5.cut w6) b).1=0:=fun b hb=>by
  obtain⟨a,ha,hab⟩:=hb;injection ha with ha
  rw [←hab,←ha];exact Ro.cut_new (Nat.le_refl _)
 have h24:=f24 hS7 (hI5.std hn) (by decide) hn 32768 (by omega) hrd7 (fun _=>h7n) (c:=1) (Nat.le_refl 1) (by show 1≤9000000000000;omega) (fun t ht=>by rw [List.mem_singleton.1 ht];show 4096<4294967296;omega) (hI5.putPre hn (by decide));refine Ret.use h24 ?_;intro v w8 h;obtain⟨e,S8,ro8,h1,hr,E8,hS8,F8⟩:=h;subst h1;have hI8:=hI5.putE (by decide) hr;obtain⟨rfl,mem,p8,l8,q8,hmem,hpl⟩:=live_put (by rw [←q5];exact hr);obtain⟨f08,z8⟩:=keep f07 z7 F8 E8;simp only [sb_,Nat.reduceAdd];refine u_ (f17 _) ?_;simp only [sb_,Nat.reduceAdd];refine b_ (fun h=>absurd rfl h) (fun _=>?_);refine Ret.use (f42 196608) ?_;rintro _ w9 ⟨rfl,f9⟩;unfold Tr.v Tr.cells;simp only [sb_,Nat.reduceAdd];refine RunV.build1 E57 (by decide) rfl fun w10 b10 f10 s10=>?_;simp only [sb_,Nat.reduceAdd];have E10:RExt w8 ro8 (ro8.cut w9):=fun x hx=>RExt.cut x (Nat.lt_of_lt_of_le hx f9.size);have hS10:Sys w10 (ro8.cut w9) J 256 2 S8:=((hS8.ext E10).fr0 f9).fr0 f10;have f010:=(f08.trans f9).trans f10;have z10:∀b,b<w.heap.size→((ro8.cut w9) b).1=0:=fun b hb=>by rw [E10 b (Nat.lt_of_lt_of_le hb f08.size)];exact z8 b hb
 have hrd10:Rd w10 (some ⟨w9.heap.size,0,none⟩) (D_ [n_c 196608]):=fun i v hv=>⟨_,_,rfl,by rw [Nat.zero_add];exact b10.cell.trans hv⟩;have h10n:∀b,On (some ⟨w9.heap.size,0,none⟩) b→((ro8.cut w9) b).1=0:=fun b hb=>by
  obtain⟨a,ha,hab⟩:=hb;injection ha with ha
  rw [←hab,←ha];exact Ro.cut_new (Nat.le_refl _)
 have h24:=f24 hS10 (hI8.std hn) (by decide) hn 32768 (by omega) hrd10 (fun _=>h10n) (c:=1) (Nat.le_refl 1) (by show 1≤9000000000000;omega) (fun t ht=>by rw [List.mem_singleton.1 ht];show 4096<4294967296;omega) (hI8.putPre hn (by decide));refine Ret.use h24 ?_;intro v w11 h;obtain⟨e,S11,ro11,h1,hr,E11,hS11,F11⟩:=h;subst h1;have hroots:S8.roots=[(32768,R2 rb tm)]:=by rw [q8];rfl
 obtain⟨h1,h2⟩:=P_k hroots hr;subst h1;subst h2;obtain⟨f011,z11⟩:=keep f010 z10 F11 E11;simp only [sb_,Nat.reduceAdd];refine u_ (f17 _) ?_;simp only [sb_,Nat.reduceAdd];refine b_ (fun h=>absurd rfl h) (fun _=>?_);have hMm:S11.M.mem=mem:=by rw [q8]
 have h36:=f36 hS11.mach 36868;rw [hMm,hmem,show wErr 256 36868=0 from by decide,if_pos rfl] at h36;refine u_ h36 ?_;simp only [sb_,Nat.reduceAdd];have hrt:root? S11.roots 32768=some (R2 rb tm):=by rw [hroots];rfl
 have h43:=f43 hS11 (hI8.std hn) 32768 hrt (hI8.so _ hrt) 8191 (by omega) (i:=0) (t:=n_c 131072) Q_k rfl;refine Ret.use h43 ?_;rintro _ w12 ⟨rfl,f12⟩;unfold Tr.v Tr.cells;simp only [sb_,Nat.reduceAdd];refine K_j (fun w13 n13 f13 s13=>?_);refine b_ (fun h=>absurd rfl h) (fun _=>?_);simp only [Bool.not_true,E_]
 try simp only [n13.ld_iff,sb_,Nat.reduceAdd]
 refine Ret.use (f42 131072) ?_;rintro _ w14 ⟨rfl,f14⟩;have n14:=n13.fr0 f14.of_drew;unfold Tr.v Tr.cells;simp only [sb_,Nat.reduceAdd];refine⟨⟨n14.cell.trans rfl,n14.cell.trans rfl,n14.cell.trans rfl,n14.cell.trans rfl,n14.cell.trans rfl,n14.cell.trans rfl,n14.cell.trans rfl,n14.cell.trans rfl,trivial⟩,?_⟩;refine RunP.neqS S57 (fun w=>eq57 (n_c 131072) (n_c 131072) w) fun r hr=>?_;have hr1:r=true:=hr.2 rfl;subst hr1;rw [AsB_bool];show BIf false _ _;rw [E_];refine RunV.build1 E35 (by decide) rfl fun w15 b15 f15 s15=>?_;simp only [sb_,Nat.reduceAdd];have f1115:Fr0 w11 w15:=(((f12.trans f13).drew.trans f14).trans f15);have hS15:Sys w15 ro11 J 256 2 S11:=hS11.fr0 f1115;have f015:=f011.trans f1115;have hrd15:Rd w15 (some ⟨w14.heap.size,0,none⟩) (([6844]:List Nat).map fun v=>Value.int .u32 ((v:Nat):Int)):=fun i v hv=>⟨_,_,rfl,by rw [Nat.zero_add];exact b15.cell.trans hv⟩;have h44:=f44 hS15 (hI8.std hn) (by decide) 32768 (by omega) hI8.so 3 hrd15 (c:=1) (fun v hv=>by rw [List.mem_singleton.1 hv];omega) (by show 1≤100000000000000;omega) (fun R out h=>Nat.le_trans (hI8.choLen hn h) (by decide)) (hI8.cutPre hn (by decide));refine Ret.use h44 ?_;intro v w16 h;obtain⟨e,S16,ro16,h1,hr,E16,hS16,F16⟩:=h;subst h1;have hI16:=hI8.cutE hr;obtain⟨h1,hev,hpl16,R16,hr16,hb16⟩:=live_cut (by rw [←show R2 rb tm=⟨rb,tm,8,1,[n_c 131072],[(0,36)]⟩ from rfl] at q8;rw [←q8];exact hr);subst h1;obtain⟨f016,z16⟩:=keep f015 z11 F16 E16;simp only [sb_,Nat.reduceAdd];refine u_ (f17 _) ?_;simp only [sb_,Nat.reduceAdd];refine b_ (fun h=>absurd rfl h) (fun _=>?_);refine Ret.use (f27 hS16.mach) ?_;rintro _ w17 ⟨⟨p17,c17,rfl,hrd17⟩,hM17,F17⟩;have hS17:=hS16.machT (RExt.refl _ _) hM17 F17;have hI17:=hI16.mach ⟨S16.M.mem,[]⟩;have F17R:FrR ro16 w16 w17:=F17.R (by decide);obtain⟨f017,z17⟩:=keep f016 z16 F17R (RExt.refl _ _);rw [hev] at hrd17;simp only [sb_,Nat.reduceAdd];rw [show S16.M.evs.length=7 from by rw [hev];rfl];refine O_ (fun _=>?_) (fun h=>absurd rfl h);obtain⟨b17,o17,hp17,hc17⟩:=hrd17 20 (.int .i64 3) rfl;obtain⟨b17',o17',hp17',hc17'⟩:=hrd17 22 (.int .u32 4099) rfl;rw [hp17] at hp17';injection hp17' with hp17'
 injection hp17' with hx1 hx2
 subst hx1;subst hx2;rw [hp17,G_];simp only [H_];refine⟨by omega,by omega,_,hc17,AsI_int.2 ?_⟩;refine O_ (fun _=>?_) (fun h=>absurd rfl h);rw [G_];simp only [H_];refine⟨by omega,by omega,_,hc17',AsI_int.2 ?_⟩;refine O_ (fun _=>?_) (fun h=>absurd rfl h);refine Ret.use (f22 hS17) ?_;rintro _ w18 ⟨q18,d18,rfl,sl18,f18'⟩;have hbare:=hI17.bare (fun x hx=>by
  have hx:x∈S16.roots:=hx;rw [hr16] at hx;rw [List.mem_singleton.1 hx];exact hb16)
 have htl:(tabs S16.l).length=0:=by rw [show tabs S16.l=[] from hbare.1];rfl
 simp only [sb_,Nat.reduceAdd];show BIf ((((tabs S16.l).length:Nat):Int)==0) _ _;rw [htl];refine O_ (fun _=>?_) (fun h=>absurd rfl h);have hS18:=hS17.fr0 f18';have hrt18:root? S16.roots 32768=some R16:=by rw [hr16];rfl
 have h18:=f18 hS18 32768 (fun R hR=>by have:=hI17.small (by decide) (U_ hR);omega) (fun R hR _ _=>(hI17.freeH hR).2);refine Ret.use h18 ?_;intro v w19 h;obtain⟨e,S19,h1,hr,hS19,F19⟩:=h;subst h1;have hI19:=hI17.freeR hr;have hfin:e=0∧S19.roots=[]∧S19.p.u.length=248:=by
  rcases hr with ⟨h,_⟩|⟨R,hR,h⟩
  ·rw [show root? S16.roots 32768=none from h] at hrt18;cases hrt18
  have hR:root? S16.roots 32768=some R:=hR;rw [hrt18] at hR;obtain rfl:=Option.some.inj hR;rcases h with ⟨h,_⟩|⟨_,h0,rfl⟩
  ·exact absurd hb16 h
  ·refine⟨h0,?_,?_⟩
   ·show S16.roots.filter (fun x=>decide (x.1≠32768))=[];rw [hr16];rfl
   ·show (x_i S16.p _ _).u.length=248;unfold x_i;split
    ·show (turn _ _ _ _).length=248;rw [e_,hpl16,hpl]
    ·rw [hpl16,hpl]
 obtain⟨h1,hr0,hl0⟩:=hfin;subst h1;obtain⟨f019,_⟩:=keep (f017.trans f18') z17 F19 (RExt.refl _ _);simp only [sb_,Nat.reduceAdd];refine u_ (f17 _) ?_;simp only [sb_,Nat.reduceAdd];refine O_ (fun _=>?_) (fun h=>absurd rfl h);refine u_ (f20 hS19.ps.pool) ?_;simp only [sb_,Nat.reduceAdd];rw [hI19.allFree hr0,hl0];exact⟨by trivial,f019⟩
abbrev ScrT:=List (Op17×List Tr×List Nat)
def y_f (s:ScrT):List Value:=s.flatMap fun x=>x.1.cells
structure ScrAt (w:World) (B:Nat) (q:Option Addr) (n:Nat) (s:ScrT):Prop where
 rd:Rd w q (y_f s)
 len:s.length=n
 ok:∀x∈s,OpIn w B x.1 x.2.1 x.2.2
 lt:n≤4611686018427387904
theorem op_len (x:Op17×List Tr×List Nat):x.1.cells.length=17:=rfl
theorem op_ld {w:World} {p:Option Addr} {s:ScrT} (h:Rd w p (y_f s)) {e N:Int} {i:Nat} (he:e=(i:Int)) {x:Op17×List Tr×List Nat} (hx:s[i]?=some x) (hN:(i:Int)<N)
  {K:Int→Int→Int→Option Addr→Nat→Nat→Option Addr→Nat→Nat→Int→Int→Bool→Bool→Option Addr→Nat→Nat→Int→Int→Int→Int→Bool→Int→Int→Prop}
  (k:K x.1.k x.1.r x.1.sid x.1.lq x.1.ln x.1.lc x.1.vq x.1.vn x.1.vc x.1.ap (x.1.bits:Int) x.1.ng x.1.xn x.1.nq x.1.nn x.1.nc x.1.a0 x.1.a1 x.1.a2 x.1.a3 x.1.a4 x.1.cn x.1.al) :
  NilP p fun a=>0≤e∧e<N∧Ld w (at0 a (e.toNat*17)) fun v0=>AsI .i64 v0 fun i0=>Ld w (at0 (at0 a (e.toNat*17)) 1) fun v1=>AsI .i64 v1 fun i1=>Ld w (at0 (at0 a (e.toNat*17)) 2) fun v2=>AsI .i64 v2 fun i2 =>
   Ld w (at0 (at0 a (e.toNat*17)) 3) fun v3=>t_ v3 fun p3 n3 c3=>Ld w (at0 (at0 a (e.toNat*17)) 4) fun v4=>t_ v4 fun p4 n4 c4=>Ld w (at0 (at0 a (e.toNat*17)) 5) fun v5=>AsI .i64 v5 fun i5 =>
   Ld w (at0 (at0 a (e.toNat*17)) 6) fun v6=>AsI .u32 v6 fun i6=>Ld w (at0 (at0 a (e.toNat*17)) 7) fun v7=>AsB v7 fun b7=>Ld w (at0 (at0 a (e.toNat*17)) 8) fun v8=>AsB v8 fun b8 =>
   Ld w (at0 (at0 a (e.toNat*17)) 9) fun v9=>t_ v9 fun p9 n9 c9=>Ld w (at0 (at0 a (e.toNat*17)) 10) fun v10=>AsI .i64 v10 fun i10=>Ld w (at0 (at0 a (e.toNat*17)) 11) fun v11=>AsI .u32 v11 fun i11 =>
   Ld w (at0 (at0 a (e.toNat*17)) 12) fun v12=>AsI .i64 v12 fun i12=>Ld w (at0 (at0 a (e.toNat*17)) 13) fun v13=>AsI .u32 v13 fun i13=>Ld w (at0 (at0 a (e.toNat*17)) 14) fun v14=>AsB v14 fun b14 =>
   Ld w (at0 (at0 a (e.toNat*17)) 15) fun v15=>AsI .i64 v15 fun i15=>Ld w (at0 (at0 a (e.toNat*17)) 16) fun v16=>AsI .i64 v16 fun i16=>K i0 i1 i2 p3 n3 c3 p4 n4 c4 i5 i6 b7 b8 p9 n9 c9 i10 i11 i12 i13 b14 i15 i16:=by
 subst he;have hg:∀j v,j<17→x.1.cells[j]?=some v→(y_f s)[i*17+j]?=some v:=fun j v hj hv=>(l_b op_len s i j hj x hx).trans hv;obtain⟨b,o,hp,h0⟩:=h _ _ (hg 0 _ (by decide) rfl);have hc:∀j v,j<17→x.1.cells[j]?=some v→w.cell? ⟨b,o+i*17+j,none⟩=some v:=fun j v hj hv=>by
  rw [Nat.add_assoc];exact Rd.cell h hp (hg j v hj hv)
 rw [hp,G_];simp only [H_,Int.toNat_natCast];refine⟨by omega,hN,?_⟩;exact⟨_,hc 0 _ (by decide) rfl,AsI_int.2 ⟨_,hc 1 _ (by decide) rfl,AsI_int.2 ⟨_,hc 2 _ (by decide) rfl,AsI_int.2 ⟨_,hc 3 _ (by decide) rfl,AsSl_slice.2 ⟨_,hc 4 _ (by decide) rfl,AsSl_slice.2 ⟨_,hc 5 _ (by decide) rfl,AsI_int.2
  ⟨_,hc 6 _ (by decide) rfl,AsI_int.2 ⟨_,hc 7 _ (by decide) rfl,AsB_bool.2 ⟨_,hc 8 _ (by decide) rfl,AsB_bool.2 ⟨_,hc 9 _ (by decide) rfl,AsSl_slice.2 ⟨_,hc 10 _ (by decide) rfl,AsI_int.2 ⟨_,hc 11 _ (by decide) rfl,AsI_int.2
  ⟨_,hc 12 _ (by decide) rfl,AsI_int.2 ⟨_,hc 13 _ (by decide) rfl,AsI_int.2 ⟨_,hc 14 _ (by decide) rfl,AsB_bool.2 ⟨_,hc 15 _ (by decide) rfl,AsI_int.2 ⟨_,hc 16 _ (by decide) rfl,AsI_int.2 k⟩⟩⟩⟩⟩⟩⟩⟩⟩⟩⟩⟩⟩⟩⟩⟩⟩
theorem LawAt.drew {w0 w:World} {ro:Ro} {J:Ids} {n d:Nat} {S:St} {tk:List (Nat×Nat)} (H:LawAt w0 w ro J n S d tk):LawAt w0 w.drew ro J n S d tk:=H.fr0 (Fr.refl _ _).drew
theorem LawAt.blocks {w0 w:World} {ro:Ro} {J:Ids} {n d:Nat} {S:St} {tk:List (Nat×Nat)} (H:LawAt w0 w ro J n S d tk) (a:Nat) {R:RootS} (hR:root? S.roots a=some R) :
  Ret prog 16 #[.pointer (some ⟨J.e,0,none⟩),.int .u64 (a:Int)] w fun v w'=>∃p c,v=.slice p R.blocks.length c∧Sl w' w.heap.size 57 8 p R.blocks.length c (D_ R.blocks)∧Fr0 w w':=by
 refine (f16 H.sys (H.inv.std H.n1) a).mono ?_;rintro v w' ⟨f,⟨h,_⟩|⟨R',p,c,h,rfl,hsl⟩⟩
 ·rw [hR] at h;cases h
 ·rw [hR] at h;obtain rfl:=Option.some.inj h;exact⟨p,c,rfl,hsl,f⟩
def op13:Op17:=⟨13,0,0,none,0,0,none,0,0,0,0,false,false,none,0,0,0,0,0,0,false,0,0⟩
theorem r_j {l:List (Nat×RootS)} (hnd:(l.map (·.1)).Nodup) {a:Nat} (h:a∈l.map (·.1)):∃R,root? l a=some R:=by
 obtain⟨⟨b,R⟩,hx,rfl⟩:=List.mem_map.1 h;exact⟨R,G_b hnd hx⟩
theorem y_i {l:List (Nat×RootS)} {x:Int} (h:x∈a_b l):∃a:Nat,x=(a:Int)∧a∈l.map (·.1):=by
 obtain⟨y,h1,h2⟩:=List.mem_map.1 ((j_b l).mem_iff.1 h);exact⟨y.1,h2.symm,List.mem_map.2 ⟨y,h1,rfl⟩⟩
end Go.Proofs.YtmgjicnipgdjhaaGreatDoor
set_option maxRecDepth 10000
namespace Go.Proofs.YtmgjicnipgdjhaaGreatDoor
open Go Go.Sh
theorem FnV.go {P:Program} {g:FuncId} {cap:Array Value} {args:List Value} {w:World} {K:Value→World→Prop} (hg:G_c P g=true) (h:A_ P g (#[]++args.toArray++cap) w K):FnV P (.func (.func g) #[] cap) args w K :=
 ⟨g,#[],cap,rfl,hg,h⟩
theorem f170 {w:World} (x y:Int):Ret prog 170 #[.int .u32 x,.int .u32 y] w fun v w'=>v=.int .i64 (if x<y then -1 else if x>y then 1 else 0)∧w'=w:=by
 refine F170_of ?_;unfold F170;have h:∀z:Int,Ret prog 231 #[.int .u32 z] w fun v w'=>v=.bool false∧w'=w:=fun z=>by
  refine F231_of ?_;unfold F231;exact⟨by simp,rfl⟩
 refine R_ (h x) ?_;rw [AsB_bool];refine R_ (h y) ?_;rw [AsB_bool,E_,E_];refine C_ (fun h=>⟨by rw [if_pos h],rfl⟩) (fun h=>C_ (fun h2=>⟨by rw [if_neg h,if_pos h2],rfl⟩) (fun h2=>⟨by rw [if_neg h,if_neg h2],rfl⟩))
theorem f171 {w:World} (x y:Int):Ret prog 171 #[.int .i64 x,.int .i64 y] w fun v w'=>(∃r,v=.int .i64 r)∧w'=w:=by
 refine F171_of ?_;unfold F171;have h:∀z:Int,Ret prog 232 #[.int .i64 z] w fun v w'=>v=.bool false∧w'=w:=fun z=>by
  refine F232_of ?_;unfold F232;exact⟨by simp,rfl⟩
 refine R_ (h x) ?_;rw [AsB_bool];refine R_ (h y) ?_;rw [AsB_bool,E_,E_];refine C_ (fun h=>⟨⟨_,rfl⟩,rfl⟩) (fun h=>C_ (fun h2=>⟨⟨_,rfl⟩,rfl⟩) (fun h2=>⟨⟨_,rfl⟩,rfl⟩))
theorem f172 {w:World} (x y:Int):Ret prog 172 #[.int .u64 x,.int .u64 y] w fun v w'=>(∃r,v=.int .i64 r)∧w'=w:=by
 refine F172_of ?_;unfold F172;have h:∀z:Int,Ret prog 233 #[.int .u64 z] w fun v w'=>v=.bool false∧w'=w:=fun z=>by
  refine F233_of ?_;unfold F233;exact⟨by simp,rfl⟩
 refine R_ (h x) ?_;rw [AsB_bool];refine R_ (h y) ?_;rw [AsB_bool,E_,E_];refine C_ (fun h=>⟨⟨_,rfl⟩,rfl⟩) (fun h=>C_ (fun h2=>⟨⟨_,rfl⟩,rfl⟩) (fun h2=>⟨⟨_,rfl⟩,rfl⟩))
theorem f173 {w:World} (b:Bool):Ret prog 173 #[.bool b] w fun v w'=>(∃r,v=.int .i64 r)∧w'=w:=by
 refine F173_of ?_;unfold F173;exact w_ (fun _=>⟨⟨_,rfl⟩,rfl⟩) (fun _=>⟨⟨_,rfl⟩,rfl⟩)
theorem f_c {f:FuncId} {args:Array Value} {w:World} {K:Value→World→Prop} (h:Ret prog f args w fun v w'=>(∃r,v=.int .i64 r)∧w'=w) (k:∀r,K (.int .i64 r) w):A_ prog f args w K :=
 h.use (by rintro _ _ ⟨⟨r,rfl⟩,rfl⟩;exact k r)
theorem f169 {w:World} {p:Option Addr} {n c:Nat} {l:List Value} (h:Rd w p (.int .i64 1 :: l)) (hn:0<n):Ret prog 169 #[.slice p n c] w fun v w'=>v=.int .i64 1∧w'=w:=by
 refine F169_of ?_;unfold F169;try dsimp only [Uii,li_,ui_]
 refine Loop.by (fun st w'=>st=[.int .i64 0,.int .i64 0]∧w'=w) (fun _ _=>0) ⟨rfl,rfl⟩ ?_
 rintro _ _ ⟨rfl,hw⟩;obtain rfl:=hw.symm;simp only [sb_,Nat.reduceAdd];refine C_ (fun _=>?_) (fun h=>absurd (show (0:Int)<(n:Int) by omega) h);refine h.ld (i:=0) (v:=.int .i64 1) rfl fun b o _ hc=>⟨by omega,by omega,?_⟩;rw [H_];refine⟨_,hc,AsI_int.2 ?_⟩;exact b_ (fun _=>⟨by trivial,by trivial⟩) (fun h=>absurd h (by decide))
theorem E70':ElemT prog 70 3 (.int .i64 0) 1 8:=⟨by kernel_rfl,by kernel_rfl,rfl,by decide⟩
set_option maxHeartbeats 1000000 in
theorem f106 {w:World} (a b:Tr) (h:b.va<a.va):Ret prog 106 #[a.v,b.v] w fun v w'=>v=.int .i64 1∧Fr0 w w':=by
 obtain⟨as_,av,ap_,ad,aa,ab,ag,ax⟩:=a;obtain⟨bs,bv,bp,bd,ba,bb,bg,bx⟩:=b;refine F106_of ?_;unfold F106;try dsimp only [ce_,lb_,li_]
 refine New.mk fun w1 n1 f1 s1=>New.mk fun w2 n2 f2 s2=>?_;have m1:=n1.fr0 f2
 try simp only [m1.ld_iff,n2.ld_iff,sb_,Nat.reduceAdd]
 refine R_ (f170 _ _) ?_;dsimp only at h;rw [if_neg (show ¬(av:Int)<(bv:Int) by omega),if_pos (show (av:Int)>(bv:Int) by omega),AsI_int]
 iterate 14 refine⟨by first|exact m1.drew.cell.trans rfl|exact n2.drew.cell.trans rfl,?_⟩
 refine f_c (f171 _ _) fun r1=>?_;rw [AsI_int]
 iterate 12 refine⟨by first|exact m1.drew.cell.trans rfl|exact n2.drew.cell.trans rfl,?_⟩
 refine f_c (f172 _ _) fun r2=>?_;rw [AsI_int]
 iterate 10 refine⟨by first|exact m1.drew.cell.trans rfl|exact n2.drew.cell.trans rfl,?_⟩
 refine f_c (f171 _ _) fun r3=>?_;rw [AsI_int]
 iterate 8 refine⟨by first|exact m1.drew.cell.trans rfl|exact n2.drew.cell.trans rfl,?_⟩
 refine f_c (f171 _ _) fun r4=>?_;rw [AsI_int]
 iterate 6 refine⟨by first|exact m1.drew.cell.trans rfl|exact n2.drew.cell.trans rfl,?_⟩
 refine R_ (f170 _ _) ?_;rw [AsI_int]
 iterate 4 refine⟨by first|exact m1.drew.cell.trans rfl|exact n2.drew.cell.trans rfl,?_⟩
 refine f_c (f173 _) fun r5=>?_;rw [AsI_int]
 iterate 3 refine⟨by first|exact m1.drew.cell.trans rfl|exact n2.drew.cell.trans rfl,?_⟩
 refine f_c (f173 _) fun r6=>?_;rw [AsI_int]
 iterate 2 refine⟨by first|exact m1.drew.cell.trans rfl|exact n2.drew.cell.trans rfl,?_⟩
 refine f_c (f171 _ _) fun r7=>?_;rw [AsI_int]
 iterate 2 refine⟨by first|exact m1.drew.cell.trans rfl|exact n2.drew.cell.trans rfl,?_⟩
 refine f_c (f173 _) fun r8=>?_;rw [AsI_int];refine⟨by first|exact m1.drew.cell.trans rfl|exact n2.drew.cell.trans rfl,?_⟩;refine f_c (f173 _) fun r9=>?_;rw [AsI_int];refine f_c (f171 _ _) fun r10=>?_;rw [AsI_int];refine RunV.buildN E70' [.int .i64 1,.int .i64 r1,.int .i64 r2,.int .i64 r3,.int .i64 r4,.int .i64 _,.int .i64 r7,.int .i64 r10] _ rfl 8 rfl (by decide) (by decide) (by intro v hv;simp at hv;rcases hv with rfl|rfl|rfl|rfl|rfl|rfl|rfl|rfl<;>rfl) fun w3 n3 f3 s3=>?_;rw [AsSl_slice];refine R_ (f169 (l:=_) (fun i v hi=>⟨_,0,rfl,by rw [Nat.zero_add];exact n3.cell.trans hi⟩) (by decide)) ?_;rw [AsI_int];exact⟨by trivial,(f1.trans f2).trans f3.of_drew⟩
end Go.Proofs.YtmgjicnipgdjhaaGreatDoor
set_option maxRecDepth 10000
namespace Go.Proofs.YtmgjicnipgdjhaaGreatDoor
open Go Go.Sh Go.Sort
open Go.IntKind (i64 u64 u32)
def cmpV:Value:=.func (.func 106) #[] #[]
theorem goes106:G_c prog 106=true:=by kernel_rfl
section
variable {w:World} {p:Option Addr} {c:Nat} {l:List Tr}
theorem L_g {a b:Tr} (h:b.va<a.va) {w:World} {K:Value→World→Prop} (k:∀w',Fr0 w w'→K (.int .i64 1) w'):FnV prog cmpV [a.v,b.v] w K:=by
 refine FnV.go goes106 ?_;refine Ret.use (f106 a b h) ?_;rintro _ w' ⟨rfl,f⟩;exact k w' f
theorem Rd.dr {xs:List Value} (h:Rd w p xs):Rd w.drew p xs:=h.fr0 (Fr.refl _ _).drew
theorem lt_at (hs:l.Pairwise fun a b=>a.va<b.va) {i j:Nat} {a b:Tr} (hi:l[i]?=some a) (hj:l[j]?=some b) (h:i<j):a.va<b.va:=by
 obtain⟨h1,rfl⟩:=List.getElem?_eq_some_iff.1 hi;obtain⟨h2,rfl⟩:=List.getElem?_eq_some_iff.1 hj;exact List.pairwise_iff_getElem.1 hs i j h1 h2 h
theorem N_d {i:Nat} (h:i<l.length):∃t,l[i]?=some t:=⟨l[i],List.getElem?_eq_getElem h⟩
theorem f285 (hr:Rd w p (D_ l)) (hs:l.Pairwise fun a b=>a.va<b.va) {i j:Nat} (hij:i<j) (hj:j<l.length) (sw:Addr) :
  Ret prog 285 #[.slice p l.length c,.int .i64 (i:Int),.int .i64 (j:Int),.pointer (some sw),cmpV] w fun v w'=>v=.tuple #[.int .i64 (i:Int),.int .i64 (j:Int)]∧Fr0 w w':=by
 refine F285_of ?_;unfold F285;try dsimp only [B_,lb_,li_]
 obtain⟨a,ha⟩:=N_d (l:=l) (i:=i) (by omega);obtain⟨b,hb⟩:=N_d (l:=l) (i:=j) hj;refine g_a (Rd.dr hr) rfl hb (by omega) ?_;refine g_a (Rd.dr hr) rfl ha (by omega) ?_;refine L_g (lt_at hs ha hb hij) fun w' f'=>?_;rw [AsI_int];exact D_a (by decide) ⟨rfl,f'.of_drew⟩
theorem f266 (hr:Rd w p (D_ l)) (hs:l.Pairwise fun a b=>a.va<b.va) {i j k:Nat} (hij:i<j) (hjk:j<k) (hk:k<l.length) (sw:Addr) :
  Ret prog 266 #[.slice p l.length c,.int .i64 (i:Int),.int .i64 (j:Int),.int .i64 (k:Int),.pointer (some sw),cmpV] w fun v w'=>v=.int .i64 (j:Int)∧Fr0 w w':=by
 refine F266_of ?_;unfold F266;try dsimp only [Uii,ui_]
 refine Ret.use (f285 hr hs hij (by omega) sw) ?_;rintro _ w1 ⟨rfl,f1⟩;simp only [sb_,Nat.reduceAdd];refine Ret.use (f285 (hr.fr0 f1) hs hjk hk sw) ?_;rintro _ w2 ⟨rfl,f2⟩;simp only [sb_,Nat.reduceAdd];refine Ret.use (f285 ((hr.fr0 f1).fr0 f2) hs hij (by omega) sw) ?_;rintro _ w3 ⟨rfl,f3⟩;simp only [sb_,Nat.reduceAdd];exact⟨by trivial,f1.trans (f2.trans f3)⟩
theorem f265 (hr:Rd w p (D_ l)) (hs:l.Pairwise fun a b=>a.va<b.va) (hl:l.length≤4611686018427387904) {i:Nat} (h1:1≤i) (hk:i+1<l.length) (sw:Addr) :
  Ret prog 265 #[.slice p l.length c,.int .i64 (i:Int),.pointer (some sw),cmpV] w fun v w'=>v=.int .i64 (i:Int)∧Fr0 w w':=by
 refine F265_of ?_;unfold F265;rw [w64 (n:=(i:Int)-1) (by omega) (by omega),w64 (n:=(i:Int)+1) (by omega) (by omega),show (i:Int)-1=((i-1:Nat):Int) by omega,show (i:Int)+1=((i+1:Nat):Int) by omega];refine Ret.use (f266 hr hs (by omega) (by omega) hk sw) ?_;rintro _ w1 ⟨rfl,f1⟩;simp only [sb_,Nat.reduceAdd];exact⟨by trivial,f1⟩
theorem f226 (hr:Rd w p (D_ l)) (hs:l.Pairwise fun a b=>a.va<b.va) (hl:l.length≤4611686018427387904) (h12:12<l.length) :
  Ret prog 226 #[.slice p l.length c,.int .i64 0,.int .i64 (l.length:Int),cmpV] w fun v w'=>(∃j:Int,v=.tuple #[.int .i64 j,.int .i64 1])∧Fr0 w w':=by
 refine F226_of ?_;unfold F226;try dsimp only [O_f,li_,ui_]
 refine New.mk fun w1 n1 f1 s1=>?_;have e1:∀k:Int,1≤k→k≤3→i64.wrap (0+i64.wrap (i64.wrap ((i64.wrap ((l.length:Int)-0)).tdiv 4)*k))=((l.length/4*k.toNat:Nat):Int):=fun k h1 h2=>by
  have h3:((l.length:Int)).tdiv 4=((l.length/4:Nat):Int):=by rw [Int.tdiv_eq_ediv_of_nonneg (by omega)];rfl
  have hk:k=1∨k=2∨k=3:=by omega
  rw [Int.sub_zero,w64 (n:=(l.length:Int)) (by omega) (by omega),h3,w64 (n:=((l.length/4:Nat):Int)) (by omega) (by omega)];rcases hk with rfl|rfl|rfl
  ·rw [w64 (n:=((l.length/4:Nat):Int)*1) (by omega) (by omega),w64 (by omega) (by omega)];show _=((l.length/4*1:Nat):Int);omega
  ·rw [w64 (n:=((l.length/4:Nat):Int)*2) (by omega) (by omega),w64 (by omega) (by omega)];show _=((l.length/4*2:Nat):Int);omega
  ·rw [w64 (n:=((l.length/4:Nat):Int)*3) (by omega) (by omega),w64 (by omega) (by omega)];show _=((l.length/4*3:Nat):Int);omega
 rw [e1 1 (by decide) (by decide),e1 2 (by decide) (by decide),e1 3 (by decide) (by decide),Int.sub_zero,w64 (n:=(l.length:Int)) (by omega) (by omega)];simp only [Int.reduceToNat];have hr1:=hr.fr0 f1;refine Join.at (fun st w'=>(∃x y z:Int,st=[.int .i64 x,.int .i64 y,.int .i64 z])∧Fr0 w1 w') ?_ ?_
 ·refine C_ (fun _=>?_) (fun h=>absurd (by omega) h);refine Join.at (fun st w'=>st=[.int .i64 ((l.length/4*3:Nat):Int),.int .i64 ((l.length/4*2:Nat):Int),.int .i64 ((l.length/4*1:Nat):Int)]∧Fr0 w1 w') ?_ ?_
  ·refine C_ (fun h50=>?_) (fun _=>⟨rfl,Fr.refl _ _⟩);refine Ret.use (f265 hr1 hs hl (by omega) (by omega) _) ?_;rintro _ w2 ⟨rfl,f2⟩;rw [AsI_int];refine Ret.use (f265 (hr1.fr0 f2) hs hl (by omega) (by omega) _) ?_;rintro _ w3 ⟨rfl,f3⟩;rw [AsI_int];refine Ret.use (f265 ((hr1.fr0 f2).fr0 f3) hs hl (by omega) (by omega) _) ?_;rintro _ w4 ⟨rfl,f4⟩;rw [AsI_int];exact⟨rfl,f2.trans (f3.trans f4)⟩
  ·rintro _ w2 ⟨rfl,f2⟩;simp only [sb_,Nat.reduceAdd];refine Ret.use (f266 (hr1.fr0 f2) hs (by omega) (by omega) (by omega) _) ?_;rintro _ w3 ⟨rfl,f3⟩;simp only [sb_,Nat.reduceAdd];exact⟨⟨_,_,_,rfl⟩,f2.trans f3⟩
 ·rintro _ w2 ⟨⟨x,y,z,rfl⟩,f2⟩;have n2:=n1.fr0 f2;simp only [sb_,Nat.reduceAdd]
  try simp only [n2.ld_iff,sb_,Nat.reduceAdd]
  refine O_ (fun _=>⟨⟨_,rfl⟩,f1.trans f2⟩) (fun h=>absurd rfl h)
theorem f223 (hr:Rd w p (D_ l)) (hs:l.Pairwise fun a b=>a.va<b.va) (hl:l.length≤4611686018427387904) :
  Ret prog 223 #[.slice p l.length c,.int .i64 0,.int .i64 (l.length:Int),cmpV] w fun v w'=>v=.tuple #[]∧Fr0 w w':=by
 refine F223_of ?_;unfold F223;try dsimp only [B_,S_8,lb_,li_,ui_]
 rw [w64 (n:=(0:Int)+1) (by omega) (by omega)];refine Loop.by (fun st w'=>∃i:Nat,1≤i∧(i≤l.length∨i=1)∧st=[.int .i64 (i:Int)]∧Fr0 w w') (fun st _=>match st with | [.int _ i]=>l.length-i.toNat|_=>0) ⟨1,by omega,by omega,rfl,Fr.refl _ _⟩ ?_
 rintro _ w1 ⟨i,h1,hi,rfl,f1⟩;simp only [sb_,Nat.reduceAdd];refine C_ (fun hlt=>?_) (fun hge=>⟨by trivial,f1⟩);refine Join.at (fun st w'=>st=[]∧Fr0 w1 w') ?_ ?_
 ·refine Loop.by (fun st w'=>st=[.int .i64 (i:Int)]∧w'=w1) (fun _ _=>0) ⟨rfl,rfl⟩ ?_
  rintro _ _ ⟨rfl,hw⟩;obtain rfl:=hw.symm;simp only [sb_,Nat.reduceAdd];refine C_ (fun _=>?_) (fun _=>⟨by trivial,by first|exact Fr.refl _ _|exact (Fr.refl _ _).drew⟩);obtain⟨a,ha⟩:=N_d (l:=l) (i:=i) (by omega);obtain⟨b,hb⟩:=N_d (l:=l) (i:=i-1) (by omega);refine g_a (hr.fr0 f1) rfl ha (by omega) ?_;rw [w64 (n:=(i:Int)-1) (by omega) (by omega)];refine g_a (hr.fr0 f1) (i:=i-1) (by omega) hb (by omega) ?_;refine L_g (lt_at hs hb ha (by omega)) fun w2 f2=>?_;rw [AsI_int];exact D_a (by decide) ⟨by trivial,f2.of_drew⟩
 ·rintro _ w2 ⟨rfl,f2⟩;simp only [sb_,Nat.reduceAdd];rw [w64 (n:=(i:Int)+1) (by omega) (by omega)];exact⟨⟨i+1,by omega,by omega,rfl,f1.trans f2⟩,(by first|omega|(simp only [Int.toNat_natCast];omega))⟩
theorem f228 (hr:Rd w p (D_ l)) (hs:l.Pairwise fun a b=>a.va<b.va) (hl:l.length≤4611686018427387904) (h12:12<l.length) :
  Ret prog 228 #[.slice p l.length c,.int .i64 0,.int .i64 (l.length:Int),cmpV] w fun v w'=>v=.bool true∧Fr0 w w':=by
 refine F228_of ?_;unfold F228;try dsimp only [B_,S_8,Uib,Uiib,lb_,li_,ub_,ui_]
 rw [w64 (n:=(0:Int)+1) (by omega) (by omega)];refine Loop.by (fun st w'=>st=[.int .i64 0,.int .i64 1,.bool false]∧w'=w) (fun _ _=>0) ⟨rfl,rfl⟩ ?_
 rintro _ _ ⟨rfl,hw⟩;obtain rfl:=hw.symm;simp only [sb_,Nat.reduceAdd];refine C_ (fun _=>?_) (fun h=>absurd (by decide) h);refine Join.at (fun _ _=>False) ?_ (fun _ _ h=>h.elim);refine Join.at (fun st w'=>st=[.int .i64 (l.length:Int)]∧Fr0 w w') ?_ ?_
 ·refine Loop.by (fun st w'=>∃i:Nat,1≤i∧i≤l.length∧st=[.int .i64 (i:Int)]∧Fr0 w w') (fun st _=>match st with | [.int _ i]=>l.length-i.toNat|_=>0) ⟨1,by omega,by omega,rfl,Fr.refl _ _⟩ ?_
  rintro _ w1 ⟨i,h1,hi,rfl,f1⟩;simp only [sb_,Nat.reduceAdd];refine C_ (fun hlt=>?_) (fun hge=>⟨by rw [show i=l.length by omega],f1.drew⟩);obtain⟨a,ha⟩:=N_d (l:=l) (i:=i) (by omega);obtain⟨b,hb⟩:=N_d (l:=l) (i:=i-1) (by omega);refine g_a (hr.fr0 f1) rfl ha (by omega) ?_;rw [w64 (n:=(i:Int)-1) (by omega) (by omega)];refine g_a (hr.fr0 f1) (i:=i-1) (by omega) hb (by omega) ?_;refine L_g (lt_at hs hb ha (by omega)) fun w2 f2=>?_;rw [AsI_int,show (!decide ((1:Int)<0))=true from rfl,K_,w64 (n:=(i:Int)+1) (by omega) (by omega)];exact⟨⟨i+1,by omega,by omega,rfl,f1.trans f2.of_drew⟩,(by first|omega|(simp only [Int.toNat_natCast];omega))⟩
 ·rintro _ w1 ⟨rfl,f1⟩;simp only [sb_,Nat.reduceAdd];exact O_ (fun _=>⟨by trivial,f1⟩) (fun h=>absurd rfl h)
theorem f168 (hr:Rd w p (D_ l)) (hs:l.Pairwise fun a b=>a.va<b.va) (hl:l.length≤4611686018427387904) {lim:Int} (hlim:12<l.length→lim≠0) :
  Ret prog 168 #[.slice p l.length c,.int .i64 0,.int .i64 (l.length:Int),.int .i64 lim,cmpV] w fun v w'=>v=.tuple #[]∧Fr0 w w':=by
 refine F168_of ?_;unfold F168;try dsimp only [B_,p_f,Uib,Uii,lb_,li_,ub_,ui_]
 refine Loop.by (fun st w'=>st=[.bool true,.bool true,.int .i64 0,.int .i64 (l.length:Int),.int .i64 lim]∧w'=w) (fun _ _=>0) ⟨rfl,rfl⟩ ?_
 rintro _ _ ⟨rfl,hw⟩;obtain rfl:=hw.symm;simp only [sb_,Nat.reduceAdd];rw [Int.sub_zero,w64 (n:=(l.length:Int)) (by omega) (by omega)];refine C_ (fun h=>?_) (fun h=>?_)
 ·refine Ret.use (f223 hr hs hl) ?_;rintro _ w1 ⟨rfl,f1⟩;simp only [sb_,Nat.reduceAdd];exact⟨by trivial,f1⟩
 refine O_ (fun h=>absurd h (hlim (by omega))) (fun _=>?_);refine Join.at (fun st w'=>st=[.int .i64 lim]∧w'=w) ?_ ?_
 ·simp only [Bool.not_true,E_];exact⟨by trivial,by trivial⟩
 rintro _ _ ⟨rfl,hw⟩;obtain rfl:=hw.symm;simp only [sb_,Nat.reduceAdd];refine Ret.use (f226 hr hs hl (by omega)) ?_;rintro _ w1 ⟨⟨j,rfl⟩,f1⟩;simp only [sb_,Nat.reduceAdd];refine Join.at (fun st w'=>st=[.int .i64 1,.int .i64 j]∧w'=w1) ?_ ?_
 ·exact O_ (fun h=>absurd h (by decide)) (fun _=>⟨rfl,rfl⟩)
 rintro _ _ ⟨rfl,hw⟩;obtain rfl:=hw.symm;simp only [sb_,Nat.reduceAdd];refine Join.at (fun _ _=>False) ?_ (fun _ _ h=>h.elim);rw [K_,K_];refine O_ (fun _=>?_) (fun h=>absurd rfl h);refine Ret.use (f228 (hr.fr0 f1) hs hl (by omega)) ?_;rintro _ w2 ⟨rfl,f2⟩;rw [AsB_bool,K_];exact⟨by trivial,f1.trans f2⟩
theorem f105 (hr:Rd w p (D_ l)) (hs:l.Pairwise fun a b=>a.va<b.va) (hl:l.length≤4611686018427387904):Ret prog 105 #[.slice p l.length c,cmpV] w fun v w'=>v=.tuple #[]∧Fr0 w w':=by
 refine F105_of ?_;unfold F105;rw [b_a (n:=(l.length:Int)) (by omega) (by omega)];refine R_ (f163x l.length (by omega)) ?_;rw [AsI_int];refine Ret.use (f168 hr hs hl fun h e=>?_) ?_
 ·have:=lt_two_pow_bitsLen l.length;have e:bitsLen l.length=0:=by omega
  rw [e] at this;omega
 rintro _ w1 ⟨rfl,f1⟩;simp only [sb_,Nat.reduceAdd];exact⟨by trivial,f1⟩
theorem f107 (hr:Rd w p (D_ l)) (hs:l.Pairwise fun a b=>a.va<b.va) (hl:l.length≤4611686018427387904):Ret prog 107 #[.slice p l.length c] w fun v w'=>v=.slice p l.length c∧Fr0 w w':=by
 refine F107_of ?_;unfold F107;try dsimp only [B_,S_8,Uii,Uis,lb_,li_,ui_,us_]
 refine C_ (fun _=>⟨rfl,Fr.refl _ _⟩) (fun h2=>?_);refine Loop.by (fun st w'=>∃i:Nat,1≤i∧i≤l.length∧st=[.int .i64 (i:Int),.slice none 0 0]∧Fr0 w w') (fun st _=>match st with | [.int _ i,_]=>l.length-i.toNat|_=>0) ⟨1,by omega,by omega,rfl,Fr.refl _ _⟩ ?_
 rintro _ w1 ⟨i,h1,hi,rfl,f1⟩;simp only [sb_,Nat.reduceAdd];refine C_ (fun hlt=>?_) (fun hge=>⟨by trivial,f1⟩);obtain⟨a,ha⟩:=N_d (l:=l) (i:=i) (by omega);obtain⟨b,hb⟩:=N_d (l:=l) (i:=i-1) (by omega);refine g_a (hr.fr0 f1) rfl ha (by omega) ?_;rw [w64 (n:=(i:Int)-1) (by omega) (by omega)];refine g_a (hr.fr0 f1) (i:=i-1) (by omega) hb (by omega) ?_;have hlt2:=lt_at hs hb ha (by omega);refine RunP.eqlS S57 (fun w=>eq57 a b w) fun r hr2=>?_;have hr2:r=false:=by
  cases r with
  | false=>rfl
  | true=>have:=hr2.1 rfl;subst this;omega
 subst hr2;rw [AsB_bool,E_,w64 (n:=(i:Int)+1) (by omega) (by omega)];exact⟨⟨i+1,by omega,by omega,rfl,f1.drew⟩,(by first|omega|(simp only [Int.toNat_natCast];omega))⟩
end
end Go.Proofs.YtmgjicnipgdjhaaGreatDoor
set_option maxRecDepth 10000
namespace Go.Proofs.YtmgjicnipgdjhaaGreatDoor
open Go Go.Sh Go.Fr
theorem gwSet {mem:Nat→Nat} {pa v x:Nat} (hp:pa%4=0) (hx:x%4=0) (hv:v<2^32):getW (p_i mem pa v) x=if x=pa then v else getW mem x:=by
 have h:∀y,p_i mem pa v y=if y=pa+3 then v/16777216%256 else if y=pa+2 then v/65536%256 else if y=pa+1 then v/256%256 else if y=pa then v%256 else mem y:=fun y=>by
  simp only [p_i,setB,upd,Nat.reducePow,Nat.add_zero,Nat.div_one]
 unfold getW;rw [h,h,h,h];by_cases e:x=pa
 ·subst e;simp only [if_true,if_neg (show ¬x=x+3 by omega),if_neg (show ¬x=x+2 by omega),if_neg (show ¬x=x+1 by omega),if_neg (show ¬x+1=x+3 by omega),if_neg (show ¬x+1=x+2 by omega),if_neg (show ¬x+2=x+3 by omega)];omega
 ·simp only [if_neg (show ¬x+3=pa+3 by omega),if_neg (show ¬x+3=pa+2 by omega),if_neg (show ¬x+3=pa+1 by omega),if_neg (show ¬x+3=pa by omega),
   if_neg (show ¬x+2=pa+3 by omega),if_neg (show ¬x+2=pa+2 by omega),if_neg (show ¬x+2=pa+1 by omega),if_neg (show ¬x+2=pa by omega),
   if_neg (show ¬x+1=pa+3 by omega),if_neg (show ¬x+1=pa+2 by omega),if_neg (show ¬x+1=pa+1 by omega),if_neg (show ¬x+1=pa by omega),
   if_neg (show ¬x=pa+3 by omega),if_neg (show ¬x=pa+2 by omega),if_neg (show ¬x=pa+1 by omega),if_neg e]
theorem C_b {M:Mst} {pa v x:Nat} (hp:pa%4=0) (hx:x%4=0) (hv:v<2^32):∀k,getW (e_a M pa v k).mem x=if pa≤x∧x<pa+4*k then v else getW M.mem x
 | 0=>by rw [if_neg (by omega)];rfl
 | k+1=>by
  show getW (p_i (e_a M pa v k).mem (pa+4*k) v) x=_;rw [gwSet (by omega) hx hv,C_b hp hx hv k];by_cases h1:x=pa+4*k
  ·rw [if_pos h1,if_pos (by omega)]
  ·rw [if_neg h1];by_cases h2:pa≤x∧x<pa+4*k
   ·rw [if_pos h2,if_pos (by omega)]
   ·rw [if_neg h2,if_neg (by omega)]
theorem u_e {mem:Nat→Nat} {f x:Nat} (hx:x%4=0):∀k,getW (i_c mem f k) x=if f≤x/4096∧x/4096<f+k then 0 else getW mem x
 | 0=>by rw [if_neg (by omega)];rfl
 | k+1=>by
  have ih:=u_e (mem:=mem) (f:=f) hx k;unfold getW at ih ⊢;show ((e_e (i_c mem f k) (f+k) (x+3)*256+e_e (i_c mem f k) (f+k) (x+2))*256+e_e (i_c mem f k) (f+k) (x+1))*256+e_e (i_c mem f k) (f+k) x=_;unfold e_e;rw [show (x+3)/4096=x/4096 by omega,show (x+2)/4096=x/4096 by omega,show (x+1)/4096=x/4096 by omega];by_cases h1:x/4096=f+k
  ·simp only [if_pos h1];rw [if_pos (by omega)]
  ·simp only [if_neg h1];rw [ih];by_cases h2:f≤x/4096∧x/4096<f+k
   ·rw [if_pos h2,if_pos (by omega)]
   ·rw [if_neg h2,if_neg (by omega)]
theorem BlkOk.apart {n:Nat} {l:List Tr} (h:BlkOk n l) {a b:Tr} (ha:a∈l) (hb:b∈l) (hne:a≠b):X_ a b=false:=by
 obtain⟨i,hi,rfl⟩:=List.getElem_of_mem ha;obtain⟨j,hj,rfl⟩:=List.getElem_of_mem hb;rcases Nat.lt_trichotomy i j with h1|rfl|h1
 ·exact (List.pairwise_iff_getElem.1 h.sep i j hi hj h1).2
 ·exact absurd rfl hne
 ·rw [r_d];exact (List.pairwise_iff_getElem.1 h.sep j i hj hi h1).2
theorem BlkOk.meet {n:Nat} {l:List Tr} (h:BlkOk n l) {a b:Tr} (ha:a∈l) (hb:b∈l) {y:Nat} (h1:a.va≤y∧y<a.tend) (h2:b.va≤y∧y<b.tend):a=b:=by
 refine Classical.byContradiction fun hne=>?_;have:=h.apart ha hb hne;unfold X_ A_g at this;rw [decide_eq_true (show a.va<b.tend by omega),decide_eq_true (show b.va<a.tend by omega)] at this;simp at this
theorem BlkOk.dom {n:Nat} {l:List Tr} (h:BlkOk n l) {a b:Tr} (ha:a∈l) (hb:b∈l) (h1:a.paged=true) (h2:b.paged=true) (h3:a.mib=b.mib):a.dom=b.dom:=by
 by_cases hne:a=b
 ·rw [hne]
 ·have:=h.apart ha hb hne;unfold X_ at this;rw [h1,h2,h3] at this;simp only [Bool.and_true,Bool.true_and,decide_true,Bool.or_eq_false_iff,decide_eq_false_iff_not] at this;exact Classical.not_not.1 this.2
theorem over {n:Nat} {t:Tr} (h:Good n t) {i:Nat} (hi:i<reps t.size) :
  (t.paged=true→t.va/4096%256+i<256∧(t.va/4096+i)/256=t.mib∧t.va≤(t.va/4096+i)*4096∧(t.va/4096+i)*4096+4096≤t.tend) ∧
  (t.paged=false→t.va≤(t.mib+i)*1048576∧(t.mib+i)*1048576+1048576≤t.tend):=by
 have hal:=t_d h.right;have hsz:=Z_ h.right;have r1:reps 1=1:=by decide
 have r2:reps 2=16:=by decide
 have r3:reps 3=1:=by decide
 have r4:reps 4=16:=by decide
 have b1:bytesOf 1=4096:=by decide
 have b2:bytesOf 2=65536:=by decide
 have b3:bytesOf 3=1048576:=by decide
 have b4:bytesOf 4=16777216:=by decide
 unfold Tr.tend Tr.mib Tr.paged;rcases m_ hsz with e|e|e|e<;>rw [e] at hi hal ⊢
 ·rw [r1] at hi;rw [b1] at hal ⊢;exact⟨fun _=>by omega,fun h=>by simp at h⟩
 ·rw [r2] at hi;rw [b2] at hal ⊢;exact⟨fun _=>by omega,fun h=>by simp at h⟩
 ·rw [r3] at hi;rw [b3] at hal ⊢;exact⟨fun h=>by simp at h,fun _=>by omega⟩
 ·rw [r4] at hi;rw [b4] at hal ⊢;exact⟨fun h=>by simp at h,fun _=>by omega⟩
theorem E_k {n:Nat} (hn:1≤n∧n≤7) {t:Tr} (h:Good n t) {i:Nat} (hi:i<reps t.size) (hp:t.paged=false):t.mib+i<1024*Go.Proofs.YtmgjicnipgdjhaaGreatDoor.cnt n:=by
 have h1:=((over h hi).2 hp).2;have h2:=h.en;unfold Go.Proofs.YtmgjicnipgdjhaaGreatDoor.cnt;split
 ·rename_i e;subst e;have:2^(32-1)=2147483648:=by decide
  omega
 ·have:2^(32-n)≤2^30:=Nat.pow_le_pow_right (by decide) (by omega);omega
def e_c (a:Nat) (R:RootS) (x v:Nat):Prop :=
 (∃t∈R.blocks,∃i,i<reps t.size∧x=placeOf R a t+4*i∧v=wordN t)∨∃m T,tab? R.tabs m=some T∧x=a+4*m∧∃t∈R.blocks,t.paged=true∧t.mib=m∧v=tabW T t.dom
def OwnR (R:RootS) (x:Nat):Prop:=(R.first≤x/4096∧x/4096<R.first+R.count)∨∃m,tab? R.tabs m=some (x/1024)
structure Apart (R:RootS):Prop where
 fr:∀m T,tab? R.tabs m=some T→¬(R.first≤T/4∧T/4<R.first+R.count)
 inj:∀m m' T,tab? R.tabs m=some T→tab? R.tabs m'=some T→m=m'
section
variable {n a:Nat} {R:RootS}
theorem x_a (hn:1≤n∧n≤7) (hR:RootOk n a R) {t:Tr} (ht:t∈R.blocks) {i:Nat} (hi:i<reps t.size) :
  (t.paged=false∧placeOf R a t+4*i=a+4*(t.mib+i)∧t.mib+i<1024*R.count) ∨
  (t.paged=true∧∃T,tab? R.tabs t.mib=some T∧placeOf R a t+4*i=T*1024+4*(t.va/4096%256+i)∧t.va/4096%256+i<256):=by
 have hg:=hR.blk.good t ht;unfold placeOf;cases hp:t.paged with
 | false =>
  refine .inl ⟨rfl,?_,by rw [hR.cnt];exact E_k hn hg hi hp⟩;rw [if_neg (by decide)];omega
 | true =>
  obtain⟨T,hT⟩:=hR.paged ht hp;refine .inr ⟨rfl,T,hT,?_,((over hg hi).1 hp).1⟩;rw [if_pos rfl,hT,Option.getD_some];omega
theorem o_c (hn:1≤n∧n≤7) (hR:RootOk n a R) {m T:Nat} (hT:tab? R.tabs m=some T):m<1024*R.count∧∃t∈R.blocks,t.paged=true∧t.mib=m:=by
 obtain⟨t,ht,hp,hm⟩:=(hR.tk m).1 (by rw [hT];rfl);exact⟨by rw [hR.cnt,←hm];exact (hR.blk.good t ht).mib hn,t,ht,hp,hm⟩
theorem m_a (hn:1≤n∧n≤7) (hR:RootOk n a R) {x v:Nat} (h:e_c a R x v):x%4=0∧OwnR R x:=by
 have hk:=hR.key;rcases h with ⟨t,ht,i,hi,rfl,_⟩|⟨m,T,hT,rfl,_⟩
 ·rcases x_a hn hR ht hi with ⟨_,h1,h2⟩|⟨_,T,hT,h1,h2⟩
  ·rw [h1];exact⟨by omega,.inl (by omega)⟩
  ·rw [h1];exact⟨by omega,.inr ⟨t.mib,by rw [hT];congr 1;omega⟩⟩
 ·have:=(o_c hn hR hT).1;exact⟨by omega,.inl (by omega)⟩
theorem O_g (hn:1≤n∧n≤7) (hR:RootOk n a R) (hA:Apart R) {t b:Tr} (ht:t∈R.blocks) (hb:b∈R.blocks) {i j:Nat} (hi:i<reps t.size) (hj:j<reps b.size) (e:placeOf R a t+4*i=placeOf R a b+4*j):t=b:=by
 have hk:=hR.key;have gt:=over (hR.blk.good t ht) hi;have gb:=over (hR.blk.good b hb) hj;rcases x_a hn hR ht hi with ⟨p1,h1,h2⟩|⟨p1,T,hT,h1,h2⟩<;>rcases x_a hn hR hb hj with ⟨q1,k1,k2⟩|⟨q1,U,hU,k1,k2⟩
 ·have g1:=gt.2 p1;have g2:=gb.2 q1;have hm:t.mib+i=b.mib+j:=by omega
  rw [hm] at g1;exact hR.blk.meet ht hb (y:=(b.mib+j)*1048576) (by omega) (by omega)
 ·exact absurd (show R.first≤U/4∧U/4<R.first+R.count by omega) (hA.fr _ _ hU)
 ·exact absurd (show R.first≤T/4∧T/4<R.first+R.count by omega) (hA.fr _ _ hT)
 ·have g1:=gt.1 p1;have g2:=gb.1 q1;have e1:T=U:=by omega
  subst e1;have e2:=hA.inj _ _ _ hT hU;have e3:t.va/4096+i=b.va/4096+j:=by omega
  rw [e3] at g1;exact hR.blk.meet ht hb (y:=(b.va/4096+j)*4096) (by omega) (by omega)
theorem W_d (hn:1≤n∧n≤7) (hR:RootOk n a R) (hA:Apart R) {t:Tr} (ht:t∈R.blocks) {i m T:Nat} (hi:i<reps t.size) (hT:tab? R.tabs m=some T):placeOf R a t+4*i≠a+4*m:=by
 intro e;have hk:=hR.key;obtain⟨hm,b,hb,bp,bm⟩:=o_c hn hR hT;rcases x_a hn hR ht hi with ⟨p1,h1,h2⟩|⟨p1,U,hU,h1,h2⟩
 ·have g1:=(over (hR.blk.good t ht) hi).2 p1;have e1:t.mib+i=m:=by omega
  rw [e1] at g1;have hbv:=s_a (Z_ (hR.blk.good b hb).right);have:t=b:=hR.blk.meet ht hb (y:=b.va) (by unfold Tr.mib at bm;omega) (by unfold Tr.tend;omega);rw [this,bp] at p1;cases p1
 ·exact absurd (show R.first≤U/4∧U/4<R.first+R.count by omega) (hA.fr _ _ hU)
theorem V_d (hn:1≤n∧n≤7) (hR:RootOk n a R) (hA:Apart R) {x v v':Nat} (h:e_c a R x v) (k:e_c a R x v'):v=v':=by
 rcases h with ⟨t,ht,i,hi,rfl,rfl⟩|⟨m,T,hT,rfl,t,ht,tp,tm,rfl⟩<;>rcases k with ⟨b,hb,j,hj,e,rfl⟩|⟨m',T',hT',e,b,hb,bp,bm,rfl⟩
 ·rw [O_g hn hR hA ht hb hi hj e]
 ·exact absurd e (W_d hn hR hA ht hi hT')
 ·exact absurd e.symm (W_d hn hR hA hb hj hT)
 ·obtain rfl:m=m':=by omega
  rw [hT] at hT';cases hT';rw [hR.blk.dom ht hb tp bp (tm.trans bm.symm)]
end
theorem Inv.apart {fr n:Nat} {tk:List (Nat×Nat)} {S:St} (h:Inv fr n tk S) {a:Nat} {R:RootS} (hm:(a,R)∈S.roots):Apart R:=by
 have htab:∀m T,tab? R.tabs m=some T→T∈tabs S.l:=fun m T hT=>(h.xi hm).mem hT;have hnd:=List.nodup_append.1 h.acc.nd;refine⟨fun m T hT hh=>?_,fun m m' T h1 h2=>?_⟩
 ·obtain⟨q,hq,k,hk,_,rfl⟩:=mem_tabs.1 (htab m T hT);exact hnd.2.2 q.f (List.mem_map.2 ⟨q,hq,rfl⟩) q.f (List.mem_append.2 (.inl (List.mem_flatMap.2 ⟨_,hm,mem_span.2 (by dsimp only;omega)⟩))) rfl
 ·have hp:=(h.xi hm).tb.nodup_iff.2 (i_d (h_e h.ok.rise));have hp:=(List.nodup_append.1 hp).1;have:=p_e (f:=fun x:Nat×Nat=>x.2) hp (d_d h1) (d_d h2) rfl;exact congrArg Prod.fst this
theorem Inv.ownApart {fr n:Nat} {tk:List (Nat×Nat)} {S:St} (h:Inv fr n tk S) {a b:Nat} {R R':RootS} (hm:(a,R)∈S.roots) (hm':(b,R')∈S.roots) (hne:a≠b) {x:Nat} (h1:OwnR R x) (h2:OwnR R' x):False:=by
 have hnd:=List.nodup_append.1 h.acc.nd;have hff:=(List.nodup_append.1 hnd.2.1).1;have hfr:∀{c:Nat} {Q:RootS},(c,Q)∈S.roots→Q.first≤x/4096∧x/4096<Q.first+Q.count→x/4096∈q_a S.roots:=fun hc hh=>List.mem_flatMap.2 ⟨_,hc,mem_span.2 (by dsimp only;omega)⟩
 have htf:∀{c:Nat} {Q:RootS} {m:Nat},(c,Q)∈S.roots→tab? Q.tabs m=some (x/1024)→x/4096∈S.l.map Qr.f:=fun hc hT=>by
  obtain⟨q,hq,k,hk,_,e⟩:=mem_tabs.1 ((h.xi hc).mem hT);exact List.mem_map.2 ⟨q,hq,by omega⟩
 rcases h1 with h1|⟨m,h1⟩<;>rcases h2 with h2|⟨m',h2⟩
 ·have e1:=A_b (j_a h.nd R hm).1;rw [U_c] at e1;have hn1:=e1.nodup_iff.1 hff;refine (List.nodup_append.1 hn1).2.2 (x/4096) (mem_span.2 (by dsimp only;omega)) (x/4096) (List.mem_flatMap.2 ⟨(b,R'),List.mem_filter.2 ⟨hm',by simpa using (Ne.symm hne)⟩,mem_span.2 (by dsimp only;omega)⟩) rfl
 ·exact hnd.2.2 _ (htf hm' h2) _ (List.mem_append.2 (.inl (hfr hm h1))) rfl
 ·exact hnd.2.2 _ (htf hm h1) _ (List.mem_append.2 (.inl (hfr hm' h2))) rfl
 ·have hp:=(h.xi hm).tb.nodup_iff.2 (i_d (h_e h.ok.rise));exact (List.nodup_append.1 hp).2.2 _ (List.mem_map.2 ⟨_,d_d h1,rfl⟩) _ (List.mem_flatMap.2 ⟨(b,R'),List.mem_filter.2 ⟨hm',by simpa using (Ne.symm hne)⟩,List.mem_map.2 ⟨_,d_d h2,rfl⟩⟩) rfl
end Go.Proofs.YtmgjicnipgdjhaaGreatDoor
set_option maxRecDepth 10000
namespace Go.Proofs.YtmgjicnipgdjhaaGreatDoor
open Go Go.Sh Go.Fr
structure MO (n:Nat) (S:St):Prop where
 al:∀x∈S.roots,x.2.first%cnt n=0
 cell:∀x∈S.roots,∀y v,e_c x.1 x.2 y v→getW S.M.mem y=v
 zero:∀y,y%4=0→y/4096∈S.l.map Qr.f++q_a S.roots→(∀x∈S.roots,∀v,¬e_c x.1 x.2 y v)→getW S.M.mem y=0
theorem mem_updR {l:List (Nat×RootS)} {a:Nat} {R':RootS} {x:Nat×RootS}:x∈G_a l a R'↔(x=(a,R')∧a∈l.map (·.1))∨(x∈l∧x.1≠a):=by
 unfold G_a;rw [List.mem_map];constructor
 ·rintro ⟨y,hy,rfl⟩;by_cases e:y.1=a
  ·rw [if_pos e];exact .inl ⟨rfl,List.mem_map.2 ⟨y,hy,e⟩⟩
  ·rw [if_neg e];exact .inr ⟨hy,e⟩
 ·rintro (⟨rfl,h⟩|⟨h,e⟩)
  ·obtain⟨y,hy,e⟩:=List.mem_map.1 h;exact⟨y,hy,if_pos e⟩
  ·exact⟨x,h,if_neg e⟩
theorem z_c (l:List (Nat×RootS)) (a:Nat) (R R':RootS):G_a (G_a l a R) a R'=G_a l a R':=by
 unfold G_a;rw [List.map_map];refine List.map_congr_left fun x _=>?_;simp only [Function.comp_apply];by_cases e:x.1=a
 ·rw [if_pos e,if_pos rfl,if_pos e]
 ·rw [if_neg e,if_neg e]
theorem s_i {l:List (Nat×RootS)} {a:Nat} {R R':RootS} (hnd:(l.map (·.1)).Nodup) (hm:(a,R)∈l) (hf:R'.first=R.first) (hc:R'.count=R.count) {f:Nat}:f∈q_a (G_a l a R')↔f∈q_a l:=by
 obtain⟨k1,k2⟩:=j_a hnd R' hm;have e1:=A_b k1;have e2:=A_b k2;rw [U_c] at e1 e2;dsimp only at e1 e2;rw [hf,hc] at e2;exact (e2.trans e1.symm).mem_iff
theorem MO.upd {fr n:Nat} {tk:List (Nat×Nat)} {S:St} {a:Nat} {R R':RootS} {p':Pool} {l':List Qr} {M':Mst} (h:MO n S) (hn:1≤n∧n≤7) (hI:Inv fr n tk S) (hm:(a,R)∈S.roots) (hR':RootOk n a R') (hf:R'.first=R.first) (W:Nat→Prop)
  (hW:∀y,y%4=0→¬W y→getW M'.mem y=getW S.M.mem y) (hC:∀y v,¬W y→(e_c a R' y v↔e_c a R y v)) (hO:∀y,W y→∀x∈S.roots,x.1≠a→¬OwnR x.2 y)
  (hin:∀y v,W y→e_c a R' y v→getW M'.mem y=v) (hz:∀y,y%4=0→W y→(∀v,¬e_c a R' y v)→getW M'.mem y=0)
  (hl:∀q∈l'.map Qr.f,q∈S.l.map Qr.f∨∀y,y/4096=q→W y):MO n ⟨M',p',l',G_a S.roots a R'⟩:=by
 have ham:a∈S.roots.map (·.1):=List.mem_map.2 ⟨_,hm,rfl⟩;have hRo:=hI.root _ hm;have hc:R'.count=R.count:=by rw [hR'.cnt];exact hRo.cnt.symm
 refine⟨fun x hx=>?_,fun x hx y v hc=>?_,fun y hy hr hno=>?_⟩
 ·rcases mem_updR.1 hx with ⟨rfl,_⟩|⟨hx,_⟩
  ·dsimp only;rw [hf];exact h.al _ hm
  ·exact h.al x hx
 ·rcases mem_updR.1 hx with ⟨rfl,_⟩|⟨hx,hne⟩
  ·have hal:=(m_a hn hR' hc).1;by_cases hw:W y
   ·exact hin y v hw hc
   ·show getW M'.mem y=v;rw [hW y hal hw];exact h.cell _ hm y v ((hC y v hw).1 hc)
  ·have hal:=m_a hn (hI.root _ hx) hc;have hw:¬W y:=fun hw=>hO y hw x hx hne hal.2;show getW M'.mem y=v;rw [hW y hal.1 hw];exact h.cell _ hx y v hc
 ·by_cases hw:W y
  ·exact hz y hy hw fun v=>hno (a,R') (mem_updR.2 (.inl ⟨rfl,ham⟩)) v
  ·show getW M'.mem y=0;rw [hW y hy hw];refine h.zero y hy ?_ fun x hx v hcx=>?_
   ·rcases List.mem_append.1 hr with hr|hr
    ·rcases hl _ hr with hr|hr
     ·exact List.mem_append.2 (.inl hr)
     ·exact absurd (hr y rfl) hw
    ·exact List.mem_append.2 (.inr ((s_i hI.nd hm hf hc).1 hr))
   ·by_cases e:x.1=a
    ·obtain⟨b,Q⟩:=x;dsimp only at e;subst e;have:Q=R:=by
      have h1:=G_b hI.nd hx;have h2:=G_b hI.nd hm;rw [h1] at h2;exact Option.some.inj h2
     subst this;exact hno (b,R') (mem_updR.2 (.inl ⟨rfl,ham⟩)) v ((hC y v hw).2 hcx)
    ·exact hno x (mem_updR.2 (.inr ⟨hx,e⟩)) v hcx
theorem G_e {R R':RootS} (h:R'.tabs=R.tabs) (a:Nat) (t:Tr):placeOf R' a t=placeOf R a t:=by unfold placeOf;rw [h]
theorem m_e {M:Mst} {pa v k i:Nat} (hp:pa%4=0) (hv:v<2^32) (hi:i<k):getW (e_a M pa v k).mem (pa+4*i)=v:=by
 rw [C_b hp (by omega) hv,if_pos (by omega)]
theorem W_c {M:Mst} {pa v k y:Nat} (hp:pa%4=0) (hy:y%4=0) (hv:v<2^32) (h:∀i,i<k→y≠pa+4*i):getW (e_a M pa v k).mem y=getW M.mem y:=by
 rw [C_b hp hy hv,if_neg];intro hh;exact h ((y-pa)/4) (by omega) (by omega)
theorem G_d {n a:Nat} {R:RootS} (hn:1≤n∧n≤7) (hR:RootOk n a R) {t:Tr} (ht:t∈R.blocks):placeOf R a t%4=0:=by
 have hp:0<reps t.size:=by rcases D_d (hR.blk.good t ht) with h|h<;>omega
 have:=(m_a hn hR (.inl ⟨t,ht,0,hp,rfl,rfl⟩)).1;omega
section
variable {fr n:Nat} {tk:List (Nat×Nat)} {S:St} {a:Nat} {R:RootS}
theorem Inv.others {M':Mst} {p':Pool} {l':List Qr} {R':RootS} (hI':Inv fr n tk ⟨M',p',l',G_a S.roots a R'⟩) (ham:a∈S.roots.map (·.1)) {y:Nat} (hy:OwnR R' y) {x:Nat×RootS} (hx:x∈S.roots) (hne:x.1≠a):¬OwnR x.2 y:=fun ho =>
 hI'.ownApart (a:=a) (R:=R') (b:=x.1) (R':=x.2) (mem_updR.2 (.inl ⟨rfl,ham⟩)) (mem_updR.2 (.inr ⟨hx,hne⟩)) (fun e=>hne e.symm) hy ho
theorem MO.putNone (h:MO n S) (hn:1≤n∧n≤7) (hI:Inv fr n tk S) (hm:(a,R)∈S.roots) {t:Tr} (ht:Good n t) (hc:∀b∈R.blocks,X_ t b=false) (hp:t.paged=true→(tab? R.tabs t.mib).isSome=true) :
  MO n ⟨P_j a R S.M none t,S.p,S.l,G_a S.roots a (v_c R none t)⟩:=by
 have hR:=hI.root _ hm;dsimp only at hR;have hR':=hR.putNone ht hc hp;have htab:(v_c R none t).tabs=R.tabs:=by rw [r_a];simp
 have hI':=hI.upd hm (P_j a R S.M none t) (by rw [htab];exact hI.xi hm) hR' (W_a R none t).1;have ham:a∈S.roots.map (·.1):=List.mem_map.2 ⟨_,hm,rfl⟩;have hA':=hI'.apart (mem_updR.2 (.inl ⟨rfl,ham⟩));have hmem:∀b,b∈(v_c R none t).blocks↔b=t∨b∈R.blocks:=fun b=>by rw [N_a,(X_a _ _ _).mem_iff,List.mem_cons]
 have htm:t∈(v_c R none t).blocks:=(hmem t).2 (.inl rfl);have hpl:=G_e htab a;have hal:placeOf R a t%4=0:=by rw [←hpl];exact G_d hn hR' htm
 have hM:P_j a R S.M none t=e_a S.M (placeOf R a t) (wordN t) (reps t.size):=rfl;refine h.upd hn hI hm hR' (W_a R none t).1 (fun y=>∃i,i<reps t.size∧y=placeOf R a t+4*i) (fun y hy hw=>?_) (fun y v hw=>?_) (fun y hw x hx hne=>?_) (fun y v hw hcell=>?_) (fun y hy hw hno=>?_) (fun q hq=>.inl hq)
 ·rw [hM];exact W_c hal hy (c_a t) fun i hi e=>hw ⟨i,hi,e⟩
 ·constructor
  ·rintro (⟨b,hb,i,hi,e,rfl⟩|⟨m,T,hT,e,b,hb,bp,bm,rfl⟩)
   ·rw [hpl] at e;rcases (hmem b).1 hb with rfl|hb
    ·exact absurd ⟨i,hi,e⟩ hw
    ·exact .inl ⟨b,hb,i,hi,e,rfl⟩
   ·rw [htab] at hT;obtain⟨u,hu,up,um⟩:=(hR.tk m).1 (by rw [hT];rfl);refine .inr ⟨m,T,hT,e,u,hu,up,um,?_⟩;rw [hR'.blk.dom hb ((hmem u).2 (.inr hu)) bp up (bm.trans um.symm)]
  ·rintro (⟨b,hb,i,hi,e,rfl⟩|⟨m,T,hT,e,b,hb,bp,bm,rfl⟩)
   ·exact .inl ⟨b,(hmem b).2 (.inr hb),i,hi,by rw [hpl];exact e,rfl⟩
   ·exact .inr ⟨m,T,by rw [htab];exact hT,e,b,(hmem b).2 (.inr hb),bp,bm,rfl⟩
 ·obtain⟨i,hi,rfl⟩:=hw;exact hI'.others ham (m_a hn hR' (.inl ⟨t,htm,i,hi,by rw [hpl],rfl⟩)).2 hx hne
 ·obtain⟨i,hi,rfl⟩:=hw;rw [V_d hn hR' hA' hcell (.inl ⟨t,htm,i,hi,by rw [hpl],rfl⟩),hM];exact m_e hal (c_a t) hi
 ·obtain⟨i,hi,rfl⟩:=hw;exact absurd (.inl ⟨t,htm,i,hi,by rw [hpl],rfl⟩) (hno (wordN t))
theorem A_i {l l':List Qr} (hok':SlabOk l') (h:∀T∈tabs l',T∈tabs l):∀q∈l'.map Qr.f,q∈l.map Qr.f:=by
 intro q hq;obtain⟨x,hx,rfl⟩:=List.mem_map.1 hq;obtain⟨k,hk,hu⟩:=hok'.any x hx;obtain⟨z,hz,k',hk',_,e⟩:=mem_tabs.1 (h _ (mem_tabs.2 ⟨x,hx,k,hk,hu,rfl⟩));exact List.mem_map.2 ⟨z,hz,by omega⟩
set_option maxHeartbeats 2000000 in
theorem MO.putSome (h:MO n S) (hn:1≤n∧n≤7) (hfr:fr≤65536) (hI:Inv fr n tk S) (hm:(a,R)∈S.roots) {t:Tr} (ht:Good n t) (hc:∀b∈R.blocks,X_ t b=false) (hp:t.paged=true) (hno:(tab? R.tabs t.mib).isSome=false) {T:Nat} {p':Pool} {l':List Qr} (hs:STake S.p S.l T 0 p' l') :
  MO n ⟨P_j a R S.M (some (T,!decide (T/4∈S.l.map Qr.f))) t,p',l',G_a S.roots a (v_c R (some (T,!decide (T/4∈S.l.map Qr.f))) t)⟩:=by
 have hR:=hI.root _ hm;dsimp only at hR;have hR':=hR.putSome ht hc hp hno T (!decide (T/4∈S.l.map Qr.f));have hx:=hI.xi hm;obtain⟨k1,k2,k3,k4,k5,_⟩:=hs.acc hx.ok hx.acc (by have:=hx.lt;omega);have k5:=k5 rfl;generalize hg:(!decide (T/4∈S.l.map Qr.f))=f at *;have htab:(v_c R (some (T,f)) t).tabs=R.tabs++[(t.mib,T)]:=r_a _ _ _;have hX':XI fr (q_a S.roots++E_a tk) (rootT (S.roots.filter fun x=>decide (x.1≠a))) p' l' (v_c R (some (T,f)) t).tabs:=by
  refine⟨k2,k1,?_,by have:=hx.lt;omega⟩;rw [htab];refine List.Perm.trans ?_ ((hx.tb.cons T).trans k5.symm);simp only [List.map_append,List.map_cons,List.map_nil,List.append_assoc,List.singleton_append];exact List.perm_middle
 have hI':=hI.upd hm (P_j a R S.M (some (T,f)) t) hX' hR' (W_a R _ t).1;have ham:a∈S.roots.map (·.1):=List.mem_map.2 ⟨_,hm,rfl⟩;have hm':=mem_updR (l:=S.roots) (R':=v_c R (some (T,f)) t) |>.2 (.inl ⟨rfl,ham⟩);have hA':=hI'.apart hm';have hmem:∀b,b∈(v_c R (some (T,f)) t).blocks↔b=t∨b∈R.blocks:=fun b=>by rw [N_a,(X_a _ _ _).mem_iff,List.mem_cons]
 have htm:t∈(v_c R (some (T,f)) t).blocks:=(hmem t).2 (.inl rfl);have hT':tab? (v_c R (some (T,f)) t).tabs t.mib=some T:=by
  rw [htab];unfold tab? at hno ⊢;rw [List.find?_append];rw [Option.isSome_map,Option.isSome_eq_false_iff,Option.isNone_iff_eq_none] at hno;rw [hno];simp
 have htabne:∀m,m≠t.mib→tab? (v_c R (some (T,f)) t).tabs m=tab? R.tabs m:=fun m hne=>by
  rw [htab];unfold tab?;rw [List.find?_append];have:([(t.mib,T)]:List (Nat×Nat)).find? (fun x=>x.1==m)=none:=by
   rw [List.find?_cons];have:(t.mib==m)=false:=by rw [beq_eq_false_iff_ne];exact fun e=>hne e.symm
   simp [this]
  rw [this,Option.or_none]
 have hnop:∀b∈R.blocks,b.paged=true→b.mib≠t.mib:=fun b hb bp e=>by
  have:=(hR.tk t.mib).2 ⟨b,hb,bp,e⟩;rw [hno] at this;cases this
 have hpl:∀b∈R.blocks,placeOf (v_c R (some (T,f)) t) a b=placeOf R a b:=fun b hb=>by
  unfold placeOf;by_cases bp:b.paged=true
  ·rw [if_pos bp,if_pos bp,htabne _ (hnop b hb bp)]
  ·rw [if_neg bp,if_neg bp]
 have hR1:placeOf (d_a R (some (T,f)) t) a t=placeOf (v_c R (some (T,f)) t) a t:=rfl;have hal:=G_d hn hR' htm;have hk:=hR.key;obtain⟨M2,hM2⟩:∃M2,e_a (if f=true then W_j S.M (T/4) 1 else S.M) (a+4*t.mib) (tabW T t.dom) 1=M2:=⟨_,rfl⟩;obtain⟨pa,hpa⟩:∃pa,placeOf (v_c R (some (T,f)) t) a t=pa:=⟨_,rfl⟩;have hMM:P_j a R S.M (some (T,f)) t=e_a M2 pa (wordN t) (reps t.size):=by rw [←hM2,←hpa];rfl
 rw [hpa] at hal;have hMa:∀i,i<reps t.size→getW (P_j a R S.M (some (T,f)) t).mem (pa+4*i)=wordN t:=fun i hi=>by rw [hMM];exact m_e hal (c_a t) hi
 have hMb:∀y,y%4=0→(¬∃i,i<reps t.size∧y=pa+4*i)→getW (P_j a R S.M (some (T,f)) t).mem y=if y=a+4*t.mib then tabW T t.dom else if f=true∧y/4096=T/4 then 0 else getW S.M.mem y:=fun y hy hh=>by
  rw [hMM,W_c hal hy (c_a t) fun i hi e=>hh ⟨i,hi,e⟩,←hM2,C_b (by omega) hy (V_h _ _)];by_cases e:y=a+4*t.mib
  ·rw [if_pos (by omega),if_pos e]
  ·rw [if_neg (by omega),if_neg e];cases hf:f with
   | false=>simp
   | true =>
    simp only [if_true,true_and];show getW (i_c S.M.mem (T/4) 1) y=_;rw [u_e hy];by_cases e2:y/4096=T/4
    ·rw [if_pos (by omega),if_pos e2]
    ·rw [if_neg (by omega),if_neg e2]
 have hfresh:f=true→T/4∉S.l.map Qr.f:=fun hf=>by rw [hf] at hg;simpa using hg
 have hTl:T/4∈l'.map Qr.f:=by
  obtain⟨q,hq,k,hk4,_,e⟩:=mem_tabs.1 (k5.mem_iff.2 (by simp:T∈T :: tabs S.l));exact List.mem_map.2 ⟨q,hq,by omega⟩
 have hcellT:e_c a (v_c R (some (T,f)) t) (a+4*t.mib) (tabW T t.dom):=.inr ⟨t.mib,T,hT',rfl,t,htm,hp,rfl,rfl⟩;refine h.upd hn hI hm hR' (W_a R _ t).1 (fun y=>(∃i,i<reps t.size∧y=pa+4*i)∨y=a+4*t.mib∨(f=true∧y/4096=T/4)) (fun y hy hw=>?_) (fun y v hw=>?_) (fun y hw x hx2 hne=>?_) (fun y v hw hcell=>?_) (fun y hy hw hnone=>?_) (fun q hq=>?_)
 ·rw [hMb y hy (fun h=>hw (.inl h)),if_neg (fun h=>hw (.inr (.inl h))),if_neg (fun h=>hw (.inr (.inr h)))]
 ·constructor
  ·rintro (⟨b,hb,i,hi,e,rfl⟩|⟨m,U,hU,e,b,hb,bp,bm,rfl⟩)
   ·rcases (hmem b).1 hb with rfl|hb
    ·exact absurd (.inl ⟨i,hi,by rw [←hpa];exact e⟩) hw
    ·exact .inl ⟨b,hb,i,hi,by rw [←hpl b hb];exact e,rfl⟩
   ·have hme:m≠t.mib:=fun e2=>hw (.inr (.inl (by rw [e,e2])));rw [htabne m hme] at hU;rcases (hmem b).1 hb with rfl|hb
    ·exact absurd bm.symm hme
    ·exact .inr ⟨m,U,hU,e,b,hb,bp,bm,rfl⟩
  ·rintro (⟨b,hb,i,hi,e,rfl⟩|⟨m,U,hU,e,b,hb,bp,bm,rfl⟩)
   ·exact .inl ⟨b,(hmem b).2 (.inr hb),i,hi,by rw [hpl b hb];exact e,rfl⟩
   ·exact .inr ⟨m,U,by rw [htabne m (fun e2=>hnop b hb bp (bm.trans e2))];exact hU,e,b,(hmem b).2 (.inr hb),bp,bm,rfl⟩
 ·rcases hw with ⟨i,hi,rfl⟩|rfl|⟨hf,hq⟩
  ·exact hI'.others ham (m_a hn hR' (.inl ⟨t,htm,i,hi,by rw [hpa],rfl⟩)).2 hx2 hne
  ·exact hI'.others ham (m_a hn hR' hcellT).2 hx2 hne
  ·rintro (ho|⟨m,ho⟩)
   ·refine (List.nodup_append.1 hI'.acc.nd).2.2 (T/4) hTl (T/4) (List.mem_append.2 (.inl (List.mem_flatMap.2 ⟨x,mem_updR.2 (.inr ⟨hx2,hne⟩),mem_span.2 (by rw [hq] at ho;exact ho)⟩))) rfl
   ·obtain⟨q,hq2,k,hk4,_,e⟩:=mem_tabs.1 ((hI.xi (a:=x.1) (R:=x.2) hx2).mem ho);exact hfresh hf (List.mem_map.2 ⟨q,hq2,by omega⟩)
 ·have hcy:=(m_a hn hR' hcell).1;by_cases h1:∃i,i<reps t.size∧y=pa+4*i
  ·obtain⟨i,hi,rfl⟩:=h1;rw [hMa i hi];exact V_d hn hR' hA' (.inl ⟨t,htm,i,hi,by rw [hpa],rfl⟩) hcell
  ·rw [hMb y hcy h1];by_cases h2:y=a+4*t.mib
   ·rw [if_pos h2];subst h2;exact V_d hn hR' hA' hcellT hcell
   ·rw [if_neg h2];exfalso;rcases hw with hw|hw|⟨hf,hq⟩
    ·exact h1 hw
    ·exact h2 hw
    ·have hnr:∀m,m<1024*(v_c R (some (T,f)) t).count→y≠a+4*m:=fun m hm2 e=>by
      have hk':=hR'.key;exact hA'.fr _ _ hT' (by rw [←hq,e];omega)
     rcases hcell with ⟨b,hb,i,hi,e,_⟩|⟨m,U,hU,e,_⟩
     ·rcases x_a hn hR' hb hi with ⟨_,e1,e2⟩|⟨bp,U,hU,e1,e2⟩
      ·exact hnr _ e2 (by rw [e,e1])
      ·rcases (hmem b).1 hb with rfl|hb2
       ·exact h1 ⟨i,hi,by rw [←hpa];exact e⟩
       ·rw [htabne _ (hnop b hb2 bp)] at hU;obtain⟨q,hq2,k,hk4,_,e3⟩:=mem_tabs.1 (hx.mem hU);exact hfresh hf (List.mem_map.2 ⟨q,hq2,by omega⟩)
     ·exact hnr _ (o_c hn hR' hU).1 e
 ·by_cases h1:∃i,i<reps t.size∧y=pa+4*i
  ·obtain⟨i,hi,rfl⟩:=h1;exact absurd (.inl ⟨t,htm,i,hi,by rw [hpa],rfl⟩) (hnone (wordN t))
  ·rw [hMb y hy h1];by_cases h2:y=a+4*t.mib
   ·subst h2;exact absurd hcellT (hnone _)
   ·rw [if_neg h2];rcases hw with hw|hw|hw
    ·exact absurd hw h1
    ·exact absurd hw h2
    ·rw [if_pos hw]
 ·obtain⟨x,hxq,rfl⟩:=List.mem_map.1 hq;obtain⟨k,hk4,hu⟩:=k2.any x hxq;rcases List.mem_cons.1 (k5.mem_iff.1 (mem_tabs.2 ⟨x,hxq,k,hk4,hu,rfl⟩)) with e|e
  ·by_cases hin:T/4∈S.l.map Qr.f
   ·exact .inl (by rw [show x.f=T/4 by omega];exact hin)
   ·refine .inr fun y hy=>.inr (.inr ⟨by rw [←hg];simpa using hin,by omega⟩)
  ·obtain⟨z,hz,k',hk',_,e⟩:=mem_tabs.1 e;exact .inl (List.mem_map.2 ⟨z,hz,by omega⟩)
end
end Go.Proofs.YtmgjicnipgdjhaaGreatDoor
set_option maxRecDepth 10000
namespace Go.Proofs.YtmgjicnipgdjhaaGreatDoor
open Go Go.Sh Go.Fr
theorem e_d {l:List (Nat×Nat)} {m k:Nat} (h:k≠m):tab? (l.filter fun x=>decide (x.1≠m)) k=tab? l k:=by
 unfold tab?;rw [List.find?_filter]
 congr 1
 apply congrFun
 apply congrArg
 funext x
 by_cases e:x.1=k
 ·subst e;simp [h]
 ·have:(x.1==k)=false:=by rw [beq_eq_false_iff_ne];exact e
  simp [this]
theorem i_e {l:List (Nat×Nat)} {m:Nat}:tab? (l.filter fun x=>decide (x.1≠m)) m=none:=by
 refine y_h ?_;cases h:(tab? (l.filter fun x=>decide (x.1≠m)) m).isSome with
 | false=>rfl
 | true=>exact absurd rfl (mem_untab.1 h).1
section
variable {fr n:Nat} {tk:List (Nat×Nat)} {S:St} {a:Nat} {R:RootS}
set_option maxHeartbeats 1000000 in
theorem MO.cut (h:MO n S) (hn:1≤n∧n≤7) (hI:Inv fr n tk S) (hm:(a,R)∈S.roots) {t:Tr} (ht:t∈R.blocks) {asid:Int} {y:Xs} (hs:CutStep a asid t ⟨R,S.M,S.p,S.l⟩ y):MO n (y.st S.roots a)∧Inv fr n tk (y.st S.roots a):=by
 have hR:=hI.root _ hm;dsimp only at hR;have hA:=hI.apart hm;have hX:=hI.xi hm;obtain⟨o1,o2,o3,o4,o5,o6⟩:=hs.ok (x:=⟨R,S.M,S.p,S.l⟩) hR hX ht;have hI':Inv fr n tk (y.st S.roots a):=hI.upd hm y.M o2 o1 o4;refine⟨?_,hI'⟩;have ham:a∈S.roots.map (·.1):=List.mem_map.2 ⟨_,hm,rfl⟩;have hmem:∀b,b∈y.R.blocks↔b∈R.blocks∧b.va≠t.va:=fun b=>by rw [o3];exact b_c hR ht
 have hne:∀b,b∈R.blocks→b≠t→b∈y.R.blocks:=fun b hb hne=>(hmem b).2 ⟨hb,fun e=>hne (y_c hR.blk hb ht e)⟩;have hnt:t∉y.R.blocks:=fun hh=>((hmem t).1 hh).2 rfl;have hal:=G_d hn hR ht;have hk:=hR.key;obtain⟨pa,hpa⟩:∃pa,placeOf R a t=pa:=⟨_,rfl⟩;have hza:∀i,i<reps t.size→getW (C_j a asid R S.M t).mem (pa+4*i)=0:=fun i hi=>by
  show getW (e_a S.M (placeOf R a t) 0 (reps t.size)).mem _=0;rw [hpa] at hal ⊢;exact m_e hal (by decide) hi
 have hzb:∀y,y%4=0→(¬∃i,i<reps t.size∧y=pa+4*i)→getW (C_j a asid R S.M t).mem y=getW S.M.mem y:=fun y hy hh=>by
  show getW (e_a S.M (placeOf R a t) 0 (reps t.size)).mem _=_;rw [hpa] at hal ⊢;exact W_c hal hy (by decide) fun i hi e=>hh ⟨i,hi,e⟩
 have hoth:∀i,i<reps t.size→∀x∈S.roots,x.1≠a→¬OwnR x.2 (pa+4*i):=fun i hi x hx hxa ho =>
  hI.ownApart hm (b:=x.1) (R':=x.2) hx (fun e=>hxa e.symm) (m_a hn hR (.inl ⟨t,ht,i,hi,by rw [hpa],rfl⟩)).2 ho
 cases hs with
 | keep hlast =>
  refine h.upd hn hI hm o1 o4 (fun y=>∃i,i<reps t.size∧y=pa+4*i) (fun z hz hw=>hzb z hz hw) (fun z v hw=>?_) (fun z hw x hx hxa=>?_) (fun z v hw hcell=>?_) (fun z hz hw hno=>?_) (fun q hq=>.inl hq)
  ·constructor
   ·rintro (⟨b,hb,i,hi,e,rfl⟩|⟨m,T,hT,e,b,hb,bp,bm,rfl⟩)
    ·exact .inl ⟨b,((hmem b).1 hb).1,i,hi,e,rfl⟩
    ·exact .inr ⟨m,T,hT,e,b,((hmem b).1 hb).1,bp,bm,rfl⟩
   ·rintro (⟨b,hb,i,hi,e,rfl⟩|⟨m,T,hT,e,b,hb,bp,bm,rfl⟩)
    ·by_cases hbt:b=t
     ·subst hbt;exact absurd ⟨i,hi,by rw [←hpa];exact e⟩ hw
     ·exact .inl ⟨b,hne b hb hbt,i,hi,e,rfl⟩
    ·obtain⟨u,hu,up,um⟩:=(o1.tk m).1 (by show (tab? R.tabs m).isSome=true;rw [hT];rfl);exact .inr ⟨m,T,hT,e,u,hu,up,um,by rw [hR.blk.dom hb ((hmem u).1 hu).1 bp up (bm.trans um.symm)]⟩
  ·obtain⟨i,hi,rfl⟩:=hw;exact hoth i hi x hx hxa
  ·obtain⟨i,hi,rfl⟩:=hw;exfalso;rcases hcell with ⟨b,hb,j,hj,e,_⟩|⟨m,T,hT,e,_⟩
   ·have e2:=O_g hn hR hA ht ((hmem b).1 hb).1 hi hj (by rw [hpa];exact e);exact ((hmem b).1 hb).2 (by rw [e2])
   ·exact W_d hn hR hA ht hi hT (by rw [hpa];exact e)
  ·obtain⟨i,hi,rfl⟩:=hw;exact hza i hi
 | shut hlast T e p' l' hT hd =>
  dsimp only at hT hd;rw [n_d] at hlast;have hlp:∀b∈R.blocks,b≠t→b.paged=true→b.mib≠t.mib:=fun b hb hbt bp e=>hlast.2 b (hne b hb hbt) ⟨bp,e⟩;have hpl:∀b∈R.blocks,b≠t→placeOf (P_f (K_e R t) t.mib) a b=placeOf R a b:=fun b hb hbt=>by
   unfold placeOf;by_cases bp:b.paged=true
   ·rw [if_pos bp,if_pos bp];show (tab? (R.tabs.filter fun x=>decide (x.1≠t.mib)) b.mib).getD 0*1024+_=_;rw [e_d (hlp b hb hbt bp)]
   ·rw [if_neg bp,if_neg bp]
  have hbt:∀b,b∈(P_f (K_e R t) t.mib).blocks→b∈R.blocks∧b≠t:=fun b hb=>⟨((hmem b).1 hb).1,fun e=>((hmem b).1 hb).2 (by rw [e])⟩;have htf:∀m U,tab? (P_f (K_e R t) t.mib).tabs m=some U→m≠t.mib∧tab? R.tabs m=some U:=fun m U hU=>by
   have hU:tab? (R.tabs.filter fun x=>decide (x.1≠t.mib)) m=some U:=hU;by_cases e:m=t.mib
   ·subst e;rw [i_e] at hU;cases hU
   ·rw [e_d e] at hU;exact⟨e,hU⟩
  have hhk:e_c a R (a+4*t.mib) (tabW T t.dom):=.inr ⟨t.mib,T,hT,rfl,t,ht,hlast.1,rfl,rfl⟩;have hhook:∀z,z%4=0→getW (e_a (C_j a asid R S.M t) (a+4*t.mib) 0 1).mem z=if z=a+4*t.mib then 0 else getW (C_j a asid R S.M t).mem z:=fun z hz=>by
   rw [C_b (by omega) hz (by decide)];by_cases e:z=a+4*t.mib
   ·rw [if_pos (by omega),if_pos e]
   ·rw [if_neg (by omega),if_neg e]
  refine h.upd hn hI hm o1 o4 (fun y=>(∃i,i<reps t.size∧y=pa+4*i)∨y=a+4*t.mib) (fun z hz hw=>?_) (fun z v hw=>?_) (fun z hw x hx hxa=>?_) (fun z v hw hcell=>?_) (fun z hz hw hno=>?_) (fun q hq=>?_)
  ·show getW (e_a (C_j a asid R S.M t) (a+4*t.mib) 0 1).mem z=_;rw [hhook z hz,if_neg (fun e=>hw (.inr e)),hzb z hz fun e=>hw (.inl e)]
  ·constructor
   ·rintro (⟨b,hb,i,hi,e,rfl⟩|⟨m,U,hU,e,b,hb,bp,bm,rfl⟩)
    ·have:=hbt b hb;exact .inl ⟨b,this.1,i,hi,by rw [←hpl b this.1 this.2];exact e,rfl⟩
    ·exact .inr ⟨m,U,(htf m U hU).2,e,b,(hbt b hb).1,bp,bm,rfl⟩
   ·rintro (⟨b,hb,i,hi,e,rfl⟩|⟨m,U,hU,e,b,hb,bp,bm,rfl⟩)
    ·by_cases hb2:b=t
     ·subst hb2;exact absurd (.inl ⟨i,hi,by rw [←hpa];exact e⟩) hw
     ·exact .inl ⟨b,hne b hb hb2,i,hi,by rw [hpl b hb hb2];exact e,rfl⟩
    ·have hme:m≠t.mib:=fun e2=>hw (.inr (by rw [e,e2]));refine .inr ⟨m,U,?_,e,b,hne b hb (fun e2=>hme (by rw [←bm,e2])),bp,bm,rfl⟩;show tab? (R.tabs.filter fun x=>decide (x.1≠t.mib)) m=some U;rw [e_d hme];exact hU
  ·rcases hw with ⟨i,hi,rfl⟩|rfl
   ·exact hoth i hi x hx hxa
   ·exact fun ho=>hI.ownApart hm (b:=x.1) (R':=x.2) hx (fun e=>hxa e.symm) (m_a hn hR hhk).2 ho
  ·exfalso;rcases hw with ⟨i,hi,rfl⟩|rfl
   ·rcases hcell with ⟨b,hb,j,hj,e,_⟩|⟨m,U,hU,e,_⟩
    ·have:=hbt b hb;exact this.2 (O_g hn hR hA ht this.1 hi hj (by rw [hpa,←hpl b this.1 this.2];exact e)).symm
    ·exact W_d hn hR hA ht hi (htf m U hU).2 (by rw [hpa];exact e)
   ·rcases hcell with ⟨b,hb,j,hj,e,_⟩|⟨m,U,hU,e,_⟩
    ·have:=hbt b hb;exact W_d hn hR hA this.1 hj hT (by rw [←hpl b this.1 this.2];exact e.symm)
    ·exact (htf m U hU).1 (by omega)
  ·show getW (e_a (C_j a asid R S.M t) (a+4*t.mib) 0 1).mem z=_;rw [hhook z hz];split
   ·rfl
   ·rename_i hne2;rcases hw with ⟨i,hi,rfl⟩|rfl
    ·exact hza i hi
    ·exact absurd rfl hne2
  ·obtain⟨_,_,k3,_,_,k6⟩:=hd.acc hX.ok hX.acc (hX.mem hT);exact .inl (A_i k3 (fun U hU=>k6.mem_iff.2 (List.mem_cons_of_mem _ hU)) q hq)
theorem Xs.st_mem {y:Xs} {roots:List (Nat×RootS)} (h:a∈roots.map (·.1)):(a,y.R)∈(y.st roots a).roots:=mem_updR.2 (.inl ⟨rfl,h⟩)
theorem MO.cutRun (h:MO n S) (hn:1≤n∧n≤7) (hI:Inv fr n tk S) (hm:(a,R)∈S.roots) {asid:Int} {ts:List Tr} {y:Xs} (hr:CutRun a asid ⟨R,S.M,S.p,S.l⟩ ts y) :
  ∀rest,(∀t∈ts++rest,t∈R.blocks)→((ts++rest).map (·.va)).Nodup→MO n (y.st S.roots a)∧Inv fr n tk (y.st S.roots a):=by
 have ham:a∈S.roots.map (·.1):=List.mem_map.2 ⟨_,hm,rfl⟩;have self:G_a S.roots a R=S.roots:=by
  unfold G_a;have e:S.roots.map (fun x=>if x.1=a then (a,R) else x)=S.roots.map id:=List.map_congr_left fun x hx=>by
   by_cases e:x.1=a
   ·rw [if_pos e];obtain⟨b,Q⟩:=x;dsimp only at e;subst e;have h1:=G_b hI.nd hx;rw [G_b hI.nd hm] at h1;cases h1
    rfl
   ·rw [if_neg e];rfl
  rw [e,List.map_id]
 induction hr with
 | nil =>
  intro rest _ _;have:(Xs.mk R S.M S.p S.l).st S.roots a=S:=by unfold Xs.st;rw [self]
  rw [this];exact⟨h,hI⟩
 | @snoc ts y z t hr hs ih =>
  intro rest h1 h2;obtain⟨k1,k2⟩:=ih (t :: rest) (fun u hu=>h1 u (by simpa using hu)) (by simpa using h2);obtain⟨_,_,c3,_⟩:=l_h hr (hI.root _ hm) (hI.xi hm) (t :: rest) (fun u hu=>h1 u (by simpa using hu)) (by simpa using h2);have:=k1.cut hn k2 (Xs.st_mem ham) (c3 t (by simp)) (asid:=asid) (y:=z) hs;have e:z.st (y.st S.roots a).roots a=z.st S.roots a:=by
   unfold Xs.st;rw [z_c]
  rw [e] at this;exact this
theorem MO.chg (h:MO n S) (hn:1≤n∧n≤7) (hI:Inv fr n tk S) (hm:(a,R)∈S.roots) {t t':Tr} (ht:t∈R.blocks) (hg:Good n t') (hv:t'.va=t.va) (hz:t'.size=t.size) (hd:t'.dom=t.dom) (asid:Int) :
  MO n ⟨chgM a asid R S.M t t',S.p,S.l,G_a S.roots a (W_g R t t')⟩∧Inv fr n tk ⟨chgM a asid R S.M t t',S.p,S.l,G_a S.roots a (W_g R t t')⟩:=by
 have hR:=hI.root _ hm;dsimp only at hR;obtain⟨hR',hmem⟩:=o_h hR ht hg hv hz hd;have hI':=hI.upd hm (chgM a asid R S.M t t') (R':=W_g R t t') (show XI fr _ _ S.p S.l R.tabs from hI.xi hm) hR' rfl;refine⟨?_,hI'⟩;have ham:a∈S.roots.map (·.1):=List.mem_map.2 ⟨_,hm,rfl⟩;have hA':=hI'.apart (mem_updR.2 (.inl ⟨rfl,ham⟩));have hpg:t'.paged=t.paged∧t'.mib=t.mib:=by unfold Tr.paged Tr.mib;rw [hz,hv];exact⟨rfl,rfl⟩
 have hpl:∀b,placeOf (W_g R t t') a b=placeOf R a b:=G_e rfl a;have hpe:placeOf R a t'=placeOf R a t:=by unfold placeOf;rw [hpg.1,hpg.2,hv]
 have htm:t'∈(W_g R t t').blocks:=(hmem t').2 (.inl rfl);have hal:=G_d hn hR ht;obtain⟨pa,hpa⟩:∃pa,placeOf R a t=pa:=⟨_,rfl⟩;rw [hpa] at hal hpe;have hM:chgM a asid R S.M t t'=e_a (C_j a asid R S.M t) pa (wordN t') (reps t.size):=by rw [←hpe,←hz];rfl
 have hcut:∀y,y%4=0→(¬∃i,i<reps t.size∧y=pa+4*i)→getW (C_j a asid R S.M t).mem y=getW S.M.mem y:=fun y hy hh=>by
  show getW (e_a S.M (placeOf R a t) 0 (reps t.size)).mem _=_;rw [hpa];exact W_c hal hy (by decide) fun i hi e=>hh ⟨i,hi,e⟩
 have hown:∀i,i<reps t.size→e_c a (W_g R t t') (pa+4*i) (wordN t'):=fun i hi=>.inl ⟨t',htm,i,by rw [hz];exact hi,by rw [hpl,hpe],rfl⟩;refine h.upd hn hI hm hR' rfl (fun y=>∃i,i<reps t.size∧y=pa+4*i) (fun y hy hw=>?_) (fun y v hw=>?_) (fun y hw x hx hxa=>?_) (fun y v hw hcell=>?_) (fun y hy hw hno=>?_) (fun q hq=>.inl hq)
 ·rw [hM,W_c hal hy (c_a t') fun i hi e=>hw ⟨i,hi,e⟩,hcut y hy hw]
 ·constructor
  ·rintro (⟨b,hb,i,hi,e,rfl⟩|⟨m,T,hT,e,b,hb,bp,bm,rfl⟩)
   ·rw [hpl] at e;rcases (hmem b).1 hb with rfl|⟨hb,_⟩
    ·exact absurd ⟨i,by rw [←hz];exact hi,by rw [←hpe];exact e⟩ hw
    ·exact .inl ⟨b,hb,i,hi,e,rfl⟩
   ·rcases (hmem b).1 hb with rfl|⟨hb,_⟩
    ·exact .inr ⟨m,T,hT,e,t,ht,by rw [←hpg.1];exact bp,by rw [←hpg.2];exact bm,by rw [hd]⟩
    ·exact .inr ⟨m,T,hT,e,b,hb,bp,bm,rfl⟩
  ·rintro (⟨b,hb,i,hi,e,rfl⟩|⟨m,T,hT,e,b,hb,bp,bm,rfl⟩)
   ·by_cases hbt:b.va=t.va
    ·have:=y_c hR.blk hb ht hbt;subst this;exact absurd ⟨i,hi,by rw [←hpa];exact e⟩ hw
    ·exact .inl ⟨b,(hmem b).2 (.inr ⟨hb,hbt⟩),i,hi,by rw [hpl];exact e,rfl⟩
   ·by_cases hbt:b.va=t.va
    ·have:=y_c hR.blk hb ht hbt;subst this;exact .inr ⟨m,T,hT,e,t',htm,by rw [hpg.1];exact bp,by rw [hpg.2];exact bm,by rw [hd]⟩
    ·exact .inr ⟨m,T,hT,e,b,(hmem b).2 (.inr ⟨hb,hbt⟩),bp,bm,rfl⟩
 ·obtain⟨i,hi,rfl⟩:=hw;exact hI'.others ham (m_a hn hR' (hown i hi)).2 hx hxa
 ·obtain⟨i,hi,rfl⟩:=hw;rw [V_d hn hR' hA' hcell (hown i hi),hM];exact m_e hal (c_a t') hi
 ·obtain⟨i,hi,rfl⟩:=hw;exact absurd (hown i hi) (hno _)
theorem MO.chgRun {f:Tr→Tr} (hn:1≤n∧n≤7) (hf:∀t,Good n t→Good n (f t)) (hv:∀t,(f t).va=t.va) (hz:∀t,(f t).size=t.size) (hd:∀t,(f t).dom=t.dom) (asid:Int) :
  ∀(ts:List Tr) {S:St} {R:RootS},MO n S→Inv fr n tk S→(a,R)∈S.roots→(∀t∈ts,t∈R.blocks)→(ts.map (·.va)).Nodup →
   MO n ⟨(L_e a asid f ts (R,S.M)).2,S.p,S.l,G_a S.roots a (L_e a asid f ts (R,S.M)).1⟩
 | [],S,R,h,hI,hm,_,_=>by
  have:=(h.cutRun hn hI hm (asid:=0) (.nil) [] (by simp) (by simp)).1;exact this
 | t :: r,S,R,h,hI,hm,hmem,hnd=>by
  have ht:=hmem t (by simp);have hR:=hI.root _ hm;obtain⟨k1,k2⟩:=h.chg hn hI hm (t':=f t) ht (hf t (hR.blk.good t ht)) (hv t) (hz t) (hd t) asid;rw [List.map_cons,List.nodup_cons] at hnd;have hmm:=(o_h hR ht (hf t (hR.blk.good t ht)) (hv t) (hz t) (hd t)).2;have:=MO.chgRun hn hf hv hz hd asid r k1 k2 (R:=W_g R t (f t)) (mem_updR.2 (.inl ⟨rfl,List.mem_map.2 ⟨_,hm,rfl⟩⟩)) (fun u hu=>(hmm u).2 (.inr ⟨hmem u (by simp [hu]),fun e=>hnd.1 (List.mem_map.2 ⟨u,hu,e⟩)⟩)) hnd.2;rw [z_c] at this;exact this
end
end Go.Proofs.YtmgjicnipgdjhaaGreatDoor
set_option maxRecDepth 10000
namespace Go.Proofs.YtmgjicnipgdjhaaGreatDoor
open Go Go.Sh Go.Fr
open Go.IntKind (i64 u64 u32)
section
variable {fr n:Nat} {tk:List (Nat×Nat)} {S:St} {a:Nat} {R:RootS}
theorem MO.putRun (h:MO n S) (hn:1≤n∧n≤7) (hfr:fr≤65536) (hI:Inv fr n tk S) (hm:(a,R)∈S.roots) {p:Pool} {l:List Qr} {ts:List Tr} {got:List (Nat×Nat×Bool)} {mine:List (Nat×Nat)} (ht:TakeI R.tabs S.p S.l ts got mine p l)
  (hg:∀t∈ts,Good n t) (hc:∀t∈ts,∀b∈R.blocks,X_ t b=false) (hp:ts.Pairwise fun a b=>X_ b a=false) :
  ∀more,(∀g∈more,ts.length≤g.1)→MO n ⟨(V_b a (got++more) ts 0 (R,S.M)).2,p,l,G_a S.roots a (V_b a (got++more) ts 0 (R,S.M)).1⟩∧Inv fr n tk ⟨(V_b a (got++more) ts 0 (R,S.M)).2,p,l,G_a S.roots a (V_b a (got++more) ts 0 (R,S.M)).1⟩:=by
 have ham:a∈S.roots.map (·.1):=List.mem_map.2 ⟨_,hm,rfl⟩;have inv:∀{p:Pool} {l:List Qr} {ts:List Tr} {got:List (Nat×Nat×Bool)} {mine:List (Nat×Nat)},TakeI R.tabs S.p S.l ts got mine p l→(∀t∈ts,Good n t)→(∀t∈ts,∀b∈R.blocks,X_ t b=false)→(ts.Pairwise fun a b=>X_ b a=false) →
   ∀more,(∀g∈more,ts.length≤g.1)→Inv fr n tk ⟨(V_b a (got++more) ts 0 (R,S.M)).2,p,l,G_a S.roots a (V_b a (got++more) ts 0 (R,S.M)).1⟩:=fun ht hg hc hp more hmo=>by
  obtain⟨k1,k2,k3,k4⟩:=l_e (M:=S.M) ht (hI.root _ hm) hg hc hp more hmo;obtain⟨x1,_,_⟩:=ht.xi (hI.xi hm) hfr;exact hI.upd hm _ (by rw [k2];exact x1) k1 k4
 induction ht with
 | nil =>
  intro more hmo;refine⟨?_,inv .nil (by simp) (by simp) List.Pairwise.nil more hmo⟩;show MO n ⟨S.M,S.p,S.l,G_a S.roots a R⟩;rw [s_b hI.nd hm];exact h
 | @skip ts got mine p l t ht hn0 ih =>
  intro more hmo;refine⟨?_,inv (ht.skip hn0) hg hc hp more hmo⟩;have hm':∀g∈more,ts.length≤g.1:=fun g hg=>by have:=hmo g hg;simp at this;omega
  have hpp:=List.pairwise_append.1 hp;obtain⟨k1,k2⟩:=ih (fun t ht=>hg t (by simp [ht])) (fun t ht=>hc t (by simp [ht])) hpp.1 more hm';obtain⟨r1,r2,r3,r4⟩:=l_e (M:=S.M) ht (hI.root _ hm) (fun t ht=>hg t (by simp [ht])) (fun t ht=>hc t (by simp [ht])) hpp.1 more hm';rw [Z_b];have hgn:got? (got++more) (0+ts.length)=none:=by
   rw [Nat.zero_add];exact Z_c fun g hg=>by
    rcases List.mem_append.1 hg with hg|hg
    ·have:=ht.idx g hg;omega
    ·have:=hmo g hg;simp at this;omega
  rw [hgn];have hct:∀b∈(V_b a (got++more) ts 0 (R,S.M)).1.blocks,X_ t b=false:=fun b hb=>by
   rcases List.mem_append.1 (r3.mem_iff.1 hb) with hb|hb
   ·exact hpp.2.2 b hb t (by simp)
   ·exact hc t (by simp) b hb
  have:=k1.putNone hn k2 (mem_updR.2 (.inl ⟨rfl,ham⟩)) (hg t (by simp)) hct fun hpg=>by
   rw [r2];rw [U_a,hpg] at hn0;simpa using hn0
  dsimp only at this;rw [z_c] at this;exact this
 | @one ts got mine p p' l l' t r ht hn0 ho hs ih =>
  intro more hmo;refine⟨?_,inv (ht.one hn0 ho hs) hg hc hp more hmo⟩;have hm':∀g∈(ts.length,r,!decide (r/4∈l.map Qr.f)) :: more,ts.length≤g.1:=fun g hg=>by
   rcases List.mem_cons.1 hg with rfl|hg
   ·exact Nat.le_refl _
   ·have:=hmo g hg;simp at this;omega
  have hpp:=List.pairwise_append.1 hp;obtain⟨k1,k2⟩:=ih (fun t ht=>hg t (by simp [ht])) (fun t ht=>hc t (by simp [ht])) hpp.1 _ hm';obtain⟨r1,r2,r3,r4⟩:=l_e (M:=S.M) ht (hI.root _ hm) (fun t ht=>hg t (by simp [ht])) (fun t ht=>hc t (by simp [ht])) hpp.1 _ hm';rw [List.append_assoc,List.singleton_append,Z_b];have hgn:got? (got++(ts.length,r,!decide (r/4∈l.map Qr.f)) :: more) (0+ts.length)=some (r,!decide (r/4∈l.map Qr.f)):=by
   rw [Nat.zero_add];have:got++(ts.length,r,!decide (r/4∈l.map Qr.f)) :: more=(got++[(ts.length,r,!decide (r/4∈l.map Qr.f))])++more:=by simp
   rw [this,p_d (fun g hg=>by have:=hmo g hg;simp at this;omega),G_g,Z_c fun g hg=>by have:=ht.idx g hg;omega];simp
  rw [hgn];have hct:∀b∈(V_b a (got++(ts.length,r,!decide (r/4∈l.map Qr.f)) :: more) ts 0 (R,S.M)).1.blocks,X_ t b=false:=fun b hb=>by
   rcases List.mem_append.1 (r3.mem_iff.1 hb) with hb|hb
   ·exact hpp.2.2 b hb t (by simp)
   ·exact hc t (by simp) b hb
  rw [U_a] at hn0;simp only [Bool.and_eq_true,Bool.not_eq_true'] at hn0;have:=k1.putSome hn hfr k2 (mem_updR.2 (.inl ⟨rfl,ham⟩)) (hg t (by simp)) hct hn0.1 (by rw [r2];exact hn0.2) hs;dsimp only at this;rw [z_c] at this;exact this
theorem T_j (hn:1≤n∧n≤7) (hR:RootOk n a R):∀(l:List Tr) (M:Mst),(∀t∈l,t∈R.blocks)→∀y,y%4=0 →
  ((∃t∈l,∃i,i<reps t.size∧y=placeOf R a t+4*i)→getW (a_a a R l M).mem y=0)∧((¬∃t∈l,∃i,i<reps t.size∧y=placeOf R a t+4*i)→getW (a_a a R l M).mem y=getW M.mem y)
 | [],M,_,y,hy=>⟨fun ⟨t,ht,_⟩=>by simp at ht,fun _=>rfl⟩
 | t :: r,M,hl,y,hy=>by
  have hal:=G_d hn hR (hl t (by simp));obtain⟨i1,i2⟩:=T_j hn hR r (Y_g a R M t) (fun u hu=>hl u (by simp [hu])) y hy;have hz:(∃i,i<reps t.size∧y=placeOf R a t+4*i)→getW (Y_g a R M t).mem y=0:=by
   rintro ⟨i,hi,rfl⟩;exact m_e hal (by decide) hi
  have hzn:(¬∃i,i<reps t.size∧y=placeOf R a t+4*i)→getW (Y_g a R M t).mem y=getW M.mem y:=fun hh=>W_c hal hy (by decide) fun i hi e=>hh ⟨i,hi,e⟩;constructor
  ·rintro ⟨u,hu,hi⟩;show getW (a_a a R r (Y_g a R M t)).mem y=0;by_cases hr:∃t∈r,∃i,i<reps t.size∧y=placeOf R a t+4*i
   ·exact i1 hr
   ·rw [i2 hr];rcases List.mem_cons.1 hu with rfl|hu
    ·exact hz hi
    ·exact absurd ⟨u,hu,hi⟩ hr
  ·intro hh;show getW (a_a a R r (Y_g a R M t)).mem y=_;rw [i2 fun ⟨u,hu,hi⟩=>hh ⟨u,by simp [hu],hi⟩,hzn fun hi=>hh ⟨t,by simp,hi⟩]
theorem shut_mem {x y:Xs} {ms:List Nat} (h:ShutRun a x ms y) (ha:a%4=0):∀z,z%4=0→((∃m∈ms,z=a+4*m)→getW y.M.mem z=0)∧((¬∃m∈ms,z=a+4*m)→getW y.M.mem z=getW x.M.mem z):=by
 induction h with
 | nil=>exact fun z hz=>⟨fun ⟨m,hm,_⟩=>by simp at hm,fun _=>rfl⟩
 | @snoc ms y m T e p' l' h hT hd ih =>
  intro z hz;obtain⟨i1,i2⟩:=ih z hz;have hp:=C_b (M:=y.M) (pa:=a+4*m) (v:=0) (by omega) hz (by decide) 1;constructor
  ·rintro ⟨k,hk,rfl⟩;show getW (e_a y.M (a+4*m) 0 1).mem _=0;rw [hp];by_cases e:k=m
   ·rw [if_pos (by omega)]
   ·rw [if_neg (by omega)];rcases List.mem_append.1 hk with hk|hk
    ·exact i1 ⟨k,hk,rfl⟩
    ·exact absurd (List.mem_singleton.1 hk) e
  ·intro hh;show getW (e_a y.M (a+4*m) 0 1).mem _=_;rw [hp,if_neg fun e=>hh ⟨m,by simp,by omega⟩];exact i2 fun ⟨k,hk,e⟩=>hh ⟨k,by simp [hk],e⟩
theorem l_j {x y:Xs} {ms:List Nat} {G O:List Nat} (h:ShutRun a x ms y) (hnd:(x.R.tabs.map (·.1)).Nodup) (hX:XI fr G O x.p x.l x.R.tabs):∀q∈y.l.map Qr.f,q∈x.l.map Qr.f:=by
 induction h with
 | nil=>exact fun q hq=>hq
 | @snoc ms y m T e p' l' h hT hd ih =>
  obtain⟨k1,k2,_⟩:=U_e (n:=1) h hnd hX;obtain⟨_,_,k3,_,_,k6⟩:=hd.acc k2.ok k2.acc (k2.mem hT);exact fun q hq=>ih q (A_i k3 (fun U hU=>k6.mem_iff.2 (List.mem_cons_of_mem _ hU)) q hq)
theorem MO.empty {S':St} {e:Nat} {asid:Int} (h:MO n S) (hn:1≤n∧n≤7) (hI:Inv fr n tk S) (hr:j_i S a asid e S'):MO n S':=by
 have hI':=hI.emptyE hr;rcases hr with ⟨_,_,rfl⟩|⟨_,R,hm,hb,⟨_,rfl⟩|⟨hne,ms,y,hp,_,hy,rfl⟩⟩
 ·exact h
 ·exact h
 have hm':=U_ hm;have hR:=hI.root _ hm';dsimp only at hR;have hA:=hI.apart hm';have ham:a∈S.roots.map (·.1):=List.mem_map.2 ⟨_,hm',rfl⟩;have hk:=hR.key;obtain⟨k1,k2,k3,k3',k4,k5,k6⟩:=U_e (n:=n) hy hR.nd (hI.xi hm');have hR2:=hI'.root (a,{ y.R with blocks:=[] }) (mem_updR.2 (.inl ⟨rfl,ham⟩));dsimp only at hR2;have h0:∀z v,¬e_c a { y.R with blocks:=[] } z v:=by
  rintro z v (⟨t,ht,_⟩|⟨m,T,hT,_,t,ht,_⟩)
  ·simp at ht
  ·simp at ht
 have hs:=shut_mem hy (by omega);have hz:=T_j hn hR R.blocks S.M (fun t ht=>ht);have hd:∀z,getW (C_h (a_a a R R.blocks S.M) 3 (u32.wrap asid)).mem z=getW (a_a a R R.blocks S.M).mem z:=fun _=>rfl;have hmm:∀m∈ms,∃T,tab? R.tabs m=some T:=fun m hm=>x_h (tab_isSome.2 (hp.mem_iff.1 hm));refine h.upd hn hI hm' hR2 k3 (fun z=>∃v,e_c a R z v) (fun z hz4 hw=>?_) (fun z v hw=>⟨fun hc=>absurd hc (h0 z v),fun hc=>absurd ⟨v,hc⟩ hw⟩) (fun z hw x hx hxa=>?_) (fun z v hw hc=>absurd hc (h0 z v)) (fun z hz4 hw _=>?_) (fun q hq=>.inl (l_j hy hR.nd (hI.xi hm') q hq))
 ·rw [(hs z hz4).2 fun ⟨m,hm2,e⟩=>?_]
  ·rw [hd,(hz z hz4).2 fun ⟨t,ht,i,hi,e⟩=>hw ⟨_,.inl ⟨t,ht,i,hi,e,rfl⟩⟩]
  ·obtain⟨T,hT⟩:=hmm m hm2;obtain⟨_,t,ht,tp,tm⟩:=o_c hn hR hT;exact hw ⟨_,.inr ⟨m,T,hT,e,t,ht,tp,tm,rfl⟩⟩
 ·obtain⟨v,hc⟩:=hw;exact fun ho=>hI.ownApart hm' (b:=x.1) (R':=x.2) hx (fun e=>hxa e.symm) (m_a hn hR hc).2 ho
 ·by_cases hms:∃m∈ms,z=a+4*m
  ·exact (hs z hz4).1 hms
  ·show getW y.M.mem z=0;rw [(hs z hz4).2 hms,hd];obtain⟨v,⟨t,ht,i,hi,e,_⟩|⟨m,T,hT,e,_⟩⟩:=hw
   ·exact (hz z hz4).1 ⟨t,ht,i,hi,e⟩
   ·exact absurd ⟨m,hp.mem_iff.2 (tab_isSome.1 (by rw [hT];rfl)),e⟩ hms
theorem MO.rootR {S':St} {x e:Nat} (h:MO n S) (hn:1≤n∧n≤7) (hI:Inv fr n tk S) (hr:x_k n S x e S'):MO n S':=by
 have hI':=hI.rootR hr;rcases hr with ⟨_,_,_,rfl⟩|⟨_,r,p',rb,tm,ht,_,rfl⟩
 ·exact h
 obtain⟨k1,k2,_,k⟩:=ht.acc hI.acc;obtain⟨_,k4,k5,_,_,k8⟩:=k rfl;have hc:=q_d n;have hrt:∀y∈S.roots++[(4096*r,(⟨rb,tm,r,cnt n,[],[]⟩:RootS))],y∈S.roots∨y=(4096*r,⟨rb,tm,r,cnt n,[],[]⟩):=fun y hy=>by
  rcases List.mem_append.1 hy with hy|hy
  ·exact .inl hy
  ·exact .inr (List.mem_singleton.1 hy)
 have h0:∀z v,¬e_c (4096*r) ⟨rb,tm,r,cnt n,[],[]⟩ z v:=by
  rintro z v (⟨t,ht,_⟩|⟨m,T,hT,_⟩)
  ·simp at ht
  ·simp [tab?] at hT
 have hnew:∀y∈S.roots,∀z,OwnR y.2 z→¬(r≤z/4096∧z/4096<r+cnt n):=fun y hy z ho hh=>by
  have hne:y.1≠4096*r:=fun e=>by
   have hf:=(hI.fresh r p' ht).1;rw [←e,G_b hI.nd (a:=y.1) (R:=y.2) hy] at hf;cases hf
  exact hI'.ownApart (a:=y.1) (R:=y.2) (b:=4096*r) (R':=⟨rb,tm,r,cnt n,[],[]⟩) (by simp [hy]) (by simp) hne ho (.inl hh)
 have hw:∀z,z%4=0→getW (i_c S.M.mem r (cnt n)) z=if r≤z/4096∧z/4096<r+cnt n then 0 else getW S.M.mem z:=fun z hz=>u_e hz _
 refine⟨fun y hy=>?_,fun y hy z v hcell=>?_,fun z hz hreg hno=>?_⟩
 ·rcases hrt y hy with hy|rfl
  ·exact h.al y hy
  ·rw [Int.toNat_natCast] at k8;exact k8
 ·rcases hrt y hy with hy|rfl
  ·have hal:=m_a hn (hI.root _ hy) hcell;show getW (i_c S.M.mem r (cnt n)) z=v;rw [hw z hal.1,if_neg (hnew y hy z hal.2)];exact h.cell y hy z v hcell
  ·exact absurd hcell (h0 z v)
 ·show getW (i_c S.M.mem r (cnt n)) z=0;rw [hw z hz];split
  ·rfl
  ·rename_i hh;refine h.zero z hz ?_ fun y hy v hc2=>hno y (by simp [hy]) v hc2;have e:q_a (S.roots++[(4096*r,⟨rb,tm,r,cnt n,[],[]⟩)])=q_a S.roots++E_e r (cnt n):=by simp [q_a]
   have hreg:z/4096∈S.l.map Qr.f++q_a (S.roots++[(4096*r,⟨rb,tm,r,cnt n,[],[]⟩)]):=hreg;rw [e] at hreg;rcases List.mem_append.1 hreg with h1|h1
   ·exact List.mem_append.2 (.inl h1)
   ·rcases List.mem_append.1 h1 with h1|h1
    ·exact List.mem_append.2 (.inr h1)
    ·exact absurd (mem_span.1 h1) hh
theorem MO.freeR {S':St} {e:Nat} (h:MO n S) (hr:FreeR S a e S') (hI:Inv fr n tk S):MO n S':=by
 rcases hr with ⟨_,_,rfl⟩|⟨R,hm,⟨_,_,rfl⟩|⟨hb,_,rfl⟩⟩
 ·exact h
 ·exact h
 refine⟨fun y hy=>h.al y (List.mem_filter.1 hy).1,fun y hy=>h.cell y (List.mem_filter.1 hy).1,fun z hz hreg hno=>h.zero z hz ?_ fun y hy v hc=>?_⟩
 ·rcases List.mem_append.1 hreg with h1|h1
  ·exact List.mem_append.2 (.inl h1)
  ·obtain⟨x,hx,hx2⟩:=List.mem_flatMap.1 h1;exact List.mem_append.2 (.inr (List.mem_flatMap.2 ⟨x,(List.mem_filter.1 hx).1,hx2⟩))
 ·by_cases e:y.1=a
  ·obtain⟨b,Q⟩:=y;dsimp only at e;subst e;have h1:=G_b hI.nd hy;rw [hm] at h1;cases h1;rcases hc with ⟨t,ht,_⟩|⟨m,T,hT,_,t,ht,_⟩
   ·rw [hb] at ht;simp at ht
   ·rw [hb] at ht;simp at ht
  ·exact hno y (List.mem_filter.2 ⟨hy,by simpa using e⟩) v hc
end
theorem DoesR.mo {n:Nat} {o:Op17} {l:List Tr} {vas:List Nat} {S S':St} {tk tk':List (Nat×Nat)} {x:Int} {e:Nat} (h:DoesR n o l vas S tk x e S' tk') (hn:1≤n∧n≤7) (hI:Inv 256 n tk S) (hM:MO n S):MO n S':=by
 cases h with
 | root hk h=>exact hM.rootR hn hI h
 | free hk ha h=>exact hM.freeR h hI
 | put hk ha h =>
  rcases h with ⟨_,_,rfl⟩|⟨_,R,got,mine,p',l',hm,hmay,ht,rfl⟩
  ·exact hM
  obtain⟨m1,m2,m3⟩:=J_d hmay;have:=(hM.putRun hn (by decide) hI (U_ hm) ht m1 m2 m3 [] (by simp)).1
  rwa [List.append_nil] at this
 | fits hk ha h=>exact hM
 | cut hk ha h =>
  rcases h with ⟨_,_,rfl⟩|⟨_,R,out,y,hc,hy,rfl⟩
  ·exact hM
  obtain⟨k1,k2,k3,k4⟩:=hI.choOk hc;exact (hM.cutRun hn hI k1 hy [] (by simpa using k2) (by simpa using k3)).1
 | chg hk ha h =>
  rcases h with ⟨_,_,rfl⟩|⟨_,R,out,hc,rfl⟩
  ·exact hM
  obtain⟨k1,k2,k3,k4⟩:=hI.choOk hc;exact MO.chgRun hn (fun t ht=>r_e ht hc.2.1) (fun _=>rfl) (fun _=>rfl) (fun _=>rfl) _ out hM hI k1 k2 k3
 | empty hk ha h=>exact hM.empty hn hI h
 | take hk h=>exact⟨hM.al,hM.cell,hM.zero⟩
 | takeN hk he h=>exact hM
 | drop hk ht=>exact⟨hM.al,hM.cell,hM.zero⟩
 | dropN hk ht=>exact hM
 | none hk=>exact hM
end Go.Proofs.YtmgjicnipgdjhaaGreatDoor
set_option maxRecDepth 10000
namespace Go.Proofs.YtmgjicnipgdjhaaGreatDoor
open Go Go.Sh Go.Fr
def worldV (c0 c1 c2 c3 c4 c5 c6 c7 c8:Int):Value:=.agg #[.int .i64 c0,.int .i64 c1,.int .i64 c2,.int .i64 c3,.int .i64 c4,.int .i64 c5,.int .i64 c6,.int .i64 c7,.int .i64 c8]
set_option maxHeartbeats 1000000 in
/-- az many tables az MiB with pages -/
theorem Ro.cut_eq {ro:Ro} {w:World} {x:Nat} (h:w.heap.size≤x):(ro.cut w) x=(0,0):=by simp only [Ro.cut,if_neg (show ¬x<w.heap.size by omega)]
open Go.IntKind (i64 u64 u32)
def memV (m:Nat):Value:=.iface 44 (.pointer (some ⟨m,0,none⟩))
def ctxV (n a:Nat):Value:=.agg #[.bool true,.bool false,.bool false,.int .i64 (n:Int),.bool false,.bool true,.int .u64 (a:Int),.int .u64 0,.int .u32 0,.int .u32 0,.int .u32 0,.int .i64 0]
theorem inv36 (w : World) (m : Nat) (pa : Int) : (callMethod (memV m) "Word" #[.int .u64 pa]).run prog w = .ok (.enter 36 #[.pointer (some ⟨m, 0, none⟩), .int .u64 pa]) w := by kernel_rfl
theorem f101 {w:World} {ro:Ro} {I:MIds} {fr:Nat} {M:Mst} (H:MachAt w ro I fr M) {pa:Nat} (hp:wErr fr pa=0):Ret prog 101 #[memV I.m,.int .u64 (pa:Int)] w fun v w'=>v=.tuple #[.int .u32 ((getW M.mem pa:Nat):Int),.bool true]∧w'=w:=by
 refine F101_of ?_;unfold F101;try dsimp only [Uui,ui_]
 refine⟨rfl,?_⟩;rw [show x_g (memV I.m)=false from rfl,E_];refine⟨36,_,inv36 w I.m pa,?_⟩;refine R_ (f36 H pa) ?_;rw [hp,if_pos rfl];simp only [sb_,Nat.reduceAdd];exact⟨by simp,by trivial⟩
theorem andNot64 {x k:Nat} (hk:k≤64) (hx:x<2^64):n_ .u64 (x:Int) ((2^k-1:Nat):Int)=((x/2^k*2^k:Nat):Int):=by
 have h0:2^k≤2^64:=Nat.pow_le_pow_right (by decide) hk;have hp:=Nat.two_pow_pos k;rw [K_f hx (by omega),show 2^64-1-(2^k-1)=2^64-2^k by omega,Q_g hk hx]
theorem n7:∀n:Nat,n<8→u64.wrap (Q_ .i64 (n:Int) 7)=(n:Int):=by decide +kernel
theorem sh14:∀n:Nat,n<8→1≤n→u64.wrap (l_ .u64 1 (u64.wrap (14-(n:Int)))-1)=((2^(14-n)-1:Nat):Int):=by decide +kernel
theorem f100 {w:World} {n a va:Nat} (hn:1≤n∧n≤7) (ha:a%2^(14-n)=0) (hal:a<2^40) (hva:va<2^32) :
  Ret prog 100 #[ctxV n a,.int .u32 (va:Int)] w fun v w'=>((va<2^(32-n)∧v=.tuple #[.int .u64 ((a+4*(va/1048576):Nat):Int),.bool true])∨(¬va<2^(32-n)∧∃x:Int,v=.tuple #[.int .u64 x,.bool false]))∧Fr0 w w':=by
 refine F100_of ?_;unfold F100;try dsimp only [lb_,li_]
 refine New.mk fun w1 n1 f1 s1=>?_
 try simp only [n1.ld_iff,sb_,Nat.reduceAdd]
 rw [n7 n (by omega)];refine O_ (fun h=>absurd h (by omega)) (fun _=>?_);rw [b_a (n:=32-(n:Int)) (by omega) (by omega),show (32:Int)-n=((32-n:Nat):Int) by omega];refine NN.mk (by omega) ?_;rw [J_a (k:=.u32) (n:=32-n) (by show 32-n≤32;omega),Nat.shiftRight_eq_div_pow];have hp:=Nat.two_pow_pos (32-n);refine O_ (fun h=>?_) (fun h=>?_)
 ·have hlt:va<2^(32-n):=by
   rcases Nat.lt_or_ge va (2^(32-n)) with h2|h2
   ·exact h2
   ·have:=Nat.div_pos h2 hp;omega
  refine NN.mk (by rw [b_a (by omega) (by omega)];omega) ⟨.inl ⟨hlt,?_⟩,f1.drew⟩;have e1:(va:Int).tdiv 1048576=((va/1048576:Nat):Int):=by rw [Int.tdiv_eq_ediv_of_nonneg (by omega)];rfl
  have hda:a/2^(14-n)*2^(14-n)=a:=by have:=Nat.div_add_mod a (2^(14-n));rw [Nat.mul_comm];omega
  rw [sh14 n (by omega) (by omega),andNot64 (by omega) (by omega),hda,e1,k_i (by omega) (by omega),b_a (n:=((va/1048576:Nat):Int)) (by omega) (by omega),b_a (n:=((va/1048576:Nat):Int)*4) (by omega) (by omega),b_a (by omega) (by omega)];rw [show (a:Int)+((va/1048576:Nat):Int)*4=((a+4*(va/1048576):Nat):Int) by omega]
  rfl
 ·refine⟨.inr ⟨fun hlt=>h ?_,_,rfl⟩,f1.drew⟩;rw [Nat.div_eq_of_lt hlt]
  rfl
def S_g (l:List Tr) (t:Tr):List Tr:=if l.getLast?=some t then l else l++[t]
set_option maxHeartbeats 1000000 in
theorem f99c {w:World} {B e c:Nat} {p:Option Addr} {l:List Tr} (t:Tr) (he:Has w e [.slice p l.length c]) (hsl:Sl w B 57 8 p l.length c (D_ l)) (hne:¬On p e) (hB:B≤w.heap.size) (hl:l.length≤100000000) :
  Ret prog 99 #[t.v,.pointer (some ⟨e,0,none⟩)] w fun v w'=>v=.tuple #[]∧∃p' c',Has w' e [.slice p' (S_g l t).length c']∧Sl w' B 57 8 p' (S_g l t).length c' (D_ (S_g l t))∧¬On p' e∧Fr (fun x=>x=e∨On p x) w w'∧∀x,On p' x→On p x∨w.heap.size≤x:=by
 obtain⟨z0,z1,z2,z3,z4,z5,z6,z7⟩:=t;refine F99c_of ?_;unfold F99c;try dsimp only [B_,lb_,li_,ls_]
 refine New.mk fun w1 n1 f1 s1=>?_;have e1:=he.fr0 f1;have hsl1:=hsl.fr0 f1;have hel:=he.lt;have push:∀{w2:World} {K:World→Prop},Fr0 w1 w2→l.getLast?≠some ⟨z0,z1,z2,z3,z4,z5,z6,z7⟩→(∀w3 p' c',Has w3 e [.slice p' (l.length+1) c']→Sl w3 B 57 8 p' (l.length+1) c' (D_ (l++[⟨z0,z1,z2,z3,z4,z5,z6,z7⟩]))→¬On p' e→Fr (fun x=>x=e∨On p x) w w3→(∀x,On p' x→On p x∨w.heap.size≤x)→K w3) →
   RunV prog (Instr.buildSlice 33 1 #[(0,.agg #[.int .i64 z0,.int .u32 (z1:Int),.int .u64 (z2:Int),.int .i64 z3,.int .i64 z4,.int .u32 (z5:Int),.bool z6,.bool z7])]) w2 fun v27 w28=>t_ v27 fun p29 n30 n31=>RunV prog (Builtin.append_ #[33,33] 33 #[.slice p l.length c,.slice p29 n30 n31]) w28 fun v32 w33=>t_ v32 fun p34 n35 n36=>Sh.St w33 ⟨e,0,none⟩ (.slice p34 n35 n36) fun w37=>K w37:=fun {w2 K} f2 hlast k=>by
  have sl2:=hsl1.fr0 f2;have z2':=f2.size;refine RunV.build1 E57 (by decide) (by rfl) fun w3 n3 f3 s3=>?_;rw [AsSl_slice];refine J_b E57 (sl2.fr0 f3) (by omega) (news:=(Tr.cells ⟨z0,z1,z2,z3,z4,z5,z6,z7⟩)) (m:=1) (fun j u hu=>by rw [Nat.zero_add];exact n3.cell.trans hu) rfl (x_ _) (by simp only [maxLen];omega) (by omega) fun p4 c4 w4 sl4 f4 hon4=>?_;rw [AsSl_slice];have f14:Fr (fun x=>x=e∨On p x) w w4:=(((f1.mono fun _ _ h=>h.elim).trans (f2.mono fun _ _ h=>h.elim)).trans (f3.mono fun _ _ h=>h.elim)).trans (f4.mono fun _ _ h=>.inr h);have e4:Has w4 e [.slice p l.length c]:=((e1.fr0 f2).fr0 f3).fr f4 hne;have hne4:¬On p4 e:=fun h=>by
   rcases hon4 e h with h|h
   ·exact hne h
   ·omega
  refine e4.st (by simp) rfl fun w5 n5 f5 s5=>?_;refine k w5 p4 c4 n5 ?_ hne4 (f14.trans (f5.mono fun _ _ h=>.inl h)) (fun x hx=>(hon4 x hx).imp id fun h=>by omega);rw [h_a];have:D_ [⟨z0,z1,z2,z3,z4,z5,z6,z7⟩]=Tr.cells ⟨z0,z1,z2,z3,z4,z5,z6,z7⟩:=by simp [D_]
  rw [this];exact sl4.fr f5 fun x hx h=>hne4 (by have:x=e:=h;rw [←this];exact hx)
 try simp only [e1.ld_iff,sb_,Nat.reduceAdd]
 refine O_ (fun h0=>?_) (fun h0=>?_)
 ·have hl0:l=[]:=List.eq_nil_of_length_eq_zero (by omega);have hadd:S_g l ⟨z0,z1,z2,z3,z4,z5,z6,z7⟩=l++[⟨z0,z1,z2,z3,z4,z5,z6,z7⟩]:=by unfold S_g;rw [if_neg (by rw [hl0];simp)]
  rw [hadd]
  try simp only [e1.ld_iff,n1.ld_iff,sb_,Nat.reduceAdd]
  refine push (Fr.refl _ _).drew (by rw [hl0];simp) fun w3 p' c' h1 h2 h3 h4 h5=>⟨by trivial,p',c',by simpa using h1,by simpa using h2,h3,h4,h5⟩
 ·have hpos:0<l.length:=by omega
  obtain⟨u,hu⟩:=N_d (l:=l) (i:=l.length-1) (by omega);have hlast:l.getLast?=some u:=by rw [List.getLast?_eq_getElem?];exact hu
  rw [w64 (n:=(l.length:Int)-1) (by omega) (by omega)];refine g_a hsl1.rd (i:=l.length-1) (by omega) hu (by omega) ?_
  try simp only [n1.ld_iff,sb_,Nat.reduceAdd]
  refine RunP.neqS S57 (fun w=>eq57 u ⟨z0,z1,z2,z3,z4,z5,z6,z7⟩ w) fun r hr=>?_;rw [AsB_bool];by_cases hut:u=⟨z0,z1,z2,z3,z4,z5,z6,z7⟩
  ·have hr:r=true:=hr.2 hut;subst hr;have hadd:S_g l ⟨z0,z1,z2,z3,z4,z5,z6,z7⟩=l:=by unfold S_g;rw [if_pos (by rw [hlast,hut])]
   rw [hadd];show BIf false _ _;rw [E_];exact⟨by trivial,p,c,e1,hsl1,hne,(f1.mono fun _ _ h=>h.elim).drew,fun x hx=>.inl hx⟩
  ·have hr:r=false:=by
    cases r with
    | false=>rfl
    | true=>exact absurd (hr.1 rfl) hut
   subst hr;have hadd:S_g l ⟨z0,z1,z2,z3,z4,z5,z6,z7⟩=l++[⟨z0,z1,z2,z3,z4,z5,z6,z7⟩]:=by unfold S_g;rw [if_neg (by rw [hlast];intro h;injection h with h;exact hut h)]
   rw [hadd];show BIf true _ _;rw [K_]
   try simp only [e1.ld_iff,n1.ld_iff,sb_,Nat.reduceAdd]
   refine push (Fr.refl _ _).drew (by rw [hlast];intro h;injection h with h;exact hut h) fun w3 p' c' h1 h2 h3 h4 h5=>⟨by trivial,p',c',by simpa using h1,by simpa using h2,h3,h4,h5⟩
end Go.Proofs.YtmgjicnipgdjhaaGreatDoor
set_option maxRecDepth 10000
namespace Go.Proofs.YtmgjicnipgdjhaaGreatDoor
open Go Go.Sh Go.Fr
def fil (l:List Tr) (x y:Nat):List Tr:=l.filter fun t=>decide (x≤t.va∧t.va<y)
theorem mem_fil {l:List Tr} {x y:Nat} {t:Tr}:t∈fil l x y↔t∈l∧x≤t.va∧t.va<y:=by unfold fil;rw [List.mem_filter,decide_eq_true_eq]
theorem j_f {l:List Tr} (hs:l.Pairwise fun a b=>a.va<b.va) (x y:Nat):(fil l x y).Pairwise fun a b=>a.va<b.va:=hs.sublist List.filter_sublist
theorem I_g (l:List Tr) (x y:Nat):(fil l x y).length≤l.length:=List.length_filter_le _ _
theorem d_b {x y z:Nat} (h1:x≤y) (h2:y≤z):∀{l:List Tr},(l.Pairwise fun a b=>a.va<b.va)→fil l x z=fil l x y++fil l y z
 | [],_=>rfl
 | t :: r,hs=>by
  obtain⟨hs1,hs2⟩:=List.pairwise_cons.1 hs;have ih:=d_b h1 h2 hs2;unfold fil at ih ⊢;rcases Nat.lt_or_ge t.va y with h|h
  ·by_cases hx:x≤t.va
   ·rw [List.filter_cons,if_pos (by simp;omega),List.filter_cons,if_pos (by simp;omega),List.filter_cons,if_neg (by simp;omega),ih,List.cons_append]
   ·rw [List.filter_cons,if_neg (by simp;omega),List.filter_cons,if_neg (by simp;omega),List.filter_cons,if_neg (by simp;omega),ih]
  ·have e:(t :: r).filter (fun t=>decide (x≤t.va∧t.va<y))=[]:=by
    rw [List.filter_eq_nil_iff];intro u hu;have:y≤u.va:=by
     rcases List.mem_cons.1 hu with rfl|hu
     ·exact h
     ·have:=hs1 u hu;omega
    simp;omega
   rw [e,List.nil_append]
   apply List.filter_congr
   intro u hu;have:y≤u.va:=by
    rcases List.mem_cons.1 hu with rfl|hu
    ·exact h
    ·have:=hs1 u hu;omega
   rw [decide_eq_decide];omega
theorem Z_e {l:List Tr} {y z:Nat} (h:∀b∈l,y≤b.va→b.va<z→False):fil l y z=[]:=by
 unfold fil;rw [List.filter_eq_nil_iff];intro u hu;rw [decide_eq_true_eq];exact fun hh=>h u hu hh.1 hh.2
theorem g_k {l:List Tr} (hs:l.Pairwise fun a b=>a.va<b.va) {t:Tr} (ht:t∈l) {y z:Nat} (h1:y≤t.va) (h2:t.va<z) (h:∀b∈l,y≤b.va→b.va<z→b=t):fil l y z=[t]:=by
 have hm:t∈fil l y z:=mem_fil.2 ⟨ht,h1,h2⟩;have hso:=j_f hs y z;have hall:∀b∈fil l y z,b=t:=fun b hb=>by
  obtain⟨k1,k2,k3⟩:=mem_fil.1 hb;exact h b k1 k2 k3
 generalize fil l y z=L at *
 match L,hm,hso,hall with
 | [u],_,_,hall=>rw [hall u (by simp)]
 | u :: v :: r,_,hso,hall =>
  have:=(List.pairwise_cons.1 hso).1 v (by simp);rw [hall u (by simp),hall v (by simp)] at this;omega
theorem add_new {l:List Tr} (hs:l.Pairwise fun a b=>a.va<b.va) {t:Tr} (ht:t∈l) {x y z:Nat} (hx:x≤y) (hy:t.va=y) (hz:y<z) (h:∀b∈l,y≤b.va→b.va<z→b=t):S_g (fil l x y) t=fil l x z:=by
 rw [d_b hx (Nat.le_of_lt hz) hs,g_k hs ht (by omega) (by omega) h];unfold S_g;rw [if_neg];intro hh;have:=mem_fil.1 (List.mem_of_getLast? hh);omega
theorem add_old {l:List Tr} (hs:l.Pairwise fun a b=>a.va<b.va) {t:Tr} (ht:t∈l) {x y z:Nat} (hx:x≤t.va) (hy:t.va<y) (hz:y≤z) (h:∀b∈l,t.va≤b.va→b.va<z→b=t):S_g (fil l x y) t=fil l x z:=by
 have e1:fil l x z=fil l x y:=by
  rw [d_b (y:=y) (by omega) hz hs,Z_e (y:=y) (z:=z) fun b hb h1 h2=>by have:=h b hb (by omega) h2;subst this;omega,List.append_nil]
 have e2:fil l x y=fil l x t.va++[t]:=by
  rw [d_b (y:=t.va) hx (by omega) hs,g_k (y:=t.va) (z:=y) hs ht (Nat.le_refl _) hy fun b hb h1 h2=>h b hb h1 (by omega)]
 rw [e1];unfold S_g;rw [if_pos (by rw [e2];simp)]
theorem R_g {l:List Tr} (hs:l.Pairwise fun a b=>a.va<b.va) {x y z:Nat} (hx:x≤y) (hz:y≤z) (h:∀b∈l,y≤b.va→b.va<z→False):fil l x y=fil l x z:=by
 rw [d_b hx hz hs,Z_e h,List.append_nil]
theorem e_i {n:Nat} {l:List Tr} (hb:BlkOk n l) {t:Tr} (ht:t∈l) {x y z:Nat} (hx:x≤t.va) (h1:t.va≤y) (hz:y<z) (h2:z≤t.tend):S_g (fil l x y) t=fil l x z:=by
 have huniq:∀b∈l,t.va≤b.va→b.va<z→b=t:=fun b hb2 k1 k2=>hb.meet hb2 ht (y:=b.va) ⟨Nat.le_refl _,by
  have:=s_a (Z_ (hb.good b hb2).right);unfold Tr.tend;omega⟩ ⟨k1,by omega⟩
 rcases Nat.lt_or_ge t.va y with h|h
 ·exact add_old hb.sorted ht hx h (by omega) huniq
 ·have e:t.va=y:=by omega
  exact add_new hb.sorted ht (by omega) e hz fun b hb k1 k2=>huniq b hb (by omega) k2
section
variable {n a fr:Nat} {R:RootS} {S:St} {tk:List (Nat×Nat)}
theorem MO.zeroAt (h:MO n S) (hn:1≤n∧n≤7) (hI:Inv fr n tk S) (hm:(a,R)∈S.roots) {y:Nat} (hy:y%4=0) (ho:OwnR R y) (hno:∀v,¬e_c a R y v):getW S.M.mem y=0:=by
 have hR:=hI.root _ hm;refine h.zero y hy ?_ fun x hx v hc=>?_
 ·rcases ho with ho|⟨m,hT⟩
  ·exact List.mem_append.2 (.inr (List.mem_flatMap.2 ⟨_,hm,mem_span.2 (by dsimp only;omega)⟩))
  ·obtain⟨q,hq,k,hk,_,e⟩:=mem_tabs.1 ((hI.xi hm).mem hT);exact List.mem_append.2 (.inl (List.mem_map.2 ⟨q,hq,by omega⟩))
 ·by_cases e:x.1=a
  ·obtain⟨b,Q⟩:=x;dsimp only at e;subst e;have h1:=G_b hI.nd hx;rw [G_b hI.nd hm] at h1;cases h1;exact hno v hc
  ·exact hI.ownApart hm (b:=x.1) (R':=x.2) hx (fun h=>e h.symm) ho (m_a hn (hI.root _ hx) hc).2
theorem unp_cov {t:Tr} (h:Good n t) (hp:t.paged=false) {m:Nat} (h1:t.va≤m*1048576) (h2:m*1048576<t.tend):∃i,i<reps t.size∧t.mib+i=m∧m*1048576+1048576≤t.tend:=by
 have hal:=t_d h.right;have hsz:=Z_ h.right;have r3:reps 3=1:=by decide
 have r4:reps 4=16:=by decide
 have b3:bytesOf 3=1048576:=by decide
 have b4:bytesOf 4=16777216:=by decide
 unfold Tr.tend at h2 ⊢;unfold Tr.mib;unfold Tr.paged at hp;rcases m_ hsz with e|e|e|e<;>rw [e] at h2 hal hp ⊢
 ·simp at hp
 ·simp at hp
 ·rw [r3];rw [b3] at h2 hal ⊢;exact⟨0,by omega,by omega,by omega⟩
 ·rw [r4];rw [b4] at h2 hal ⊢;exact⟨m-t.va/1048576,by omega,by omega,by omega⟩
theorem pag_cov {t:Tr} (h:Good n t) (hp:t.paged=true) {P:Nat} (h1:t.va≤P*4096) (h2:P*4096<t.tend):∃i,i<reps t.size∧t.va/4096+i=P∧P*4096+4096≤t.tend:=by
 have hal:=t_d h.right;have hsz:=Z_ h.right;have r1:reps 1=1:=by decide
 have r2:reps 2=16:=by decide
 have b1:bytesOf 1=4096:=by decide
 have b2:bytesOf 2=65536:=by decide
 unfold Tr.tend at h2 ⊢;unfold Tr.paged at hp;rcases m_ hsz with e|e|e|e<;>rw [e] at h2 hal hp ⊢
 ·rw [r1];rw [b1] at h2 hal ⊢;exact⟨0,by omega,by omega,by omega⟩
 ·rw [r2];rw [b2] at h2 hal ⊢;exact⟨P-t.va/4096,by omega,by omega,by omega⟩
 ·simp at hp
 ·simp at hp
theorem f_j {t:Tr} (h:t.right=true) {va:Nat} (h1:t.va≤va) (h2:va<t.tend):va/2^u_c t.size*2^u_c t.size=t.va:=by
 have hal:=t_d h;unfold Tr.tend at h2;have hb:bytesOf t.size=2^u_c t.size:=by unfold bytesOf;rw [if_pos (Z_ h)]
 rw [hb] at hal h2;have hp:=Nat.two_pow_pos (u_c t.size);have e:va/2^u_c t.size=t.va/2^u_c t.size:=by
  apply Nat.le_antisymm
  ·rw [Nat.div_le_iff_le_mul_add_pred hp];have:=Nat.div_add_mod t.va (2^u_c t.size);omega
  ·exact Nat.div_le_div_right h1
 have:=Nat.div_add_mod t.va (2^u_c t.size);rw [e,Nat.mul_comm];omega
theorem q_j (h:MO n S) (hn:1≤n∧n≤7) (hI:Inv fr n tk S) (hm:(a,R)∈S.roots) {m:Nat} (hmm:m<1024*R.count) :
  (∃T t,tab? R.tabs m=some T∧t∈R.blocks∧t.paged=true∧t.mib=m∧getW S.M.mem (a+4*m)=tabW T t.dom) ∨
  (∃t∈R.blocks,t.paged=false∧t.va≤m*1048576∧m*1048576+1048576≤t.tend∧getW S.M.mem (a+4*m)=wordN t) ∨
  ((∀t∈R.blocks,m*1048576≤t.va→t.va<m*1048576+1048576→False)∧getW S.M.mem (a+4*m)=0):=by
 have hR:=hI.root _ hm;dsimp only at hR;have hA:=hI.apart hm;have hk:=hR.key;cases hT:tab? R.tabs m with
 | some T =>
  obtain⟨_,t,ht,tp,tm⟩:=o_c hn hR hT;exact .inl ⟨T,t,rfl,ht,tp,tm,h.cell _ hm _ _ (.inr ⟨m,T,hT,rfl,t,ht,tp,tm,rfl⟩)⟩
 | none =>
  by_cases hc:∃t∈R.blocks,t.paged=false∧t.va≤m*1048576∧m*1048576<t.tend
  ·obtain⟨t,ht,tp,t1,t2⟩:=hc;obtain⟨i,hi,e,t3⟩:=unp_cov (hR.blk.good t ht) tp t1 t2;refine .inr (.inl ⟨t,ht,tp,t1,t3,h.cell _ hm _ _ (.inl ⟨t,ht,i,hi,?_,rfl⟩)⟩);rcases x_a hn hR ht hi with ⟨_,e1,_⟩|⟨p1,_⟩
   ·rw [e1,e]
   ·rw [tp] at p1;cases p1
  ·refine .inr (.inr ⟨fun t ht h1 h2=>?_,h.zeroAt hn hI hm (by omega) (.inl (by omega)) fun v hcell=>?_⟩)
   ·cases tp:t.paged with
    | true =>
     have:=(hR.tk m).2 ⟨t,ht,tp,by unfold Tr.mib;omega⟩;rw [hT] at this;cases this
    | false =>
     have hp0:0<reps t.size:=by rcases D_d (hR.blk.good t ht) with h|h<;>omega
     have:=(over (hR.blk.good t ht) hp0).2 tp;unfold Tr.mib at this;exact hc ⟨t,ht,tp,by omega,by omega⟩
   ·rcases hcell with ⟨t,ht,i,hi,e,_⟩|⟨m',T,hT',e,_⟩
    ·rcases x_a hn hR ht hi with ⟨tp,e1,_⟩|⟨_,T,hT',e1,e2⟩
     ·have:=(over (hR.blk.good t ht) hi).2 tp;exact hc ⟨t,ht,tp,by rw [show m=t.mib+i by omega];exact this.1,by rw [show m=t.mib+i by omega];omega⟩
     ·exact hA.fr _ _ hT' (by omega)
    ·rw [show m'=m by omega,hT] at hT';cases hT'
theorem D_k (h:MO n S) (hn:1≤n∧n≤7) (hI:Inv fr n tk S) (hm:(a,R)∈S.roots) {m T p:Nat} (hT:tab? R.tabs m=some T) (hp:p<256) :
  (∃t∈R.blocks,t.paged=true∧t.mib=m∧t.va≤(m*256+p)*4096∧(m*256+p)*4096+4096≤t.tend∧getW S.M.mem (T*1024+4*p)=wordN t) ∨
  ((∀t∈R.blocks,(m*256+p)*4096≤t.va→t.va<(m*256+p)*4096+4096→False)∧getW S.M.mem (T*1024+4*p)=0):=by
 have hR:=hI.root _ hm;dsimp only at hR;have hA:=hI.apart hm;have hk:=hR.key;obtain⟨hmc,u,hu,up,um⟩:=o_c hn hR hT;by_cases hc:∃t∈R.blocks,t.paged=true∧t.va≤(m*256+p)*4096∧(m*256+p)*4096<t.tend
 ·obtain⟨t,ht,tp,t1,t2⟩:=hc;obtain⟨i,hi,e,t3⟩:=pag_cov (hR.blk.good t ht) tp t1 t2;have hov:=(over (hR.blk.good t ht) hi).1 tp;have htm:t.mib=m:=by omega
  refine .inl ⟨t,ht,tp,htm,t1,t3,h.cell _ hm _ _ (.inl ⟨t,ht,i,hi,?_,rfl⟩)⟩;rcases x_a hn hR ht hi with ⟨p1,_⟩|⟨_,U,hU,e1,e2⟩
  ·rw [tp] at p1;cases p1
  ·rw [htm,hT] at hU;cases hU;rw [e1];omega
 ·refine .inr ⟨fun t ht h1 h2=>?_,h.zeroAt hn hI hm (by omega) (.inr ⟨m,by rw [hT];congr 1;omega⟩) fun v hcell=>?_⟩
  ·have hal:=h_b (hR.blk.good t ht).right;have hby:=s_a (Z_ (hR.blk.good t ht).right);cases tp:t.paged with
   | true=>exact hc ⟨t,ht,tp,by omega,by unfold Tr.tend;omega⟩
   | false =>
    have hp0:0<reps t.size:=by rcases D_d (hR.blk.good t ht) with h|h<;>omega
    have h3:=(over (hR.blk.good t ht) hp0).2 tp;have hub:=s_a (Z_ (hR.blk.good u hu).right);have hua:u.va/1048576=m:=um;have hta:t.va=m*1048576:=by unfold Tr.mib at h3;omega
    have:t=u:=hR.blk.meet ht hu (y:=u.va) (by unfold Tr.mib at h3;omega) (by unfold Tr.tend;omega);rw [this,up] at tp;cases tp
  ·rcases hcell with ⟨t,ht,i,hi,e,_⟩|⟨m',U,hU,e,_⟩
   ·rcases x_a hn hR ht hi with ⟨_,e1,e2⟩|⟨tp,U,hU,e1,e2⟩
    ·exact hA.fr _ _ hT (by omega)
    ·have hov:=(over (hR.blk.good t ht) hi).1 tp;have hUT:U=T:=by omega
     subst hUT;have hmm:t.mib=m:=hA.inj _ _ _ hU hT;have hpi:t.va/4096+i=m*256+p:=by omega
     exact hc ⟨t,ht,tp,by rw [←hpi];omega,by rw [←hpi];omega⟩
   ·have:=(o_c hn hR hU).1;exact hA.fr _ _ hT (by omega)
end
end Go.Proofs.YtmgjicnipgdjhaaGreatDoor
set_option maxRecDepth 10000
namespace Go.Proofs.YtmgjicnipgdjhaaGreatDoor
open Go Go.Sh Go.Fr
theorem j_d {t:Tr} (h:t.right=true):t.pa%2^u_c t.size=0∧t.pa<(if t.size=4 then 2^40 else 2^32)∧(∃a:Nat,t.ap=(a:Int)∧a<8)∧t.bits<64∧(∃d:Nat,t.dom=(d:Int)∧d<16):=by
 obtain⟨h1,h2,h3,h4,h5⟩:=j_ h;unfold V_f place v_g at h5;unfold F_h at h3;simp only [Bool.and_eq_true,decide_eq_true_eq] at h5 h3;obtain⟨⟨p1,p2⟩,⟨q1,q2⟩,q3⟩:=h5;refine⟨p1,?_,⟨t.ap.toNat,by omega,by omega⟩,by omega,⟨t.dom.toNat,by omega,by omega⟩⟩;split at p2<;>rename_i e
 ·rw [if_pos e];exact p2
 ·rw [if_neg e];exact p2
theorem rdB {w:World} {t:Tr} (h:t.right=true) (hp:t.paged=false):wordN t%4=2∧Ret prog 102 #[.int .u32 ((wordN t:Nat):Int)] w fun v w'=>v=t.en.v∧Fr0 w w':=by
 obtain⟨v1,v2,⟨a,ha,ha8⟩,v4,⟨d,hd,hd16⟩⟩:=j_d h;have hsz:=j_ h;have hw:=x_c t;unfold Tr.word at hw;rw [hp,if_neg (by decide)] at hw;obtain⟨size,va,pa,dom,ap,bits,ng,xn⟩:=t;dsimp only at *;subst ha hd;have hs:size=3∨size=4:=by
  rcases m_ hsz.1 with e|e|e|e
  ·subst e;simp [Tr.paged] at hp
  ·subst e;simp [Tr.paged] at hp
  ·exact .inl e
  ·exact .inr e
 rcases hs with rfl|rfl
 ·have hen:(Tr.en ⟨3,va,pa,d,a,bits,ng,xn⟩)=⟨2,pa,d,false,a,bits,ng,xn⟩:=by unfold Tr.en;simp [knd]
  rw [hen] at hw ⊢;have s3:u_c 3=20:=by decide
  rw [s3] at v1;rw [if_neg (by decide)] at v2;obtain⟨X,e,k0,k1,k2,k3,k4,k5,g1,g2,g3,g4,g5,g6,g7⟩:=encS_f ng xn v1 v2 hd16 ha8 v4;have hX:wordN ⟨3,va,pa,d,a,bits,ng,xn⟩=X:=by
   have:(En.enc1 ⟨2,pa,d,false,a,bits,ng,xn⟩)=(X:Int):=e;omega
  rw [hX];exact⟨by omega,f102B (k:=2) (sup:=false) hd16 ha8 v4 k0 k1 k3 k4 g1 g2 g3 g4 g5 g6 g7 (fun _=>⟨k2,k5,rfl⟩) (fun h=>by cases h)⟩
 ·have hd0:(d:Int)=0:=hsz.2.2.2.1 rfl;have hd0:d=0:=by omega
  subst hd0;have hen:(Tr.en ⟨4,va,pa,(0:Nat),a,bits,ng,xn⟩)=⟨3,pa,(0:Nat),false,a,bits,ng,xn⟩:=by unfold Tr.en;simp [knd]
  rw [hen] at hw ⊢;have s4:u_c 4=24:=by decide
  rw [s4] at v1;rw [if_pos rfl] at v2;obtain⟨X,e,k0,k1,k3,k4,k5,k6,k7,g1,g2,g3,g4,g5,g6,g7⟩:=encU_f (d:=0) ng xn v1 v2 ha8 v4;have hX:wordN ⟨4,va,pa,(0:Nat),a,bits,ng,xn⟩=X:=by
   have:(En.enc1 ⟨3,pa,(0:Nat),false,a,bits,ng,xn⟩)=(X:Int):=e;omega
  rw [hX];exact⟨by omega,f102B (k:=3) (sup:=true) (by decide) ha8 v4 k0 k1 k3 k4 g1 g2 g3 g4 g5 g6 g7 (fun h=>by cases h) (fun _=>⟨v2,v1,k5,k6,k7,rfl,rfl⟩)⟩
theorem rdP {w:World} {t:Tr} (h:t.right=true) (hp:t.paged=true):wordN t%4≠0∧Ret prog 104 #[.int .u32 ((wordN t:Nat):Int)] w fun v w'=>v=t.en.v∧Fr0 w w':=by
 obtain⟨v1,v2,⟨a,ha,ha8⟩,v4,⟨d,hd,hd16⟩⟩:=j_d h;have hsz:=j_ h;have hw:=x_c t;unfold Tr.word at hw;rw [hp,if_pos rfl] at hw;obtain⟨size,va,pa,dom,ap,bits,ng,xn⟩:=t;dsimp only at *;subst ha hd;have hs:size=1∨size=2:=by
  rcases m_ hsz.1 with e|e|e|e
  ·exact .inl e
  ·exact .inr e
  ·subst e;simp [Tr.paged] at hp
  ·subst e;simp [Tr.paged] at hp
 rcases hs with rfl|rfl
 ·have hen:(Tr.en ⟨1,va,pa,d,a,bits,ng,xn⟩)=⟨5,pa,0,false,a,bits,ng,xn⟩:=by unfold Tr.en;simp [knd]
  rw [hen] at hw ⊢;have s1:u_c 1=12:=by decide
  rw [s1] at v1;rw [if_neg (by decide)] at v2;obtain⟨X,e,k0,k1,k2,g1,g2,g3,g4,g5,g6,g7⟩:=encP_f ng xn v1 v2 ha8 v4;have hX:wordN ⟨1,va,pa,d,a,bits,ng,xn⟩=X:=by
   have:(En.enc2 ⟨5,pa,0,false,a,bits,ng,xn⟩)=(X:Int):=e;omega
  rw [hX];exact⟨by omega,f104P ha8 v4 k0 k1 k2 g1 g2 g3 g4 g5 g6 g7⟩
 ·have hen:(Tr.en ⟨2,va,pa,d,a,bits,ng,xn⟩)=⟨4,pa,0,false,a,bits,ng,xn⟩:=by unfold Tr.en;simp [knd]
  rw [hen] at hw ⊢;have s2:u_c 2=16:=by decide
  rw [s2] at v1;rw [if_neg (by decide)] at v2;obtain⟨X,e,k0,k1,k2,g1,g2,g3,g4,g5,g6,g7⟩:=encL_f ng xn v1 v2 ha8 v4;have hX:wordN ⟨2,va,pa,d,a,bits,ng,xn⟩=X:=by
   have:(En.enc2 ⟨4,pa,0,false,a,bits,ng,xn⟩)=(X:Int):=e;omega
  rw [hX];exact⟨by omega,f104L ha8 v4 k0 k1 k2 g1 g2 g3 g4 g5 g6 g7⟩
theorem and3 {x:Nat} (hx:x<2^32):Q_ .u32 (x:Int) 3=((x%4:Nat):Int):=by
 rw [show (3:Int)=((3:Nat):Int) from rfl,c_e hx (by decide),show (3:Nat)=2^2-1 from rfl,Nat.and_two_pow_sub_one_eq_mod]
theorem rdT {w:World} {T d:Nat} (hT:T<4194304) (hd:d<16):tabW T d%4=1∧Ret prog 102 #[.int .u32 ((tabW T d:Nat):Int)] w fun v w'=>v=(R_e T d).v∧Fr0 w w':=by
 obtain⟨X,e,k0,k1,k2,k3,k4⟩:=encT_f (base:=T*1024) (by omega) (by omega) hd;have hX:tabW T d=X:=by
  have h1:=W_h T d;have:(R_e T d).enc1=(X:Int):=e;omega
 have hr:=f102T (w:=w) (base:=T*1024) (by omega) (by omega) hd;rw [e] at hr;rw [hX];exact⟨by omega,hr⟩
theorem goes99:G_c prog 99=true:=by kernel_rfl
theorem f_i {w:World} {B e c:Nat} {p:Option Addr} {l:List Tr} (t:Tr) (he:Has w e [.slice p l.length c]) (hsl:Sl w B 57 8 p l.length c (D_ l)) (hne:¬On p e) (hB:B≤w.heap.size) (hl:l.length≤100000000) {K:Value→World→Prop}
  (k:∀w' p' c',Has w' e [.slice p' (S_g l t).length c']→Sl w' B 57 8 p' (S_g l t).length c' (D_ (S_g l t))→¬On p' e→Fr (fun x=>x=e∨On p x) w w'→(∀x,On p' x→On p x∨w.heap.size≤x)→K (.tuple #[]) w') :
  FnV prog (.func (.func 99) #[] #[.pointer (some ⟨e,0,none⟩)]) [t.v] w K:=by
 refine FnV.go goes99 ?_;refine Ret.use (f99c t he hsl hne hB hl) ?_;rintro _ w' ⟨rfl,p',c',h1,h2,h3,h4,h5⟩;exact k w' p' c' h1 h2 h3 h4 h5
def Q_a (n a:Nat):List Value:=[.bool true,.bool false,.bool false,.int .i64 (n:Int),.bool false,.bool true,.int .u64 (a:Int),.int .u64 0,.int .u32 0,.int .u32 0,.int .u32 0,.int .i64 0]
structure Got (w0 w:World) (b e B n a:Nat) (l:List Tr):Prop where
 ctx:Has w b (Q_a n a)
 st:∃p c,Has w e [.slice p l.length c]∧Sl w B 57 8 p l.length c (D_ l)
 fr:Fr0 w0 w
 sz:B≤w.heap.size
theorem Got.fr0 {w0 w w':World} {b e B n a:Nat} {l:List Tr} (h:Got w0 w b e B n a l) (f:Fr0 w w'):Got w0 w' b e B n a l:=by
 obtain⟨p,c,h1,h2⟩:=h.st;exact⟨h.ctx.fr0 f,⟨p,c,h1.fr0 f,h2.fr0 f⟩,h.fr.trans f,Nat.le_trans h.sz f.size⟩
set_option maxHeartbeats 4000000 in
/-- sixteen MiB -/
theorem f51 {w0 w:World} {ro:Ro} {J:Ids} {n d a:Nat} {S:St} {tk:List (Nat×Nat)} {R:RootS} (H:LawAt w0 w ro J n S d tk) (hM:MO n S) (hm:(a,R)∈S.roots) {g:Nat} (hg:g<256) :
  Ret prog 51 #[memV J.I.m,ctxV n a,.int .u32 ((g*16777216:Nat):Int)] w fun v w'=>∃p c,v=.slice p (fil R.blocks (g*16777216) (g*16777216+16777216)).length c∧Sl w' w.heap.size 57 8 p (fil R.blocks (g*16777216) (g*16777216+16777216)).length c (D_ (fil R.blocks (g*16777216) (g*16777216+16777216)))∧Fr0 w w':=by
 have hI:=H.inv;have hn:=H.n1;have hR:=hI.root _ hm;dsimp only at hR;have hbk:=hR.blk;have hso:=hbk.sorted;have hlen:=(hI.std hn).len _ hm;dsimp only at hlen;have hk:=hR.key;have hcc:=hR.cnt;have hal:=hM.al _ hm;dsimp only at hal;have hsm:=hI.small (by decide) hm;have haM:a%2^(14-n)=0:=by
  unfold Go.Proofs.YtmgjicnipgdjhaaGreatDoor.cnt at hal;have h7:n=1∨n=2∨n=3∨n=4∨n=5∨n=6∨n=7:=by omega
  rcases h7 with rfl|rfl|rfl|rfl|rfl|rfl|rfl
  ·rw [if_pos rfl] at hal;omega
  all_goals omega
 have hpw:2^(32-n)=2^(12-n)*1048576:=by
  rw [show (1048576:Nat)=2^20 from rfl,←Nat.pow_add]
  congr 1
  omega
 have hpc:2^(12-n)≤1024*R.count:=by
  rw [hcc];unfold Go.Proofs.YtmgjicnipgdjhaaGreatDoor.cnt;split
  ·rename_i e;subst e;decide
  ·have:2^(12-n)≤2^10:=Nat.pow_le_pow_right (by decide) (by omega);omega
 have hf256:=(hI.frames hm).1;refine F51_of ?_;unfold F51;try dsimp only [J_,M_,S_8,a_,O_c,Uub,Uvb,ce_,lb_,li_,ls_,ub_,ui_]
 refine New.mk fun w1 n1 f1 s1=>New.mk fun w2 n2 f2 s2=>?_;have m1:=n1.fr0 f2;have f02:Fr0 w w2:=f1.trans f2;simp only [H_,Nat.zero_add];have fil0:∀x,fil R.blocks x x=[]:=fun x=>Z_e fun b hb h1 h2=>by omega
 refine Loop.by (fun st w'=>∃i:Nat,i≤16∧st=[.int .u32 (i:Int)]∧Got w w' w.heap.size w1.heap.size w2.heap.size n a (fil R.blocks (g*16777216) (g*16777216+i*1048576))) (fun st _=>match st with | [.int _ i]=>16-i.toNat|_=>0)
  ⟨0,by omega,rfl,⟨m1,⟨none,0,by rw [Nat.zero_mul,Nat.add_zero,fil0];exact n2,by rw [Nat.zero_mul,Nat.add_zero,fil0];exact Sl.nil _ _ _ _⟩,f02,Nat.le_refl _⟩⟩ ?_
 rintro _ w3 ⟨i,hi,rfl,G3⟩;have c3:=G3.ctx;unfold Q_a at c3;simp only [sb_,Nat.reduceAdd];refine C_ (fun hlt=>?_) (fun hge=>?_)
 ·obtain⟨va,hva⟩:∃va,g*16777216+i*1048576=va:=⟨_,rfl⟩;have hvm:va=va/1048576*1048576:=by omega
  rw [hva] at G3;have nxt:g*16777216+(i+1)*1048576=va+1048576:=by rw [Nat.add_mul,Nat.one_mul,←Nat.add_assoc,hva]
  refine Join.at (fun st w'=>st=[]∧Got w w' w.heap.size w1.heap.size w2.heap.size n a (fil R.blocks (g*16777216) (va+1048576))) ?_ ?_
  ·try simp only [c3.ld_iff,sb_,Nat.reduceAdd]
   rw [k_i (n:=(i:Int)*1048576) (by omega) (by omega),k_i (n:=((g*16777216:Nat):Int)+(i:Int)*1048576) (by omega) (by omega),show ((g*16777216:Nat):Int)+(i:Int)*1048576=(va:Int) by omega];refine Ret.use (f100 (a:=a) (va:=va) hn haM (by omega) (by omega)) ?_;rintro _ w4 ⟨⟨hin,rfl⟩|⟨hout,x,rfl⟩,f4⟩
   ·have G4:=G3.fr0 f4;have H4:=H.fr0 G4.fr;simp only [sb_,Nat.reduceAdd];simp only [Bool.not_true,E_];have hmm:va/1048576<1024*R.count:=by
     rw [hpw] at hin;generalize 2^(12-n)=z at *;omega
    refine R_ (f101 H4.sys.mach (pa:=a+4*(va/1048576)) (F_g hR hf256 (by rw [←hcc];exact hmm))) ?_;simp only [sb_,Nat.reduceAdd];simp only [Bool.not_true,E_];rcases q_j hM hn hI hm hmm with ⟨T,t,hT,ht,tp,tm,hw⟩|⟨t,ht,tp,t1,t2,hw⟩|⟨hno,hw⟩
    ·-- a table
     have hTl:=(hI.xi hm).tl hT;obtain⟨v1,v2,_,v4,⟨dd,hdd,hd16⟩⟩:=j_d (hbk.good t ht).right;rw [hw,hdd];obtain⟨x1,x2⟩:=rdT (w:=w4) (T:=T) (d:=dd) (by omega) hd16;have hlt32:=V_h T dd;rw [and3 hlt32,x1];refine O_ (fun h=>absurd h (by decide)) (fun _=>?_);refine O_ (fun h=>absurd h (by decide)) (fun _=>?_);refine Ret.use x2 ?_;rintro _ w5 ⟨rfl,f5⟩;have G5:=G4.fr0 f5;simp only [R_e,En.v,AsAgg_agg,UnC_cons,UnN_nil,AsI_int,AsB_bool];refine New.mk fun w6 n6 f6 s6=>?_;simp only [H_,Nat.zero_add];refine StAll.mk (En.cells (R_e T dd)) 0 n6 rfl (En.one _) fun w7 n7 f7 s7=>?_;have n7:Has w7 w5.heap.size (En.cells (R_e T dd)):=n7;unfold R_e at n7;dsimp only [En.cells] at n7;have f57:Fr0 w5 w7:=f6.new f7 (Nat.le_refl _);have G7:=G5.fr0 f57;have z5:=G5.sz;obtain⟨p5,c5,st5,sl5⟩:=G5.st;have hp5:∀x,On p5 x→w2.heap.size≤x∧x<w5.heap.size:=fun x hx=>sl5.lt x hx;refine⟨_,n7.cell.trans rfl,AsI_int.2 ?_⟩
     try simp only [n7.ld_iff,sb_,Nat.reduceAdd]
     refine b_ (fun h=>absurd rfl h) (fun _=>?_);refine Loop.by (fun st w'=>∃q:Nat,q≤256∧st=[.int .u32 (q:Int)]∧Has w' w5.heap.size [.int .i64 1,.int .u64 ((T*1024:Nat):Int),.int .i64 (dd:Int),.bool false,.int .i64 0,.int .u32 ((0:Nat):Int),.bool false,.bool false] ∧
       Got w w' w.heap.size w1.heap.size w2.heap.size n a (fil R.blocks (g*16777216) (va+q*4096))∧(∀p c,Has w' w1.heap.size [.slice p (fil R.blocks (g*16777216) (va+q*4096)).length c]→¬On p w5.heap.size)) (fun st _=>match st with | [.int _ i]=>256-i.toNat|_=>0)
      ⟨0,by omega,rfl,n7,by rw [Nat.zero_mul,Nat.add_zero];exact G7,fun p c hh hon=>?_⟩ ?_
     ·rw [Nat.zero_mul,Nat.add_zero] at hh;have:=(st5.fr0 f57).uniq hh;simp only [List.cons.injEq,Value.slice.injEq,and_true] at this;rw [←this.1] at hon;have:=hp5 _ hon;omega
     rintro _ w8 ⟨q,hq,rfl,n8,G8,hne8⟩;have H8:=H.fr0 G8.fr;simp only [sb_,Nat.reduceAdd];refine C_ (fun hlt2=>?_) (fun hge2=>?_)
     ·refine Join.at (fun st w'=>st=[]∧Has w' w5.heap.size [.int .i64 1,.int .u64 ((T*1024:Nat):Int),.int .i64 (dd:Int),.bool false,.int .i64 0,.int .u32 ((0:Nat):Int),.bool false,.bool false] ∧
       Got w w' w.heap.size w1.heap.size w2.heap.size n a (fil R.blocks (g*16777216) (va+(q+1)*4096))∧(∀p c,Has w' w1.heap.size [.slice p (fil R.blocks (g*16777216) (va+(q+1)*4096)).length c]→¬On p w5.heap.size)) ?_ ?_
      ·try simp only [n8.ld_iff,sb_,Nat.reduceAdd]
       rw [b_a (n:=(q:Int)) (by omega) (by omega),b_a (n:=(q:Int)*4) (by omega) (by omega),b_a (n:=((T*1024:Nat):Int)+(q:Int)*4) (by omega) (by omega),show ((T*1024:Nat):Int)+(q:Int)*4=((T*1024+4*q:Nat):Int) by omega];refine R_ (f101 H8.sys.mach (pa:=T*1024+4*q) (by unfold wErr;rw [if_neg (by omega),if_neg (by omega)])) ?_;simp only [sb_,Nat.reduceAdd];rw [K_];have hpq:(va/1048576*256+q)*4096=va+q*4096:=by omega
       rcases D_k hM hn hI hm hT (p:=q) (by omega) with ⟨u,hu,up,um,u1,u2,huw⟩|⟨hno,huw⟩
       ·rw [huw];rw [hpq] at u1 u2;have hur:=(hbk.good u hu).right;obtain⟨y1,y2⟩:=rdP (w:=w8.drew) hur up;rw [and3 (c_a u)];refine b_ (fun _=>?_) (fun h=>absurd h (by omega))
        try simp only [n8.ld_iff,sb_,Nat.reduceAdd]
        refine Ret.use y2 ?_;rintro _ w9 ⟨rfl,f9⟩;have f9:Fr0 w8 w9:=f9.of_drew;have n9:=n8.fr0 f9;have G9:=G8.fr0 f9;have hud:u.dom=(dd:Int):=by rw [←hdd];exact hbk.dom hu ht up tp (um.trans tm.symm)
        show V_ u.en.v _;simp only [En.v,AsAgg_agg,UnC_cons,UnN_nil,AsI_int,AsB_bool];refine⟨n9.cell.trans rfl,?_⟩;have e12:l_ .u32 (q:Int) 12=((q*4096:Nat):Int):=by
         have:=C_d (a:=q) (n:=12) (by decide) (by rw [Nat.shiftLeft_eq];omega);rw [Nat.shiftLeft_eq] at this;exact this
        rw [e12,k_i (by omega) (by omega),show (va:Int)+((q*4096:Nat):Int)=((va+q*4096:Nat):Int) by omega];refine Ret.use (f103 (H.fr0 G9.fr).sys.gl.gd u hur (va:=va+q*4096) (by omega) (f_j hur u1 (by omega)) (dd:Int) (fun _=>hud.symm)) ?_;rintro _ w10 ⟨rfl,f10⟩;have n10:=n9.fr0 f10;have G10:=G9.fr0 f10;simp only [Tr.v,Tr.cells,AsAgg_agg,UnC_cons,UnN_nil,AsI_int,AsB_bool];obtain⟨p10,c10,st10,sl10⟩:=G10.st;have hne10:¬On p10 w5.heap.size:=by
         obtain⟨p8,c8,st8,sl8⟩:=G8.st;have:=((st8.fr0 f9).fr0 f10).uniq st10;simp only [List.cons.injEq,Value.slice.injEq,and_true] at this;rw [←this.1];exact hne8 p8 c8 st8
        refine f_i u st10 sl10 (fun h=>by have:=(sl10.lt _ h).1;omega) G10.sz (Nat.le_trans (I_g _ _ _) hlen) fun w11 p11 c11 st11 sl11 hne11 f11 hon11=>?_;have hadd:S_g (fil R.blocks (g*16777216) (va+q*4096)) u=fil R.blocks (g*16777216) (va+(q+1)*4096):=by
         refine e_i hbk hu (x:=g*16777216) (y:=va+q*4096) (z:=va+(q+1)*4096) ?_ u1 (by omega) (by omega);have:u.va/1048576=va/1048576:=um;omega
        rw [hadd] at st11 sl11;have z811:=f9.size;have z1011:=f10.size;simp only [sb_,Nat.reduceAdd];refine⟨by trivial,n10.fr f11 (fun h=>h.elim (fun h=>by omega) fun h=>hne10 h),⟨G10.ctx.fr f11 (fun h=>h.elim (fun h=>by omega) fun h=>by have:=(sl10.lt _ h).1;omega),⟨p11,c11,st11,sl11⟩,G10.fr.newS f11 (fun x hx=>hx.elim (fun h=>by omega) fun h=>by have:=(sl10.lt _ h).1;omega),Nat.le_trans G10.sz f11.size⟩,fun p c hh hon=>?_⟩;have:=st11.uniq hh;simp only [List.cons.injEq,Value.slice.injEq,and_true] at this;rw [←this.1] at hon;rcases hon11 _ hon with h|h
        ·exact hne10 h
        ·have:=n8.lt;omega
       ·rw [huw];refine b_ (fun h=>absurd (by decide) h) (fun _=>?_);rw [hpq] at hno;have hsame:fil R.blocks (g*16777216) (va+q*4096)=fil R.blocks (g*16777216) (va+(q+1)*4096):=R_g hso (by omega) (by omega) fun b hb k1 k2=>hno b hb (by omega) (by omega);rw [hsame] at G8 hne8;exact⟨by trivial,n8,G8,hne8⟩
      ·rintro _ w9 ⟨rfl,n9,G9,hne9⟩;simp only [sb_,Nat.reduceAdd];rw [k_i (n:=(q:Int)+1) (by omega) (by omega)];exact⟨⟨q+1,by omega,rfl,n9,G9,hne9⟩,(by first|omega|(simp only [Int.toNat_natCast];omega))⟩
     ·obtain rfl:q=256:=by omega
      exact⟨by trivial,G8⟩
    ·-- a section
     rw [hw];have htr:=(hbk.good t ht).right;obtain⟨x1,x2⟩:=rdB (w:=w4) htr tp;rw [and3 (c_a t),x1];refine O_ (fun h=>absurd h (by decide)) (fun _=>?_);refine O_ (fun h=>absurd h (by decide)) (fun _=>?_);refine Ret.use x2 ?_;rintro _ w5 ⟨rfl,f5⟩;have G5:=G4.fr0 f5;show V_ t.en.v _;simp only [En.v,AsAgg_agg,UnC_cons,UnN_nil,AsI_int,AsB_bool];refine New.mk fun w6 n6 f6 s6=>?_;simp only [H_,Nat.zero_add];refine StAll.mk (En.cells t.en) 0 n6 rfl (En.one _) fun w7 n7 f7 s7=>?_;have n7:Has w7 w5.heap.size (En.cells t.en):=n7;have hkd:t.en.kind≠1:=by
      have h1:=j_k htr (by
       have:=sized_iff.1 (Z_ htr);unfold Tr.paged at tp;simp only [Bool.or_eq_false_iff,decide_eq_false_iff_not] at tp;omega)
      unfold En.blk1 at h1;omega
     dsimp only [En.cells] at n7;have G7:=G5.fr0 (f6.new f7 (Nat.le_refl _));refine⟨_,n7.cell.trans rfl,AsI_int.2 ?_⟩
     try simp only [n7.ld_iff,sb_,Nat.reduceAdd]
     refine b_ (fun _=>?_) (fun h=>absurd h hkd);rw [←hvm] at t1 t2;have hs3:3≤t.size:=by
      have:=sized_iff.1 (Z_ htr);unfold Tr.paged at tp;simp only [Bool.or_eq_false_iff,decide_eq_false_iff_not] at tp;omega
     refine Ret.use (f103 (H.fr0 G7.fr).sys.gl.gd t htr (va:=va) (by omega) (f_j htr t1 (by omega)) 0 (fun h=>by omega)) ?_;rintro _ w8 ⟨rfl,f8⟩;have G8:=G7.fr0 f8;simp only [Tr.v,Tr.cells,AsAgg_agg,UnC_cons,UnN_nil,AsI_int,AsB_bool];obtain⟨p8,c8,st8,sl8⟩:=G8.st;refine .inl ?_;refine f_i t st8 sl8 (fun h=>by have:=(sl8.lt _ h).1;omega) G8.sz (Nat.le_trans (I_g _ _ _) hlen) fun w9 p9 c9 st9 sl9 hne9 f9 hon9=>?_;have hadd:S_g (fil R.blocks (g*16777216) va) t=fil R.blocks (g*16777216) (va+1048576):=by
      refine e_i hbk ht (x:=g*16777216) (y:=va) (z:=va+1048576) ?_ t1 (by omega) t2;have hal2:=t_d htr;unfold Tr.tend at t2;rcases (show t.size=3∨t.size=4 by have:=sized_iff.1 (Z_ htr);omega) with e|e
      ·rw [e,show bytesOf 3=1048576 by decide] at t2 hal2;omega
      ·rw [e,show bytesOf 4=16777216 by decide] at t2 hal2;omega
     rw [hadd] at st9 sl9;simp only [sb_,Nat.reduceAdd];exact⟨by trivial,G8.ctx.fr f9 (fun h=>h.elim (fun h=>by omega) fun h=>by have:=(sl8.lt _ h).1;omega),⟨p9,c9,st9,sl9⟩,G8.fr.newS f9 (fun x hx=>hx.elim (fun h=>by omega) fun h=>by have:=(sl8.lt _ h).1;omega),Nat.le_trans G8.sz f9.size⟩
    ·rw [hw];refine O_ (fun _=>?_) (fun h=>absurd (by decide) h);rw [←hvm] at hno;have hsame:fil R.blocks (g*16777216) va=fil R.blocks (g*16777216) (va+1048576):=R_g hso (by omega) (by omega) hno;rw [hsame] at G4;exact⟨by trivial,G4⟩
   ·have G4:=G3.fr0 f4;simp only [sb_,Nat.reduceAdd];simp only [Bool.not_false,K_];have hsame:fil R.blocks (g*16777216) va=fil R.blocks (g*16777216) (va+1048576):=R_g hso (by omega) (by omega) fun b hb k1 k2=>by
     have:=(hbk.good b hb).lt hn;omega
    rw [hsame] at G4;exact⟨by trivial,G4⟩
  ·rintro _ w4 ⟨rfl,G4⟩;simp only [sb_,Nat.reduceAdd];rw [k_i (n:=(i:Int)+1) (by omega) (by omega)];exact⟨⟨i+1,by omega,rfl,by rw [nxt];exact G4⟩,(by first|omega|(simp only [Int.toNat_natCast];omega))⟩
 ·obtain rfl:i=16:=by omega
  obtain⟨p3,c3',st3,sl3⟩:=G3.st;have hso3:=j_f hso (g*16777216) (g*16777216+16*1048576);have hl3:(fil R.blocks (g*16777216) (g*16777216+16*1048576)).length≤4611686018427387904:=by have:=I_g R.blocks (g*16777216) (g*16777216+16*1048576);omega
  try simp only [st3.ld_iff,sb_,Nat.reduceAdd]
  refine Ret.use (f105 sl3.rd hso3 hl3) ?_;rintro _ w4 ⟨rfl,f4⟩;have st4:=st3.fr0 f4;simp only [sb_,Nat.reduceAdd]
  try simp only [st4.ld_iff,sb_,Nat.reduceAdd]
  refine Ret.use (f107 (sl3.rd.fr0 f4) hso3 hl3) ?_;rintro _ w5 ⟨rfl,f5⟩;simp only [sb_,Nat.reduceAdd];refine⟨p3,c3',by trivial,?_,G3.fr.trans (f4.trans f5)⟩;exact ((sl3.fr0 f4).fr0 f5).mono (by omega)
open Go.IntKind (i64 u64 u32)
theorem f13 {w:World} (m n a:Nat):Ret prog 13 #[memV m,ctxV n a] w fun v w'=>v=.func (.func 50) #[] #[.pointer (some ⟨w.heap.size+1,0,none⟩),.pointer (some ⟨w.heap.size,0,none⟩)]∧Has w' w.heap.size [memV m]∧Has w' (w.heap.size+1) (Q_a n a)∧Fr0 w w'∧w'.heap.size=w.heap.size+2:=by
 refine F13_of ?_;unfold F13;refine New.mk fun w1 n1 f1 s1=>New.mk fun w2 n2 f2 s2=>?_;rw [s1] at n2 ⊢;exact⟨rfl,n1.fr0 f2,n2,f1.trans f2,by omega⟩
theorem sh32:∀n:Nat,n<8→1≤n→u64.wrap (i64.wrap (32-(n:Int)))=((32-n:Nat):Int)∧l_ .u64 1 ((32-n:Nat):Int)=((2^(32-n):Nat):Int):=by decide +kernel
theorem f14 {w0 w:World} {ro:Ro} {J:Ids} {n d:Nat} {S:St} {tk:List (Nat×Nat)} (H:LawAt w0 w ro J n S d tk):Ret prog 14 #[.pointer (some ⟨d,0,none⟩)] w fun v w'=>v=.int .u64 ((2^(32-n):Nat):Int)∧w'=w:=by
 refine F14_of ?_;unfold F14;try dsimp only [li_]
 have hn:=H.n1;obtain⟨p,c,d1,_,_⟩:=H.desk.st
 try simp only [d1.ld_iff,sb_,Nat.reduceAdd]
 obtain⟨e1,e2⟩:=sh32 n (by omega) hn.1;rw [e1];refine NN.mk (by omega) ?_;rw [e2];exact⟨by trivial,by trivial⟩
theorem shl24 {g:Nat} (h:g<256):l_ .u32 (g:Int) 24=((g*16777216:Nat):Int):=by
 have:=C_d (a:=g) (n:=24) (by decide) (by rw [Nat.shiftLeft_eq];omega);rw [Nat.shiftLeft_eq] at this;exact this
theorem fil_all {n:Nat} {l:List Tr} (h:BlkOk n l) (hn:1≤n∧n≤7):fil l 0 (256*16777216)=l:=by
 unfold fil;rw [List.filter_eq_self];intro t ht;have h1:=(h.good t ht).lt hn;have h2:2^(32-n)≤2^32:=Nat.pow_le_pow_right (by decide) (by omega);simp;omega
set_option maxHeartbeats 1000000 in
/-- the walk itself: the blocks, one after the other -/
theorem f50c {w0:World} {ro:Ro} {J:Ids} {n d a:Nat} {S:St} {tk:List (Nat×Nat)} {R:RootS} (hM:MO n S) (hm:(a,R)∈S.roots) {y:Value} {bc bm:Nat} (Con:World→(Nat→Prop)→List Tr→Prop)
  (hlt:∀W T l,Con W T l→∀x,T x→x<W.heap.size) (hfr:∀W W' T l,Con W T l→Fr0 W W'→Con W' T l)
  (hlaw:∀W T l,Con W T l→LawAt w0 W ro J n S d tk∧Has W bc (Q_a n a)∧Has W bm [memV J.I.m])
  (hy:∀W T l t,Con W T l→t∈R.blocks→l.length<R.blocks.length→∀K:Value→World→Prop,(∀W' T',Con W' T' (l++[t])→Fr T W W'→(∀x,T' x→T x∨W.heap.size≤x)→K (.bool true) W')→FnY prog y [t.v] W K)
  {w:World} {T0:Nat→Prop} (h0:Con w T0 []):Ret prog 50 #[y,.pointer (some ⟨bc,0,none⟩),.pointer (some ⟨bm,0,none⟩)] w fun _ w'=>∃T,Con w' T R.blocks:=by
 refine F50c_of ?_;unfold F50c;try dsimp only [J_,B_,S_8,lb_,li_,ui_]
 obtain⟨H0,c0,m0⟩:=hlaw _ _ _ h0;have hR:=H0.inv.root _ hm;dsimp only at hR;have hso:=hR.blk.sorted;have hlen:=(H0.inv.std H0.n1).len _ hm;dsimp only at hlen;unfold Q_a at c0
 try simp only [c0.ld_iff,sb_,Nat.reduceAdd]
 simp only [Bool.not_true,E_];have fil0:∀x,fil R.blocks x x=[]:=fun x=>Z_e fun b hb h1 h2=>by omega
 refine Loop.by (fun st w'=>∃(g:Nat) (T:Nat→Prop),g≤256∧st=[.int .u32 (g:Int)]∧Con w' T (fil R.blocks 0 (g*16777216))) (fun st _=>match st with | [.int _ i]=>256-i.toNat|_=>0)
  ⟨0,T0,by omega,rfl,by rw [Nat.zero_mul,fil0];exact h0⟩ ?_
 rintro _ w1 ⟨g,T,hg,rfl,C1⟩;obtain⟨H1,c1,m1⟩:=hlaw _ _ _ C1;unfold Q_a at c1;simp only [sb_,Nat.reduceAdd];refine C_ (fun hlt1=>?_) (fun hge1=>?_)
 ·try simp only [m1.ld_iff,c1.ld_iff,sb_,Nat.reduceAdd]
  rw [shl24 (by omega)];refine Ret.use (f51 H1 hM hm (g:=g) (by omega)) ?_;rintro _ w2 ⟨p,c,rfl,sl2,f2⟩;have C2:=hfr _ _ _ _ C1 f2;have hT1:=hlt _ _ _ C1;obtain⟨G,hG⟩:∃G,fil R.blocks (g*16777216) (g*16777216+16777216)=G:=⟨_,rfl⟩;have hspl:fil R.blocks 0 ((g+1)*16777216)=fil R.blocks 0 (g*16777216)++G:=by
   rw [←hG,show (g+1)*16777216=g*16777216+16777216 by omega];exact d_b (by omega) (by omega) hso
  have hgl:(fil R.blocks 0 (g*16777216)).length+G.length≤R.blocks.length:=by
   rw [←List.length_append,←hspl];exact I_g _ _ _
  have hmem:∀t∈G,t∈R.blocks:=fun t ht=>by rw [←hG] at ht;exact (mem_fil.1 ht).1
  rw [hG] at sl2;simp only [hG];simp only [sb_,Nat.reduceAdd];refine Loop.by (fun st w'=>∃(i:Nat) (T':Nat→Prop),i≤G.length∧st=[.int .i64 (i:Int)]∧Con w' T' (fil R.blocks 0 (g*16777216)++G.take i)∧Rd w' p (D_ G)∧(∀x,On p x→¬T' x∧x<w'.heap.size)) (fun st _=>match st with | [.int _ i]=>G.length-i.toNat|_=>0)
   ⟨0,T,by omega,rfl,by rw [List.take_zero,List.append_nil];exact C2,sl2.rd,fun x hx=>⟨fun h=>by have:=hT1 x h;have:=(sl2.lt x hx).1;omega,(sl2.lt x hx).2⟩⟩ ?_
  rintro _ w3 ⟨i,T3,hi,rfl,C3,rd3,hon3⟩;simp only [sb_,Nat.reduceAdd];refine C_ (fun hlt2=>?_) (fun hge2=>?_)
  ·obtain⟨t,ht⟩:∃t,G[i]?=some t:=⟨G[i]'(by omega),List.getElem?_eq_getElem _⟩;have htm:=hmem t (List.mem_of_getElem? ht);refine g_a rd3 rfl ht hlt2 ?_;refine New.mk fun w4 n4 f4 s4=>?_;simp only [H_,Nat.zero_add];refine StAll.mk t.cells 0 n4 rfl (x_ t) fun w5 n5 f5 s5=>?_;have n5:Has w5 w3.heap.size t.cells:=n5;have f35:Fr0 w3 w5:=f4.new f5 (Nat.le_refl _);have C5:=hfr _ _ _ _ C3 f35;have rd5:=rd3.fr0 f35;dsimp only [Tr.cells] at n5;refine⟨_,n5.cell.trans rfl,AsI_int.2 ?_⟩
   try simp only [n5.ld_iff,sb_,Nat.reduceAdd]
   refine hy _ _ _ t C5 htm (by rw [List.length_append,List.length_take];omega) _ fun w6 T6 C6 f6 hT6=>?_;simp only [AsB_bool,Bool.not_true,E_];rw [w64 (n:=(i:Int)+1) (by omega) (by omega)];have htk:G.take (i+1)=G.take i++[t]:=by rw [List.take_add_one,ht];rfl
   refine⟨⟨i+1,T6,by omega,rfl,by rw [htk,←List.append_assoc];exact C6,rd5.fr f6 (fun x hx h=>(hon3 x hx).1 h),fun x hx=>⟨fun h=>?_,by have:=(hon3 x hx).2;have:=f35.size;have:=f6.size;omega⟩⟩,(by first|omega|(simp only [Int.toNat_natCast];omega))⟩;rcases hT6 x h with h|h
   ·exact (hon3 x hx).1 h
   ·have:=(hon3 x hx).2;have:=f35.size;omega
  ·obtain rfl:i=G.length:=by omega
   rw [k_i (n:=(g:Int)+1) (by omega) (by omega)];rw [List.take_length,←hspl] at C3;exact⟨⟨g+1,T3,by omega,rfl,C3⟩,(by first|omega|(simp only [Int.toNat_natCast];omega))⟩
 ·obtain rfl:g=256:=by omega
  rw [fil_all hR.blk H0.n1] at C1;exact⟨T,C1⟩
theorem F_c {w:World} {D:Nat} {x:Obj} (h:w.heap[D]?=some x):D<w.heap.size:=by
 rcases Nat.lt_or_ge D w.heap.size with h1|h1
 ·exact h1
 ·rw [Array.getElem?_eq_none h1] at h;cases h
theorem FinM.mk:∀{ms:List Nat} {w:World} {K:World→Prop},ms.Nodup→(∀D∈ms,w.heap[D]?=some (.deferred (some [])))→(∀w',Fr (fun x=>x∈ms) w w'→K w')→FinM ms w K
 | [],w,K,_,_,k=>k w (Fr.refl _ _)
 | D :: r,w,K,hn,hm,k=>by
  obtain⟨n1,n2⟩:=List.nodup_cons.1 hn;refine⟨hm D (by simp),fun w2 f2 s2=>FinM.mk n2 (fun E hE=>?_) fun w3 f3=>k w3 ((f2.mono fun x _ h=>by rw [show x=D from h];simp).trans (f3.mono fun x _ h=>List.mem_cons_of_mem _ h))⟩;have:=hm E (List.mem_cons_of_mem _ hE);rw [f2.block E (F_c this) (fun h=>n1 (by rw [←show E=D from h];exact hE))];exact this
structure Mk (w0 w:World) (ro:Ro) (ms:List Nat):Prop where
 nd:ms.Nodup
 ms:∀D∈ms,w.heap[D]?=some (.deferred (some []))∧ro D=(0,0)∧w0.heap.size≤D
theorem Mk.nil (w0 w:World) (ro:Ro):Mk w0 w ro []:=⟨List.nodup_nil,fun _ h=>absurd h (by simp)⟩
theorem Mk.fr {w0 w w':World} {ro ro':Ro} {ms:List Nat} (h:Mk w0 w ro ms) {T:Nat→Prop} (f:Fr T w w') (hT:∀D,ro D=(0,0)→¬T D) (E:RExt w ro ro'):Mk w0 w' ro' ms :=
 ⟨h.nd,fun D hD=>by
  obtain⟨k1,k2,k3⟩:=h.ms D hD;exact⟨by rw [f.block D (F_c k1) (hT D k2)];exact k1,by rw [E D (F_c k1)];exact k2,k3⟩⟩
theorem Mk.cons {w0 w w':World} {ro ro':Ro} {ms:List Nat} (h:Mk w0 w ro ms) (f:Fr0 w w') (E:RExt w ro ro') {D:Nat} (h1:w'.heap[D]?=some (.deferred (some []))) (h2:ro' D=(0,0)) (h3:w0.heap.size≤D) (h4:w.heap.size≤D):Mk w0 w' ro' (D :: ms):=by
 have h5:=h.fr f (fun _ _ h=>h) E;refine⟨List.nodup_cons.2 ⟨fun hm=>?_,h5.nd⟩,fun x hx=>?_⟩
 ·have:=F_c (h.ms D hm).1;omega
 ·rcases List.mem_cons.1 hx with rfl|hx
  ·exact⟨h1,h2,h3⟩
  ·exact h5.ms x hx
theorem Mk.fin {w0 w:World} {ro:Ro} {ms:List Nat} (h:Mk w0 w ro ms) {K:World→Prop} (f:Fr0 w0 w) (k:∀w',Fr0 w0 w'→K w'):FinM ms w K :=
 FinM.mk h.nd (fun D hD=>(h.ms D hD).1) fun w' f'=>k w' (f.newS f' fun x hx=>(h.ms x hx).2.2)
theorem push_tr {w:World} {B e c:Nat} {p:Option Addr} {l:List Tr} (t:Tr) (he:Has w e [.slice p l.length c]) (hsl:Sl w B 57 8 p l.length c (D_ l)) (hne:¬On p e) (hB:B≤w.heap.size) (hl:l.length≤100000000) {K:World→Prop}
  (k:∀w' p' c',Has w' e [.slice p' (l.length+1) c']→Sl w' B 57 8 p' (l.length+1) c' (D_ (l++[t]))→¬On p' e→Fr (fun x=>x=e∨On p x) w w'→(∀x,On p' x→On p x∨w.heap.size≤x)→K w') :
  RunV prog (Instr.buildSlice 33 1 #[(0,t.v)]) w fun v27 w28=>t_ v27 fun p29 n30 n31=>RunV prog (Builtin.append_ #[33,33] 33 #[.slice p l.length c,.slice p29 n30 n31]) w28 fun v32 w33=>t_ v32 fun p34 n35 n36=>Sh.St w33 ⟨e,0,none⟩ (.slice p34 n35 n36) fun w37=>K w37:=by
 have hel:=he.lt;refine RunV.build1 E57 (by decide) (by rfl) fun w3 n3 f3 s3=>?_;rw [AsSl_slice];refine J_b E57 (hsl.fr0 f3) (by have:=f3.size;omega) (news:=t.cells) (m:=1) (fun j u hu=>by rw [Nat.zero_add];exact n3.cell.trans hu) rfl (x_ t) (by simp only [maxLen];omega) (by omega) fun p4 c4 w4 sl4 f4 hon4=>?_;rw [AsSl_slice];have f04:Fr (fun x=>x=e∨On p x) w w4:=(f3.mono fun _ _ h=>h.elim).trans (f4.mono fun _ _ h=>.inr h);have e4:Has w4 e [.slice p l.length c]:=(he.fr0 f3).fr f4 hne;have hne4:¬On p4 e:=fun h=>by
  rcases hon4 e h with h|h
  ·exact hne h
  ·have:=f3.size;omega
 refine e4.st (by simp) rfl fun w5 n5 f5 s5=>?_;refine k w5 p4 c4 n5 ?_ hne4 (f04.trans (f5.mono fun _ _ h=>.inl h)) (fun x hx=>(hon4 x hx).imp id fun h=>by have:=f3.size;omega);rw [h_a];have:D_ [t]=t.cells:=by simp [D_]
 rw [this];exact sl4.fr f5 fun x hx h=>hne4 (by have:x=e:=h;rw [←this];exact hx)
theorem S0_mo (n k:Nat):MO n (S0 k):=⟨fun x hx=>absurd hx (by simp [S0]),fun x hx=>absurd hx (by simp [S0]),fun y _ h=>absurd h (by simp [S0,q_a])⟩
theorem one_ctx (n a:Nat):∀v∈Q_a n a,v.oneCell'=true:=by
 intro v hv;simp only [Q_a,List.mem_cons,List.not_mem_nil,or_false] at hv;rcases hv with rfl|rfl|rfl|rfl|rfl|rfl|rfl|rfl|rfl|rfl|rfl|rfl<;>rfl
set_option maxHeartbeats 4000000 in
/-- the walk of the tables finds just the blocks -/
theorem f3 {w:World} (hG:Gl w) (c0 c1 c2 c3 c4 c5 c6 c7 c8:Int) (h7:I64 c7) (h8:I64 c8) {q:Option Addr} {m c:Nat} {s:ScrT} (hs:ScrAt w w.heap.size q m s) :
  Ret prog 3 #[worldV c0 c1 c2 c3 c4 c5 c6 c7 c8,.slice q m c] w fun v w'=>v=.bool true∧Fr0 w w':=by
 refine F3_of ?_;unfold F3;try dsimp only [J_,r_f,R_b,B_,S_12,S_8,Uib,a_,Uvi,ce_,lb_,li_,lp_,ls_,ub_,ui_]
 refine New.mk fun w1 n1 f1 s1=>?_
 try simp only [n1.ld_iff,sb_,Nat.reduceAdd]
 have hsz:=hG.gr.size;refine Ret.use (f9 (hG.fr0 f1) c0 c1 c2 c3 c4 c5 c6 c7 c8 h7 h8) ?_;rintro _ w2 ⟨J,ro2,n,d,k,rfl,H2⟩;simp only [sb_,Nat.reduceAdd];refine New.mk fun w3 n3 f3 s3=>?_;refine n3.st (by simp) rfl fun w4 n4 f4 s4=>?_;have n4:Has w4 w2.heap.size [.pointer (some ⟨d,0,none⟩)]:=n4;have f24:Fr0 w2 w4:=f3.new f4 (Nat.le_refl _);have H4:=H2.cut.fr0 f24
 try simp only [n4.ld_iff,sb_,Nat.reduceAdd]
 simp only [Option.isNone_some,E_];refine Ret.use (f10 H4.sys.gl) ?_;rintro _ w5 ⟨rfl,f5⟩;have H5:=H4.fr0 f5;simp only [sb_,Nat.reduceAdd];simp only [Bool.not_true,E_];refine Loop.by (fun st w'=>∃(i:Nat) (ms:List Nat) (ro:Ro) (S:St) (tk:List (Nat×Nat)),i≤m∧st=[mkV ms,.int .i64 (i:Int),.bool false]∧LawAt w1 w' ro J n S d tk∧MO n S∧Has w' w2.heap.size [.pointer (some ⟨d,0,none⟩)]∧ro w2.heap.size=(0,0)∧Mk w1 w' ro ms)
  (fun st _=>match st with | [_,.int _ i,_]=>m-i.toNat|_=>0) ⟨0,[],ro2.cut w2,_,_,by omega,rfl,H5,S0_mo n k,n4.fr0 f5,Ro.cut_eq (Nat.le_refl _),Mk.nil _ _ _⟩ ?_
 rintro _ w6 ⟨i,ms6,ro6,S6,tk6,hi,rfl,H6,M6,a6,r6,k6⟩;refine⟨_,_,rfl,?_⟩;simp only [sb_,Nat.reduceAdd];have hmt:=hs.lt;refine C_ (fun hlt=>?_) (fun hge=>?_);rotate_left
 ·exact k6.fin H6.fr fun w' f'=>⟨by trivial,f1.trans f'⟩
 try simp only [a6.ld_iff,sb_,Nat.reduceAdd]
 obtain⟨x,hx⟩:∃x,s[i]?=some x:=⟨s[i]'(by have:=hs.len;omega),List.getElem?_eq_getElem _⟩;refine op_ld (hs.rd.fr0 (f1.trans H6.fr)) rfl hx hlt ?_;have hO:=(hs.ok x (List.mem_of_getElem? hx)).fr0 f1;have hO:OpIn w1 w1.heap.size x.1 x.2.1 x.2.2:={ hO with lo:=fun hl b hb=>Nat.lt_of_lt_of_le (hO.lo hl b hb) f1.size };refine Ret.use (f11 H6.drew hO) ?_;rintro _ w7 ⟨xx,e,S7,tk7,ro7,rfl,hd,E7,H7,F7⟩;have F7:=F7.of_drew;have M7:=hd.mo H6.n1 H6.inv M6;have hF7:∀D,ro6 D=(0,0)→¬((ro6 D).1≠0∨ro6 D=(0,100)):=fun D h=>by rw [h];simp
 have a7:=a6.fr F7 (hF7 _ r6);have r7:ro7 w2.heap.size=(0,0):=(E7 _ a6.lt).trans r6;have k7:=k6.fr F7 hF7 E7;clear a6 r6 k6 F7 hF7;obtain⟨p7,c7',d7,_,_⟩:=H7.desk.st;simp only [sb_,Nat.reduceAdd]
 try simp only [a7.ld_iff,d7.ld_iff,sb_,Nat.reduceAdd]
 refine Ret.use (f12k H7.sys H7.inv.rl) ?_;rintro _ w8 ⟨q8,c8',rfl,sl8,f8⟩;have hI:=H7.inv;have hkl:=h_f S7.roots;have hrl:=hI.rl;simp only [sb_,Nat.reduceAdd];refine Loop.by (fun st w'=>∃(i2:Nat) (ms:List Nat) (ro:Ro),i2≤S7.roots.length∧st=[mkV ms,.int .i64 (i2:Int),.bool false]∧LawAt w1 w' ro J n S7 d tk7∧Has w' w2.heap.size [.pointer (some ⟨d,0,none⟩)]∧ro w2.heap.size=(0,0)∧Mk w1 w' ro ms∧Rd w' q8 ((a_b S7.roots).map (Value.int .u64)))
  (fun st _=>match st with | [_,.int _ i,_]=>S7.roots.length-i.toNat|_=>0) ⟨0,ms6,ro7,by omega,rfl,H7.fr0 f8,a7.fr0 f8,r7,k7.fr f8 (fun _ _ h=>h) (RExt.refl _ _),sl8.rd⟩ ?_
 clear a7 r7 k7 sl8 f8 H7 d7;rintro _ w9 ⟨i2,ms9,ro9,hi2,rfl,H9,a9,r9,k9,rd9⟩;refine⟨_,_,rfl,?_⟩;simp only [sb_,Nat.reduceAdd];refine C_ (fun hlt2=>?_) (fun hge2=>?_);rotate_left
 ·rw [w64 (n:=(i:Int)+1) (by omega) (by omega)];exact⟨⟨i+1,ms9,ro9,S7,tk7,by omega,rfl,H9,M7,a9,r9,k9⟩,(by first|omega|(simp only [Int.toNat_natCast];omega))⟩
 obtain⟨kx,hkx⟩:∃x,(a_b S7.roots)[i2]?=some x:=⟨(a_b S7.roots)[i2]'(by omega),List.getElem?_eq_getElem _⟩;obtain⟨a,rfl,ham⟩:=y_i (List.mem_of_getElem? hkx);obtain⟨R,hR⟩:=r_j hI.nd ham;have hm:=U_ hR;have hRo:=hI.root _ hm;dsimp only at hRo;have hlen:=(hI.std H9.n1).len _ hm;dsimp only at hlen;have hz01:=H9.fr.size;refine New.mk fun w10 n10 f10 s10=>?_;have d9:=H9.desk.st;obtain⟨p9,c9',d9,_,_⟩:=d9;have a10:=a9.fr0 f10;have d10:=d9.fr0 f10
 try simp only [a10.ld_iff,d10.ld_iff,sb_,Nat.reduceAdd]
 obtain⟨b,o,hp,h0⟩:=rd9 i2 (.int .u64 (a:Int)) (by simp [hkx]);rw [hp];simp only [G_];have kc:∀{W:World},Fr0 w9 W→W.cell? (at0 ⟨b,o,none⟩ ((i2:Int).toNat))=some (.int .u64 (a:Int)):=fun {W} f=>by
  rw [H_,Int.toNat_natCast];exact Rd.cell (rd9.fr0 f) hp (by simp [hkx])
 refine⟨by omega,hlt2,_,kc f10,AsI_int.2 ?_⟩;refine New.mk fun w11 n11 f11 s11=>?_;have f911:Fr0 w9 w11:=f10.trans f11.of_drew;refine⟨kc f911,(d9.fr0 f911).cell.trans rfl,(a9.fr0 f911).cell.trans rfl,?_⟩;simp only [H_,Nat.zero_add];refine StAll.mk (Q_a n a) 0 n11 rfl (one_ctx n a) fun w12 n12 f12 s12=>?_;have n12:Has w12 w10.drew.heap.size (Q_a n a):=n12;have f1112:Fr0 w10.drew w12:=f11.new f12 (Nat.le_refl _);have f912:Fr0 w9 w12:=f10.trans f1112.of_drew;unfold Q_a at n12;refine⟨_,(a9.fr0 f912).cell.trans rfl,AsP_pointer.2 ?_⟩;have d12:=d9.fr0 f912
 try simp only [d12.ld_iff,n12.ld_iff,sb_,Nat.reduceAdd]
 refine Ret.use (f13 J.I.m n a) ?_;rintro _ w13 ⟨rfl,m13,c13,f13',s13⟩;have f913:Fr0 w9 w13:=f912.trans f13'.of_drew;have n13:=(n10.fr0 f1112.of_drew).fr0 f13'.of_drew;have z10:w10.heap.size=w9.heap.size+1:=s10;have z11:w11.heap.size=w10.heap.size+1:=s11;have z12:w12.heap.size=w11.heap.size:=s12;have z13:w13.heap.size=w12.heap.size+2:=s13;have m13:Has w13 w12.heap.size [memV J.I.m]:=m13;have c13:Has w13 (w12.heap.size+1) (Q_a n a):=c13;refine⟨50,_,_,rfl,by kernel_rfl,?_⟩;intro y Lm Rdy Bsy hLm hRd hBs hY w14 g14 s14 hdef hrdy;have f914:Fr0 w9 w14:=f913.trans g14;obtain⟨Con,hCon⟩:∃Con:World→(Nat→Prop)→List Tr→Prop,Con=fun W T l=>(∃p c,Has W w9.heap.size [.slice p l.length c]∧Sl W (Lm+1) 57 8 p l.length c (D_ l)∧T=fun x=>x=w9.heap.size∨x=Lm∨On p x) ∧
   Fr0 w9 W∧Rdy W∧W.heap[w13.heap.size]?=some (.deferred (some []))∧Has W (w12.heap.size+1) (Q_a n a)∧Has W w12.heap.size [memV J.I.m]∧Lm<W.heap.size:=⟨_,rfl⟩
 refine Ret.use (f50c (w0:=w1) (ro:=ro9) (d:=d) (tk:=tk7) (J:=J) M7 hm Con ?_ ?_ ?_ ?_ (T0:=fun x=>x=w9.heap.size∨x=Lm∨On none x) ?_) ?_
 ·rintro W T l hC;rw [hCon] at hC;obtain⟨⟨p,c,k1,k2,rfl⟩,kf,kr,kd,kc,km,kl⟩:=hC;rintro x (rfl|rfl|h)
  ·omega
  ·exact kl
  ·exact (k2.lt x h).2
 ·rintro W W' T l hC f;rw [hCon] at hC ⊢;obtain⟨⟨p,c,k1,k2,hT⟩,kf,kr,kd,kc,km,kl⟩:=hC;exact⟨⟨p,c,k1.fr0 f,k2.fr0 f,hT⟩,kf.trans f,hRd _ _ _ f (fun h=>h) kr,by rw [f.block _ (F_c kd) (fun h=>h)];exact kd,kc.fr0 f,km.fr0 f,Nat.lt_of_lt_of_le kl f.size⟩
 ·rintro W T l hC;rw [hCon] at hC;obtain⟨_,kf,kr,kd,kc,km,kl⟩:=hC;exact⟨H9.fr0 kf,kc,km⟩
 ·rintro W T l t hC htm hll K hK;have hC':=hC;rw [hCon] at hC;obtain⟨⟨p,c,k1,k2,rfl⟩,kf,kr,kd,kc,km,kl⟩:=hC;refine .inr (hY _ _ _ kr ?_);simp only [Tr.v,Tr.cells,UnC_cons,UnN_nil,AsAgg_agg,AsI_int,AsB_bool];refine New.mk fun w15 n15 f15 s15=>?_;simp only [H_,Nat.zero_add];refine StAll.mk t.cells 0 n15 rfl (x_ t) fun w16 n16 f16 s16=>?_;have n16:Has w16 W.heap.size t.cells:=n16;dsimp only [Tr.cells] at n16;have fW16:Fr0 W w16:=f15.new f16 (Nat.le_refl _);refine⟨hRd _ _ _ fW16 (fun h=>h) kr,fun w17 hb17 f17 s17=>?_⟩;have z914:w9.heap.size+5=Lm:=by omega
  have hlm:∀x,On p x→Lm+1≤x∧x<W.heap.size:=fun x hx=>k2.lt x hx;have n17:=n16.fr f17 (show ¬(W.heap.size=Lm) by omega);have f917:Fr0 w9 w17:=(kf.trans fW16).newS f17 fun x h=>by rw [show x=Lm from h];omega
  have a17:=a9.fr0 f917;have e17:=(k1.fr0 fW16).fr f17 (show ¬(w9.heap.size=Lm) by omega);have sl17:=(k2.fr0 fW16).fr f17 fun x hx h=>by have:=hlm x hx;have h:x=Lm:=h;omega
  have zW:=fW16.size;have z17:=f17.size
  try simp only [n17.ld_iff,a17.ld_iff,sb_,Nat.reduceAdd]
  refine R_ (f14 (H9.fr0 f917).drew) ?_;simp only [sb_,Nat.reduceAdd];have htl:=(hRo.blk.good t htm).lt H9.n1;have h32:2^(32-n)≤2^32:=Nat.pow_le_pow_right (by decide) (by omega);refine⟨n17.cell.trans rfl,?_⟩;rw [b_a (n:=(t.va:Int)) (by omega) (by omega)];refine C_ (fun _=>?_) (fun h=>absurd (show ((t.va:Nat):Int)<_ by omega) h)
  try simp only [e17.ld_iff,n17.ld_iff,sb_,Nat.reduceAdd]
  refine push_tr t (e17.fr0 (Fr.refl _ _).drew) (sl17.fr0 (Fr.refl _ _).drew) (fun h=>by have:=hlm _ h;omega) (by show Lm+1≤w17.heap.size;omega) (by omega) fun w18 p18 c18 e18 sl18 hne18 f18 hon18=>?_;have f18:=f18.of_drew;refine⟨hBs _ _ _ f18 (fun h=>h.elim (fun h=>by omega) fun h=>by have:=hlm _ h;omega) hb17,fun w19 hr19 f19 s19=>?_⟩;have hlm18:∀x,On p18 x→Lm+1≤x:=fun x hx=>(sl18.lt x hx).1;have z18:=f18.size;have z19:=f19.size;have fW19:Fr (fun x=>x=w9.heap.size∨x=Lm∨On p x) W w19:=(((fW16.mono fun _ _ h=>h.elim).trans (f17.mono fun x _ h=>.inr (.inl h))).trans (f18.mono fun x _ h=>h.elim .inl fun h=>.inr (.inr h))).trans (f19.mono fun x _ h=>.inr (.inl h));refine hK w19 (fun x=>x=w9.heap.size∨x=Lm∨On p18 x) ?_ fW19 ?_
  ·rw [hCon];refine⟨⟨p18,c18,?_,?_,rfl⟩,kf.newS fW19 ?_,hr19,?_,kc.fr fW19 ?_,km.fr fW19 ?_,by omega⟩
   ·rw [List.length_append];exact e18.fr f19 (show ¬(w9.heap.size=Lm) by omega)
   ·rw [List.length_append];exact sl18.fr f19 fun x hx h=>by have:=hlm18 x hx;have h:x=Lm:=h;omega
   ·rintro x (h|h|h)
    ·omega
    ·omega
    ·have:=hlm x h;omega
   ·rw [fW19.block _ (F_c kd) ?_]
    ·exact kd
    ·rintro (h|h|h)
     ·omega
     ·omega
     ·have:=hlm _ h;omega
   ·rintro (h|h|h)
    ·omega
    ·omega
    ·have:=hlm _ h;omega
   ·rintro (h|h|h)
    ·omega
    ·omega
    ·have:=hlm _ h;omega
  ·rintro x (h|h|h)
   ·exact .inl (.inl h)
   ·exact .inl (.inr (.inl h))
   ·rcases hon18 x h with h|h
    ·exact .inl (.inr (.inr h))
    ·exact .inr (by have h:w17.heap.size≤x:=h;omega)
 ·rw [hCon];exact⟨⟨none,0,n13.fr0 g14,Sl.nil _ _ _ _,rfl⟩,f914,hrdy,hdef,c13.fr0 g14,m13.fr0 g14,by omega⟩
 rintro _ w15 ⟨T,hC⟩;rw [hCon] at hC;obtain⟨⟨p,c,k1,k2,-⟩,kf,kr,kd,-,-,kl⟩:=hC;refine⟨kr,fun w16 f16 s16=>?_⟩;have f916:Fr0 w9 w16:=kf.newS f16 fun x h=>by rw [show x=Lm from h];omega
 have e16:=k1.fr f16 (show ¬(w9.heap.size=Lm) by omega);have sl16:=k2.fr f16 fun x hx h=>by have:=(k2.lt x hx).1;have h:x=Lm:=h;omega
 have d16:=d9.fr0 f916;have a16:=a9.fr0 f916;show Ld _ _ _
 try simp only [e16.ld_iff,a16.ld_iff,d16.ld_iff,sb_,Nat.reduceAdd]
 have kc':=kc f916;rw [H_] at kc';refine⟨by omega,hlt2,_,kc',AsI_int.2 ?_⟩;refine Ret.use ((H9.fr0 f916).drew.blocks a hR) ?_;rintro _ w17 ⟨p17,c17,rfl,sl17,f17⟩;have f17:=f17.of_drew;simp only [sb_,Nat.reduceAdd];refine⟨(e16.fr0 f17).cell.trans rfl,?_⟩;refine Ret.use (f15 (sl16.rd.fr0 f17) sl17.rd (by omega)) ?_;rintro _ w18 ⟨rfl,f18⟩;have f918:Fr0 w9 w18:=(f916.trans f17).trans f18;simp only [AsB_bool,Bool.not_true,E_];rw [w64 (n:=(i2:Int)+1) (by omega) (by omega)];have z914:w9.heap.size+4=w13.heap.size:=by omega
 refine⟨⟨i2+1,w13.heap.size :: ms9,ro9.cut w9,by omega,rfl,H9.cut.fr0 f918,a9.fr0 f918,(RExt.cut _ a9.lt).trans r9,k9.cons f918 RExt.cut ?_ (Ro.cut_eq (by omega)) (by omega) (by omega),?_⟩,(by first|omega|(simp only [Int.toNat_natCast];omega))⟩
 ·rw [(f17.trans f18).block _ (by have:=F_c kd;have:=f16.size;omega) (fun h=>h),f16.block _ (F_c kd) (by omega)];exact kd
 ·rw [←hp];exact rd9.fr0 f918
end Go.Proofs.YtmgjicnipgdjhaaGreatDoor
namespace Go.Sh
open Go.ChangeShapes Go.WideShapes Go.ChangeAt Go.WideElems Go.RowKit
section
variable {H:Type} {enc:TypeId×Value→H} {P:Program}
theorem Fr0.below {w w':World} (h:Fr0 w w'):Below w.heap.size w w':=⟨h.os,h.tape,h.output,h.size,fun b hb=>h.block b hb fun h=>h⟩
theorem A_d (hl:laidOutB P=true) {W W':World} (hb:Below W.heap.size W W'):∀{ts:List TypeId} {vs:List Value} {ds:List (DataW H)} {ps:List MemPlace},(∀t∈ts,P.readableRec t=true∧t<P.types.size) →
  DataW.TrodAll enc P W 0 (fun _=>true) true ts vs ds ps→(∀x∈ps,x.block<W.heap.size)→DataW.TrodAll enc P W' 0 (fun b=>decide (b<W.heap.size)) true ts vs ds ps
 | [],vs,ds,ps,_,h,_=>by
  obtain⟨rfl,rfl,rfl⟩:=trodAll_nil h;exact trodAll_mk0
 | t :: ts,vs,ds,ps,hr,h,hlt=>by
  obtain⟨v0,vs0,d0,ds0,p0,q0,rfl,rfl,rfl,h0,r0⟩:=trodAll_cons h;refine trodAll_cons_mk (Below.trod hl (hr t (by simp)).1 (hr t (by simp)).2 h0 hb fun x hx=>hlt x (by simp [hx])) ?_;exact A_d hl hb (fun t ht=>hr t (by simp [ht])) r0 fun x hx=>hlt x (by simp [hx])
theorem post_law {s:ChangeSpec} {f:Func} {W W':World} {args:Array Value} {ds:List (DataW H)} {before:List MemPlace} {t:TypeId} (hv:s.vars=[]) (hfn:s.fn H ds={ results:=[.lit (.bool true)],args:=ds }) (hrt:f.resultTypes=#[t]) (ht:P.underlying t=some .bool)
  (hl:laidOutB P=true) (hr:∀t∈f.params.toList,P.readableRec t=true∧t<P.types.size) (hW:DataW.Whole enc P f.params.toList s.vars false W args.toList ds [] before) (hf:Fr0 W W') :
  s.post enc P f false true false false W args (.bool true) W':=by
 have hlt:=hW.lt;have hW2:=hW;obtain⟨p,q,hA,hV,rfl,_,_⟩:=hW2;rw [hv] at hV;obtain⟨_,rfl⟩:=trodVars_none hV;have hds:s.fn H (ds++[])={ results:=[.lit (.bool true)],args:=ds }:=by rw [List.append_nil];exact hfn
 refine⟨ds,[],p++[],[],p,[],hW,?_,?_,?_,World.keptBut_mono (fun x hx=>hx.elim) (hf.below.frame fun _=>False),fun h=>by cases h⟩
 ·rw [hds,hrt];exact trodAll_mk1 (shut_bool ht _)
 ·rw [hds];exact A_d hl hf.below hr hA fun x hx=>hlt x (by simp [hx])
 ·rw [hds,hv];rfl
end
end Go.Sh
