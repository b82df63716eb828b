import Derived.Test.YtmgjicnipgdjhaaGreatDoorP11
set_option linter.unusedVariables false
set_option linter.unusedSimpArgs false
set_option maxRecDepth 100000
namespace Go.Proofs.YtmgjicnipgdjhaaGreatDoor
open Go Go.Sh Go.Fr
open Go.ChangeShapes Go.WideShapes Go.ChangeAt Go.WideElems Go.RowKit
section
variable {H:Type} {enc:TypeId×Value→H}
theorem m_c {p q:List (DataW H)} {d:DataW H} {x:DataW H} (h1:x=.agg p) (h2:x=.agg q) {i:Nat} (h:p[i]?=some d):q[i]?=some d:=by
 rw [h1] at h2;injection h2 with h2
 rw [←h2];exact h
theorem op_open {W:World} {fuel:Nat} {cs:List Value} {x:DataW H×List MemPlace} (h:DataW.trod enc prog W 0 (fun _=>true) true fuel 42 cs=some x) (hsm:Small 42 x.1) :
  ∃y:Op17×List Tr×List Nat,OpIn W W.heap.size y.1 y.2.1 y.2.2∧∀j v,j<17→y.1.cells[j]?=some v→cs[j]?=some v:=by
 obtain⟨z0,e0,w0,_⟩:=p_ P_e h (i:=0) (u:=3) (o:=0) (by kernel_rfl) Q_e;obtain⟨z1,e1,w1,_⟩:=p_ P_e h (i:=1) (u:=3) (o:=1) (by kernel_rfl) Q_e;obtain⟨z2,e2,w2,_⟩:=p_ P_e h (i:=2) (u:=3) (o:=2) (by kernel_rfl) Q_e;obtain⟨n3,y3,p3,s3,x3,q3⟩:=D_e P_e h (i:=3) (u:=33) (o:=3) (m:=1) (by kernel_rfl) cells33;obtain⟨n4,y4,p4,s4,x4,q4⟩:=D_e P_e h (i:=4) (u:=34) (o:=4) (m:=1) (by kernel_rfl) cells34;obtain⟨n5,y5,p5,s5,x5,q5⟩:=D_e P_e h (i:=5) (u:=37) (o:=5) (m:=4) (by kernel_rfl) s_k;obtain⟨n9,y9,p9,s9,x9,q9⟩:=D_e P_e h (i:=6) (u:=38) (o:=9) (m:=1) (by kernel_rfl) cells38;obtain⟨n10,y10,p10,s10,x10,q10⟩:=D_e P_e h (i:=7) (u:=40) (o:=10) (m:=5) (by kernel_rfl) cells40;obtain⟨z15,e15,w15,_⟩:=p_ P_e h (i:=8) (u:=3) (o:=15) (by kernel_rfl) Q_e;obtain⟨z16,e16,w16,_⟩:=p_ P_e h (i:=9) (u:=3) (o:=16) (by kernel_rfl) Q_e;have sm3:Small 33 y3.1:=by rw [x3] at hsm;exact F_e P_e hsm (i:=3) (by kernel_rfl) q3
 have sm4:Small 34 y4.1:=by rw [x4] at hsm;exact F_e P_e hsm (i:=4) (by kernel_rfl) q4
 obtain⟨lq,ln,lc,l,l1,l2,l3,l4,l5,l6,l7,_⟩:=R_k s3 sm3;obtain⟨vq,vn,vc,vas,v1,v2,v3,v4,v5⟩:=vas_open s4 sm4;obtain⟨a5,f5,g5,_⟩:=p_ c_g s5 (i:=0) (u:=3) (o:=0) (by kernel_rfl) Q_e;obtain⟨a6,f6,g6,_⟩:=p_ c_g s5 (i:=1) (u:=35) (o:=1) (by kernel_rfl) d_g;obtain⟨a7,f7⟩:=s_d c_g s5 (i:=2) (u:=4) (o:=2) (by kernel_rfl) und4;obtain⟨a8,f8⟩:=s_d c_g s5 (i:=3) (u:=4) (o:=3) (by kernel_rfl) und4;obtain⟨m6,rfl,k6⟩:=wf32 g6;obtain⟨nq,nn,nc,hn9⟩:∃q n c,(cs.drop 9).take 1=[.slice q n c]:=by
  rcases DataW.trod_slice und38 s9 with ⟨h,_⟩|⟨a,len,cap,_,_,_,_,h,_⟩
  ·exact⟨none,0,0,h⟩
  ·exact⟨some a,len,cap,h⟩
 obtain⟨b0,c0,_⟩:=p_ b_j s10 (i:=0) (u:=3) (o:=0) (by kernel_rfl) Q_e;obtain⟨b1,c1,_⟩:=p_ b_j s10 (i:=1) (u:=35) (o:=1) (by kernel_rfl) d_g;obtain⟨b2,c2,_⟩:=p_ b_j s10 (i:=2) (u:=3) (o:=2) (by kernel_rfl) Q_e;obtain⟨b3,c3,_⟩:=p_ b_j s10 (i:=3) (u:=35) (o:=3) (by kernel_rfl) d_g;obtain⟨b4,c4⟩:=s_d b_j s10 (i:=4) (u:=4) (o:=4) (by kernel_rfl) und4;refine⟨⟨⟨z0,z1,z2,lq,ln,lc,vq,vn,vc,a5,m6,a7,a8,nq,nn,nc,b0,b1,b2,b3,b4,z15,z16⟩,l,vas⟩,
  ⟨wf64 w0,wf64 w1,wf64 w2,wf64 g5,wf64 w15,wf64 w16,k6,l2,l3,l4,Nat.le_trans l7 (by decide),l5,l6,v2,v3,Nat.le_trans v5 (by decide),v4⟩,fun j v hj hv=>?_⟩
 rcases j with _|_|_|_|_|_|_|_|_|_|_|_|_|_|_|_|_|j
 ·rw [←hv];exact e0
 ·rw [←hv];exact e1
 ·rw [←hv];exact e2
 ·rw [←hv];exact L_ (off:=3) (m:=1) (j:=0) l1 rfl
 ·rw [←hv];exact L_ (off:=4) (m:=1) (j:=0) v1 rfl
 ·rw [←hv];exact L_ (off:=5) (m:=4) (j:=0) rfl f5
 ·rw [←hv];exact L_ (off:=5) (m:=4) (j:=1) rfl f6
 ·rw [←hv];exact L_ (off:=5) (m:=4) (j:=2) rfl f7
 ·rw [←hv];exact L_ (off:=5) (m:=4) (j:=3) rfl f8
 ·rw [←hv];exact L_ (off:=9) (m:=1) (j:=0) hn9 rfl
 ·rw [←hv];exact L_ (off:=10) (m:=5) (j:=0) rfl c0
 ·rw [←hv];exact L_ (off:=10) (m:=5) (j:=1) rfl c1
 ·rw [←hv];exact L_ (off:=10) (m:=5) (j:=2) rfl c2
 ·rw [←hv];exact L_ (off:=10) (m:=5) (j:=3) rfl c3
 ·rw [←hv];exact L_ (off:=10) (m:=5) (j:=4) rfl c4
 ·rw [←hv];exact e15
 ·rw [←hv];exact e16
 ·omega
instance:Inhabited (Op17×List Tr×List Nat):=⟨⟨op13,[],[]⟩⟩
theorem open_script {W:World} {base:Nat} {v:Value} {d:DataW H} {ps:List MemPlace} (hv:Value.okWide prog W .any base 26 v) (h:DataW.Trod enc prog W 0 (fun _=>true) true 26 v d ps) (hsm:Small 26 d) :
  ∃q n c s,v=.slice q n c∧ScrAt W W.heap.size q n s:=by
 obtain⟨q,n,c,rfl⟩:∃q n c,v=.slice q n c:=okWide_slice und26 hv;obtain⟨fuel,hf⟩:=h;rcases Deep.open_slice und26 hf with ⟨h0,_⟩|⟨a,len,cap,m,nn,D,Pl,hcs,_,hlc,hcm,hm,hx,hel⟩
 ·simp only [Value.cells,List.cons.injEq,and_true] at h0;injection h0 with h1 h2 h3
  subst h1 h2 h3;exact⟨none,0,0,[],rfl,Rd.nil _ _,rfl,by simp,by omega⟩
 ·simp only [Value.cells,List.cons.injEq,and_true] at hcs;injection hcs with h1 h2 h3
  subst h1 h2 h3;injection hx with hx1 hx2
  subst hx1;have hm':n≤m:=by rw [hm];split<;>omega
  rw [cells42] at hel;have hss:=j_c und26 (b:=160) (by kernel_rfl) hsm;have each:∀i,i<n→∃y:Op17×List Tr×List Nat,OpIn W W.heap.size y.1 y.2.1 y.2.2∧∀j v,j<17→y.1.cells[j]?=some v→W.cell? ((a.add (i*17)).add j)=some v:=by
   intro i hi;obtain⟨cs',hc,ht⟩:=hel i (by omega);obtain⟨_,_,hget⟩:=World.cells?_some hc;obtain⟨y,hy1,hy2⟩:=op_open ht (hss.2 (D i) (List.mem_map.2 ⟨i,List.mem_range.2 hi,rfl⟩));exact⟨y,hy1,fun j v hj hv=>by rw [hget j hj];exact hy2 j v hj hv⟩
  obtain⟨O,hO⟩:=Deep.choose_lt (α:=Op17×List Tr×List Nat) (p:=fun i y=>OpIn W W.heap.size y.1 y.2.1 y.2.2∧∀j v,j<17→y.1.cells[j]?=some v→W.cell? ((a.add (i*17)).add j)=some v) each;obtain⟨k1,k2⟩:=c_h op_len (by decide) (fun i hi=>(hO i hi).2);refine⟨some a,n,c,(List.range n).map O,rfl,k1,by simp,fun x hx=>?_,?_⟩
  ·obtain⟨i,hi,rfl⟩:=List.mem_map.1 hx;exact (hO i (List.mem_range.1 hi)).1
  ·have:=hss.1;simp only [List.length_map,List.length_range] at this;unfold reachBytes at this;omega
end
theorem gRules : prog.globalNamed "atlas/cp15.rules" = some 0 := by kernel_rfl
theorem gKinds : prog.globalNamed "atlas/desc.kinds" = some 1 := by kernel_rfl
theorem gShifts : prog.globalNamed "atlas/desc.shifts" = some 2 := by kernel_rfl
theorem gTab : prog.globalNamed "math/bits.deBruijn64tab" = some 3 := by kernel_rfl
theorem gAttr : prog.globalNamed "atlas/attr.plain" = some 6 := by kernel_rfl
theorem tRules:(prog.globals[0]?).map (·.type)=some 291:=by kernel_rfl
theorem tKinds:(prog.globals[1]?).map (·.type)=some 303:=by kernel_rfl
theorem tShifts:(prog.globals[2]?).map (·.type)=some 305:=by kernel_rfl
theorem tTab:(prog.globals[3]?).map (·.type)=some 351:=by kernel_rfl
theorem tAttr:(prog.globals[6]?).map (·.type)=some 418:=by kernel_rfl
theorem und291:prog.underlying 291=some (.array 13 290):=by kernel_rfl
theorem und303:prog.underlying 303=some (.array 5 3):=by kernel_rfl
theorem und305:prog.underlying 305=some (.array 5 76):=by kernel_rfl
theorem und351:prog.underlying 351=some (.array 64 5):=by kernel_rfl
theorem und418:prog.underlying 418=some (.array 16 417):=by kernel_rfl
theorem und417:prog.underlying 417=some (.struct (prog.fieldsOf 417)):=by kernel_rfl
theorem cells3:prog.cellsOf 3=1:=by kernel_rfl
theorem cells5:prog.cellsOf 5=1:=by kernel_rfl
theorem cells76:prog.cellsOf 76=1:=by kernel_rfl
theorem cells290:prog.cellsOf 290=6:=by kernel_rfl
theorem cells188:prog.cellsOf 188=4:=by kernel_rfl
theorem cells417:prog.cellsOf 417=5:=by kernel_rfl
theorem g_h {W:World} {fuel:Nat} {t e N:Nat} {k:IntKind} {cs:List Value} {x:DataW Unit×List MemPlace} {zs:List Int} {enc:TypeId×Value→Unit} {sp:Nat→Bool} {held:Bool} (ht:prog.underlying t=some (.array N e)) (he:prog.underlying e=some (.int k)) (hc:prog.cellsOf e=1)
  (h:DataW.trod enc prog W 0 sp held fuel t cs=some x) (hx:x.1=.agg (zs.map fun z=>.lit (.int k z))) (hl:zs.length=N):∀(i:Nat) (z:Int),zs[i]?=some z→cs[i]?=some (Value.int k z):=by
 intro i z hz;obtain⟨xs,m1,rfl,rfl,hlen,hn,hel⟩:=DataW.trod_array ht h;rw [hc] at hel;have hi:i<N:=by have:=(List.getElem?_eq_some_iff.1 hz).1;omega
 have h1:=hel i hi;obtain⟨y,hy⟩:∃y,xs[i]?=some y:=⟨_,List.getElem?_eq_getElem (by omega)⟩;rw [hy] at h1;obtain⟨n,e1,e2,_⟩:=DataW.trod_int he h1;have hx:xs.map (·.1)=zs.map fun z=>(.lit (.int k z):DataW Unit):=DataW.agg.inj hx;have h3:(xs.map (·.1))[i]?=some y.1:=by rw [List.getElem?_map,hy];rfl
 rw [hx,List.getElem?_map,hz,e2] at h3;simp only [Option.map_some,Option.some.injEq] at h3;injection h3 with h3
 injection h3 with _ h3
 subst h3;have:=L_ (j:=0) e1 rfl
 rwa [Nat.mul_one,Nat.add_zero] at this
def ruleD (r:Int×Int×Int×Int×Int×Int):DataW Unit:=.agg [.agg [.lit (.int .i64 r.1),.lit (.int .i64 r.2.1),.lit (.int .i64 r.2.2.1),.lit (.int .i64 r.2.2.2.1)],.lit (.int .u32 r.2.2.2.2.1),.lit (.int .u32 r.2.2.2.2.2)]
theorem rules_laid:(Rows.laid_atlas_cp15_rules:DataW Unit)=.agg (rulesL.map ruleD):=rfl
theorem m_d {k:IntKind} {z y:Int} (h:(some (.lit (.int k z)):Option (DataW Unit))=some (.lit (.int k y))):z=y:=by
 injection h with h
 injection h with h
 injection h
theorem o_j {W:World} {enc:TypeId×Value→Unit} {base:Nat} {sp:Nat→Bool} {held:Bool} {fuel:Nat} {cs:List Value} {x:DataW Unit×List MemPlace} {r:Int×Int×Int×Int×Int×Int} (h:DataW.trod enc prog W base sp held fuel 290 cs=some x) (hx:x.1=ruleD r) :
  ∀j v,j<6→(d_ r)[j]?=some v→cs[j]?=some v:=by
 obtain⟨n,y,p,s,x1,q1⟩:=D_e c_j h (i:=0) (u:=188) (o:=0) (m:=4) (by kernel_rfl) cells188;obtain⟨z4,e4,_,p4,x4,q4⟩:=p_ c_j h (i:=1) (u:=35) (o:=4) (by kernel_rfl) d_g;obtain⟨z5,e5,_,p5,x5,q5⟩:=p_ c_j h (i:=2) (u:=35) (o:=5) (by kernel_rfl) d_g;have hy:y.1=.agg [.lit (.int .i64 r.1),.lit (.int .i64 r.2.1),.lit (.int .i64 r.2.2.1),.lit (.int .i64 r.2.2.2.1)]:=(Option.some.inj (m_c x1 hx q1)).symm;have h4:=m_d (m_c x4 hx q4).symm;have h5:=m_d (m_c x5 hx q5).symm;obtain⟨y0,f0,_,r0,w0,v0⟩:=p_ u_h s (i:=0) (u:=3) (o:=0) (by kernel_rfl) Q_e;obtain⟨y1,f1,_,r1,w1,v1⟩:=p_ u_h s (i:=1) (u:=3) (o:=1) (by kernel_rfl) Q_e;obtain⟨y2,f2,_,r2,w2,v2⟩:=p_ u_h s (i:=2) (u:=3) (o:=2) (by kernel_rfl) Q_e;obtain⟨y3,f3,_,r3,w3,v3⟩:=p_ u_h s (i:=3) (u:=3) (o:=3) (by kernel_rfl) Q_e;have g0:=m_d (m_c w0 hy v0).symm;have g1:=m_d (m_c w1 hy v1).symm;have g2:=m_d (m_c w2 hy v2).symm;have g3:=m_d (m_c w3 hy v3).symm;subst g0 g1 g2 g3 h4 h5;have g:∀{j:Nat} {v:Value},((cs.drop 0).take 4)[j]?=some v→cs[j]?=some v:=fun hj=>by
  have:=L_ rfl hj
  rwa [Nat.zero_add] at this
 intro j v hj hv;rcases j with _|_|_|_|_|_|j
 ·rw [←hv];exact g f0
 ·rw [←hv];exact g f1
 ·rw [←hv];exact g f2
 ·rw [←hv];exact g f3
 ·rw [←hv];exact e4
 ·rw [←hv];exact e5
 ·omega
theorem gl_of {W:World} (h:laidMetH prog Rows.tablesBackRow.laid W):Gl W:=by
 rw [MakeChecks.laidMetH_plain _ _ _ (by kernel_rfl)] at h;obtain⟨ps,h,_,_⟩:=h;obtain⟨ga,ta,ca,fa,pa,qa,hga,hta,hva,hda,h,_⟩:=h;obtain⟨gb,tb,cb,fb,pb,qb,hgb,htb,hvb,hdb,h,_⟩:=h;obtain⟨gc,tc,cc,fc,pc,qc,hgc,htc,hvc,hdc,h,_⟩:=h;obtain⟨gd,td,cd,fd,pd,qd,hgd,htd,hvd,hdd,h,_⟩:=h;obtain⟨_,_,_,_,_,_,_,_,_,_,h,_⟩:=h;obtain⟨_,_,_,_,_,_,_,_,_,_,h,_⟩:=h;obtain⟨ge,te,ce,fe,pe,qe,hge,hte,hve,hde,h,_⟩:=h;obtain rfl:=Option.some.inj (gTab.symm.trans hga);obtain rfl:=Option.some.inj (tTab.symm.trans hta);obtain rfl:=Option.some.inj (gRules.symm.trans hgb);obtain rfl:=Option.some.inj (tRules.symm.trans htb);obtain rfl:=Option.some.inj (gShifts.symm.trans hgc);obtain rfl:=Option.some.inj (tShifts.symm.trans htc);obtain rfl:=Option.some.inj (gKinds.symm.trans hgd);obtain rfl:=Option.some.inj (tKinds.symm.trans htd);obtain rfl:=Option.some.inj (gAttr.symm.trans hge);obtain rfl:=Option.some.inj (tAttr.symm.trans hte);have hsz:6<W.heap.size:=by
  obtain⟨xs,m1,_,_,hlen,hn,hel⟩:=DataW.trod_array und418 hde;have h1:=hel 0 (by decide);obtain⟨y,hy⟩:∃y,xs[0]?=some y:=⟨_,List.getElem?_eq_getElem (by omega)⟩;rw [hy,cells417] at h1;obtain⟨z,hz⟩:=s_d und417 h1 (i:=0) (u:=4) (o:=0) (by kernel_rfl) und4;have h2:=L_ rfl hz;have h3:=World.var?_cell hge hve 0;rw [←Array.getElem?_toList,show ce.toList[0]?=some (.bool z) from by simpa using h2] at h3;exact p_h h3
 refine⟨⟨hsz,fun i v hi=>?_⟩,⟨hsz,fun i hi=>?_,fun i hi=>?_⟩,⟨by omega,fun k hk=>?_⟩⟩
 ·obtain⟨xs,m1,_,hxx,hlen,hn,hel⟩:=DataW.trod_array und291 hdb;rw [cells290] at hel;have hlt:i<rulesL.length*6:=by
   have:=(List.getElem?_eq_some_iff.1 hi).1;unfold rulesCells at this
   rwa [k_b (g:=d_) (size:=6) (fun _=>rfl)] at this
  have h13:rulesL.length=13:=rfl;obtain⟨r,hr⟩:∃r,rulesL[i/6]?=some r:=⟨rulesL[i/6]'(by omega),List.getElem?_eq_getElem _⟩;have h1:=hel (i/6) (by omega);obtain⟨y,hy⟩:∃y,xs[i/6]?=some y:=⟨_,List.getElem?_eq_getElem (by omega)⟩;rw [hy] at h1;have hm:xs.map (·.1)=rulesL.map ruleD:=(DataW.agg.inj (rules_laid.symm.trans (congrArg Prod.fst hxx))).symm;have hyr:y.1=ruleD r:=by
   have h3:(xs.map (·.1))[i/6]?=some y.1:=by rw [List.getElem?_map,hy];rfl
   rw [hm,List.getElem?_map,hr] at h3;exact (Option.some.inj h3).symm
  have e:i=i/6*6+i%6:=by omega
  have hv:(d_ r)[i%6]?=some v:=by
   have:=l_b (g:=d_) (size:=6) (fun _=>rfl) rulesL (i/6) (i%6) (by omega) r hr;rw [←this,←e];exact hi
  have h2:=L_ rfl (o_j h1 hyr (i%6) v (by omega) hv);rw [←e] at h2;rw [World.var?_cell hgb hvb i,←Array.getElem?_toList,h2]
 ·have h1:=g_h (zs:=shs.map fun n=>((n:Nat):Int)) und305 und76 cells76 hdc rfl rfl i ((shs.getD i 0:Nat):Int) (by
   rcases (by omega:i=0∨i=1∨i=2∨i=3∨i=4) with rfl|rfl|rfl|rfl|rfl<;>rfl)
  rw [World.var?_cell hgc hvc i,←Array.getElem?_toList,h1]
 ·have h1:=g_h (zs:=knd) und303 Q_e cells3 hdd rfl rfl i (knd.getD i 0) (by
   rcases (by omega:i=0∨i=1∨i=2∨i=3∨i=4) with rfl|rfl|rfl|rfl|rfl<;>rfl)
  rw [World.var?_cell hgd hvd i,←Array.getElem?_toList,h1]
 ·have h64:Lib.deBruijn64tab.length=64:=rfl;have h1:=g_h (zs:=Lib.deBruijn64tab.map fun n=>((n:Nat):Int)) und351 und5 cells5 hda rfl rfl k ((Lib.deBruijn64tab.getD k 0:Nat):Int) (by
   rw [List.getElem?_map,List.getD_eq_getElem?_getD,List.getElem?_eq_getElem (by omega)];rfl)
  rw [World.var?_cell hga hva k,←Array.getElem?_toList,h1]
end Go.Proofs.YtmgjicnipgdjhaaGreatDoor
