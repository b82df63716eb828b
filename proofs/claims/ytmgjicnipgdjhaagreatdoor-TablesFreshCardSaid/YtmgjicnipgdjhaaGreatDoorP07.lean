import Derived.Test.YtmgjicnipgdjhaaGreatDoorP06
import Derived.ProofKit
import Derived.LaidMore
import Derived.OpenShut
import Derived.Carry
import Derived.Stop.Joined
import Derived.SevenTiedAt
set_option linter.unusedVariables false
set_option linter.unusedSimpArgs false
set_option maxRecDepth 10000
namespace Go.Proofs.YtmgjicnipgdjhaaGreatDoor
open Go Go.Sh Go.Fr Go.Sort
variable {z:Bool}
theorem f217 {w:World} {B n c:Nat} {p:Option Addr} {d:Array Int} (h:ArU z w B p n c d) (a b:Nat) (hab:a<b) (hb:b≤n) (hn:n≤1000000000000) :
  Ret prog (nz z 217 241) #[.slice p n c,.int .i64 (a:Int),.int .i64 (b:Int)] w fun v w'=>v=.bool (partialInsertionSort ltInt d a b).2∧ArU z w' B p n c (partialInsertionSort ltInt d a b).1∧Fr (On p) w w':=by
 refine F217z_of z _ _ _ _ _ _ _ ?_
 unfold F217z;try dsimp only [Uib,Uiib,ub_,ui_]
 have e1:IntKind.i64.wrap ((a:Int)+1)=((a+1:Nat):Int):=by rw [w64 (by omega) (by omega)];omega
 have eba:IntKind.i64.wrap ((b:Int)-(a:Int))=((b-a:Nat):Int):=by rw [w64 (by omega) (by omega)];omega
 rw [e1]
 refine Loop.by (fun s w'=>∃(k i:Nat) (e:Array Int) (x:Bool),k≤5∧a+1≤i∧i≤b∧s=[.int .i64 ((5-k:Nat):Int),.int .i64 (i:Int),.bool x]∧ArU z w' B p n c e∧Fr (On p) w w'∧partialIns ltInt a b k i e=partialInsertionSort ltInt d a b) (fun s _=>match s with | [.int _ i,_,_]=>5-i.toNat|_=>0)
  ⟨5,a+1,d,false,by omega,by omega,by omega,rfl,h,Fr.refl _ _,rfl⟩ ?_
 rintro _ w1 ⟨k,i,e,x,hk,hi1,hi2,rfl,h1,f1,hres⟩
 simp only [UnC_cons,UnN_nil,AsI_int,AsB_bool]
 refine BIf_cases (fun hlt=>?_) (fun hge=>?_)
 ·obtain⟨m,rfl⟩:∃m,k=m+1:=⟨k-1,by omega⟩
  rw [partialIns] at hres
  refine Join.at (fun s w'=>∃(i':Nat) (e':Array Int) (y:Bool),s=[.int .i64 (i':Int),.bool y]∧a+1≤i'∧i'≤b∧ArU z w' B p n c e'∧Fr (On p) w w'∧partialIns ltInt a b m i' e'=partialInsertionSort ltInt d a b) ?_ ?_
  ·refine Join.at (fun s w'=>∃i2:Nat,s=[.int .i64 (i2:Int)]∧i2=scanSorted ltInt e b i∧a+1≤i2∧i2≤b∧ArU z w' B p n c e∧Fr (On p) w w') ?_ ?_
   ·refine Loop.by (fun s w'=>∃i2:Nat,s=[.int .i64 (i2:Int)]∧scanSorted ltInt e b i2=scanSorted ltInt e b i∧a+1≤i2∧i2≤b∧ArU z w' B p n c e∧Fr (On p) w w') (fun s _=>match s with | [.int _ i]=>b-i.toNat|_=>0)
     ⟨i,rfl,rfl,hi1,hi2,h1,f1⟩ ?_
    rintro _ w2 ⟨i2,rfl,hs,q1,q2,h2,f2⟩
    simp only [UnC_cons,UnN_nil,AsI_int]
    rw [scanSorted] at hs
    refine BIf_cases (fun hl2=>?_) (fun hg2=>?_)
    ·have ei:IntKind.i64.wrap ((i2:Int)-1)=((i2-1:Nat):Int):=by rw [w64 (by omega) (by omega)];omega
     simp only [ei]
     refine h2.rd rfl (by omega) ?_
     refine h2.drew.rd rfl (by omega) ?_
     refine Ret.use (f218 _ _) ?_
     rintro _ _ ⟨rfl,hw⟩
     obtain rfl:=hw.symm
     rw [AsB_bool]
     refine BIf_not.2 (BIf_b (fun hl=>?_) (fun hl=>?_))
     ·rw [if_neg (by rw [hl];simp)] at hs
      exact⟨i2,rfl,hs,q1,q2,h2.drew,f2.drew⟩
     ·rw [if_pos (by rw [hl,decide_eq_true (show i2<b by omega)];rfl)] at hs
      rw [w64 (n:=(i2:Int)+1) (by omega) (by omega)]
      exact⟨⟨i2+1,rfl,hs,by omega,by omega,h2.drew,f2.drew⟩,(by first|omega|(simp only [Int.toNat_natCast];omega))⟩
    ·rw [if_neg (by rw [decide_eq_false (show ¬i2<b by omega)];simp)] at hs
     exact⟨i2,rfl,hs,q1,q2,h2.drew,f2.drew⟩
   ·rintro _ w2 ⟨i2,rfl,hs,q1,q2,h2,f2⟩
    simp only [UnC_cons,UnN_nil,AsI_int]
    rw [←hs] at hres
    simp only at hres
    refine BIf_eq (fun hib=>?_) (fun hib=>?_)
    ·rw [if_pos (by omega)] at hres
     rw [←hres]
     exact⟨rfl,h2,f2⟩
    ·rw [if_neg (by omega)] at hres
     rw [eba]
     refine BIf_cases (fun h50=>?_) (fun h50=>?_)
     ·rw [if_pos (by omega)] at hres
      rw [←hres]
      exact⟨rfl,h2,f2⟩
     ·rw [if_neg (by omega)] at hres
      have ei:IntKind.i64.wrap ((i2:Int)-1)=((i2-1:Nat):Int):=by rw [w64 (by omega) (by omega)];omega
      have eia:IntKind.i64.wrap ((i2:Int)-(a:Int))=((i2-a:Nat):Int):=by rw [w64 (by omega) (by omega)];omega
      have ebi:IntKind.i64.wrap ((b:Int)-(i2:Int))=((b-i2:Nat):Int):=by rw [w64 (by omega) (by omega)];omega
      have ei1:IntKind.i64.wrap ((i2:Int)+1)=((i2+1:Nat):Int):=by rw [w64 (by omega) (by omega)];omega
      simp only [ei,eia,ebi,ei1]
      refine h2.drew.rd rfl (by omega) ?_
      refine h2.drew.rd rfl (by omega) ?_
      refine h2.drew.sw (i:=i2) (j:=i2-1) rfl rfl (by omega) (by omega) rfl rfl fun w3 h3 f3=>?_
      have f03:=f2.trans f3.of_drew
      obtain⟨d1,hd1⟩:∃d1,d1=swp e i2 (i2-1):=⟨_,rfl⟩
      rw [←hd1] at h3 hres
      obtain⟨d2,hd2⟩:∃d2,d2=if i2-a≥2 then shiftDown ltInt (i2-1) d1 else d1:=⟨_,rfl⟩
      rw [←hd2] at hres
      obtain⟨d3,hd3⟩:∃d3,d3=if b-i2≥2 then shiftUp ltInt b (i2+1) d2 else d2:=⟨_,rfl⟩
      rw [←hd3] at hres
      refine Join.at (fun s w'=>s=[]∧ArU z w' B p n c d2∧Fr (On p) w w') ?_ ?_
      ·refine BIf_cases (fun g2=>?_) (fun g2=>?_)
       ·rw [if_pos (by omega)] at hd2
        refine Loop.by (fun s w'=>∃(j:Nat) (e':Array Int),j<n∧s=[.int .i64 (j:Int)]∧ArU z w' B p n c e'∧Fr (On p) w w'∧shiftDown ltInt j e'=d2) (fun s _=>match s with | [.int _ i]=>i.toNat|_=>0)
         ⟨i2-1,d1,by omega,rfl,h3,f03,hd2.symm⟩ ?_
        rintro _ w4 ⟨j,e',hj,rfl,h4,f4,hr4⟩
        simp only [UnC_cons,UnN_nil,AsI_int]
        refine BIf_cases (fun hj1=>?_) (fun hj0=>?_)
        ·obtain⟨j',rfl⟩:∃j',j=j'+1:=⟨j-1,by omega⟩
         have ej:IntKind.i64.wrap (((j'+1:Nat):Int)-1)=(j':Int):=by rw [w64 (by omega) (by omega)];omega
         simp only [ej]
         rw [shiftDown] at hr4
         refine h4.rd rfl (by omega) ?_
         refine h4.drew.rd rfl (by omega) ?_
         refine Ret.use (f218 _ _) ?_
         rintro _ _ ⟨rfl,hw⟩
         obtain rfl:=hw.symm
         rw [AsB_bool]
         refine BIf_not.2 (BIf_b (fun hl=>?_) (fun hl=>?_))
         ·rw [if_neg (by rw [hl];simp)] at hr4
          refine h4.drew.drew.rd rfl (by omega) ?_
          refine h4.drew.drew.rd rfl (by omega) ?_
          refine h4.drew.drew.sw (i:=j'+1) (j:=j') rfl rfl (by omega) (by omega) rfl rfl fun w5 h5 f5=>?_
          exact⟨⟨j',_,by omega,rfl,h5,f4.trans f5.of_drew.of_drew,hr4⟩,(by first|omega|(simp only [Int.toNat_natCast];omega))⟩
         ·rw [if_pos (by rw [hl];rfl)] at hr4
          exact⟨by trivial,by rw [←hr4];exact h4.drew,f4.drew⟩
        ·obtain rfl:j=0:=by omega
         rw [shiftDown] at hr4
         exact⟨by trivial,by rw [←hr4];exact h4,f4⟩
       ·rw [if_neg (by omega)] at hd2
        exact⟨rfl,by rw [hd2];exact h3,f03⟩
      ·rintro _ w4 ⟨rfl,h4,f4⟩
       rw [UnN_nil]
       refine BIf_cases (fun g2=>?_) (fun g2=>?_)
       ·rw [if_pos (by omega)] at hd3
        refine Loop.by (fun s w'=>∃(j:Nat) (e':Array Int),1≤j∧j≤n∧s=[.int .i64 (j:Int)]∧ArU z w' B p n c e'∧Fr (On p) w w'∧shiftUp ltInt b j e'=d3) (fun s _=>match s with | [.int _ i]=>n-i.toNat|_=>0)
         ⟨i2+1,d2,by omega,by omega,rfl,h4,f4,hd3.symm⟩ ?_
        rintro _ w5 ⟨j,e',hj1,hj,rfl,h5,f5,hr5⟩
        simp only [UnC_cons,UnN_nil,AsI_int]
        rw [shiftUp] at hr5
        refine BIf_cases (fun hjb=>?_) (fun hjb=>?_)
        ·rw [if_pos (by omega)] at hr5
         have ej:IntKind.i64.wrap ((j:Int)-1)=((j-1:Nat):Int):=by rw [w64 (by omega) (by omega)];omega
         have ej1:IntKind.i64.wrap ((j:Int)+1)=((j+1:Nat):Int):=by rw [w64 (by omega) (by omega)];omega
         simp only [ej,ej1]
         refine h5.rd rfl (by omega) ?_
         refine h5.drew.rd rfl (by omega) ?_
         refine Ret.use (f218 _ _) ?_
         rintro _ _ ⟨rfl,hw⟩
         obtain rfl:=hw.symm
         rw [AsB_bool]
         refine BIf_not.2 (BIf_b (fun hl=>?_) (fun hl=>?_))
         ·rw [if_neg (by rw [hl];simp)] at hr5
          refine h5.drew.drew.rd rfl (by omega) ?_
          refine h5.drew.drew.rd rfl (by omega) ?_
          refine h5.drew.drew.sw (i:=j) (j:=j-1) rfl rfl (by omega) (by omega) rfl rfl fun w6 h6 f6=>?_
          exact⟨⟨j+1,_,by omega,by omega,rfl,h6,f5.trans f6.of_drew.of_drew,hr5⟩,(by first|omega|(simp only [Int.toNat_natCast];omega))⟩
         ·rw [if_pos (by rw [hl];rfl)] at hr5
          exact⟨i2,_,_,rfl,q1,q2,h5.drew,f5.drew,by rw [hr5];exact hres⟩
        ·rw [if_neg (by omega)] at hr5
         exact⟨i2,_,_,rfl,q1,q2,h5,f5,by rw [hr5];exact hres⟩
       ·rw [if_neg (by omega)] at hd3
        exact⟨i2,_,_,rfl,q1,q2,h4,f4,by rw [←hd3];exact hres⟩
  ·rintro _ w2 ⟨i',e',y,rfl,q1,q2,h2,f2,hr2⟩
   simp only [UnC_cons,UnN_nil,AsI_int,AsB_bool]
   rw [w64 (n:=((5-(m+1):Nat):Int)+1) (by omega) (by omega),show ((5-(m+1):Nat):Int)+1=((5-m:Nat):Int) by omega]
   exact⟨⟨m,i',e',y,by omega,q1,q2,rfl,h2,f2,hr2⟩,(by first|omega|(simp only [Int.toNat_natCast];omega))⟩
 ·obtain rfl:k=0:=by omega
  rw [partialIns] at hres
  rw [←hres]
  exact⟨rfl,h1,f1⟩
end Go.Proofs.YtmgjicnipgdjhaaGreatDoor
set_option maxRecDepth 10000
namespace Go.Proofs.YtmgjicnipgdjhaaGreatDoor
open Go Go.Sh Go.Fr Go.Sort
variable {z:Bool}
theorem piv_range (d:Array Int) (a b:Nat) (hab:a<b):a≤(pivR d a b).1∧(pivR d a b).1<b:=by
 have:=choosePivot_holds ltInt d a b hab
 rw [choose_eq] at this
 exact this
theorem f162:∀(N:Nat) {w:World} {B n c:Nat} {p:Option Addr} {d:Array Int} (h:ArU z w B p n c d) (a b limit:Nat) (hab:a≤b) (hb:b≤n) (hn:n≤1000000000000) (hlim:limit≤1000000000000) (hN:b-a<N) (hB:Below ltInt a b d),
  Ret prog (nz z 162 176) #[.slice p n c,.int .i64 (a:Int),.int .i64 (b:Int),.int .i64 (limit:Int)] w fun v w'=>v=.tuple #[]∧∃R,ArU z w' B p n c R∧PermIn a b d R∧SortedIn ltInt a b R∧Fr (On p) w w'
 | 0,_,_,_,_,_,_,_,_,_,_,_,_,_,_,hN,_=>absurd hN (by omega)
 | N+1,w,B,n,c,p,d,h,a,b,limit,hab,hb,hn,hlim,hN,hB=>by
  have hds:=h.size
  refine F162z_of z _ _ _ _ _ _ _ _ ?_
  unfold F162z;try dsimp only [Ubbiii,Uib,Uii,ub_,ui_]
  refine Loop.by (fun s w'=>∃(wp wb:Bool) (a' b' lim:Nat) (e:Array Int),a'≤b'∧b'≤n∧b'-a'≤b-a∧lim≤1000000000000∧s=[.bool wp,.bool wb,.int .i64 (a':Int),.int .i64 (b':Int),.int .i64 (lim:Int)]∧ArU z w' B p n c e∧Fr (On p) w w'∧Below ltInt a' b' e ∧
    ∀R,PermIn a' b' e R→SortedIn ltInt a' b' R→PermIn a b d R∧SortedIn ltInt a b R) (fun s _=>match s with | [_,_,.int _ a,.int _ b,_]=>b.toNat-a.toNat|_=>0)
   ⟨true,true,a,b,limit,d,hab,hb,Nat.le_refl _,hlim,rfl,h,Fr.refl _ _,hB,fun R h1 h2=>⟨h1,h2⟩⟩ ?_
  rintro _ w1 ⟨wp,wb,a',b',lim,e,hab',hb',hsz,hlim',rfl,h1,f1,hB1,hfin⟩
  simp only [UnC_cons,UnN_nil,AsI_int,AsB_bool]
  have hes:=h1.size
  have eba:IntKind.i64.wrap ((b':Int)-(a':Int))=((b'-a':Nat):Int):=by rw [w64 (by omega) (by omega)];omega
  simp only [eba]
  refine BIf_cases (fun h12=>?_) (fun h12=>?_)
  ·refine Ret.use (f212 h1 a' b' hab' hb' hn) ?_
   rintro _ w2 ⟨rfl,h2,f2⟩
   simp only [AsTup_tuple,UnC_cons,AsI_int,AsB_bool,UnN_nil]
   obtain⟨q1,q2⟩:=insertionSort_holds swo_ltInt e a' b' hab' (by omega)
   obtain⟨r1,r2⟩:=hfin _ q1 q2
   exact⟨by trivial,_,h2,r1,r2,f1.trans f2⟩
  ·have hlt:a'<b':=by omega
   refine BIf_eq (fun h0=>?_) (fun h0=>?_)
   ·refine Ret.use (f213 h1 a' b' hlt hb' hn) ?_
    rintro _ w2 ⟨rfl,h2,f2⟩
    simp only [AsTup_tuple,UnC_cons,AsI_int,AsB_bool,UnN_nil]
    obtain⟨q1,q2⟩:=heapSort_holds swo_ltInt e a' b' hab' (by omega)
    obtain⟨r1,r2⟩:=hfin _ q1 q2
    exact⟨by trivial,_,h2,r1,r2,f1.trans f2⟩
   ·refine Join.at (fun s w'=>∃(l':Nat) (e1:Array Int),s=[.int .i64 (l':Int)]∧l'≤1000000000000∧PermIn a' b' e e1∧ArU z w' B p n c e1∧Fr (On p) w w') ?_ ?_
    ·refine BIf_not.2 (BIf_b (fun hwb=>?_) (fun hwb=>?_))
     ·exact⟨lim,e,rfl,hlim',permIn_refl e a' b',h1,f1⟩
     ·refine Ret.use (f214 h1 a' b' hab' hb' hn) ?_
      rintro _ w2 ⟨rfl,h2,f2⟩
      simp only [AsTup_tuple,UnC_cons,AsI_int,AsB_bool,UnN_nil]
      rw [w64 (n:=(lim:Int)-1) (by omega) (by omega)]
      exact⟨lim-1,_,by congr 2;omega,by omega,breakPatterns_holds e a' b' hab' (by omega),h2,f1.trans f2⟩
    ·rintro _ w2 ⟨l',e1,rfl,hl',hp1,h2,f2⟩
     simp only [UnC_cons,UnN_nil,AsI_int]
     obtain⟨c1,c2⟩:=piv_range e1 a' b' hlt
     refine Ret.use (f215 h2 a' b' hlt hb' hn) ?_
     rintro _ w3 ⟨rfl,f3⟩
     simp only [AsTup_tuple,UnC_cons,AsI_int,AsB_bool,UnN_nil]
     have h3:=h2.fr f3 (fun _ _ h=>h)
     have f03:=f2.trans (f3.mono fun _ _ h=>h.elim)
     have he1:=h2.size
     refine Join.at (fun s w'=>∃(x:Int) (pv:Nat) (e2:Array Int),s=[.int .i64 x,.int .i64 (pv:Int)]∧a'≤pv∧pv<b'∧PermIn a' b' e e2∧ArU z w' B p n c e2∧Fr (On p) w w') ?_ ?_
     ·refine BIf_eq (fun h2'=>?_) (fun h2'=>?_)
      ·refine Ret.use (f216 h3 a' b' hlt hb' hn) ?_
       rintro _ w4 ⟨rfl,h4,f4⟩
       simp only [AsTup_tuple,UnC_cons,AsI_int,AsB_bool,UnN_nil]
       have g1:IntKind.i64.wrap ((b':Int)-1)=((b'-1:Nat):Int):=by rw [w64 (by omega) (by omega)];omega
       have g2:IntKind.i64.wrap ((((pivR e1 a' b').1:Nat):Int)-(a':Int))=(((pivR e1 a' b').1-a':Nat):Int):=by rw [w64 (by omega) (by omega)];omega
       have g3:IntKind.i64.wrap (((b'-1:Nat):Int)-(((pivR e1 a' b').1-a':Nat):Int))=((b'-1-((pivR e1 a' b').1-a'):Nat):Int):=by rw [w64 (by omega) (by omega)];omega
       rw [g1,g2,g3]
       exact⟨1,_,_,rfl,by omega,by omega,permIn_trans _ _ _ _ _ hp1 (reverseRange_holds e1 a' b' hab' (by omega)),h4,f03.trans f4⟩
      ·exact⟨_,_,e1,rfl,c1,c2,hp1,h3,f03⟩
     ·rintro _ w4 ⟨x,pv,e2,rfl,v1,v2,hp2,h4,f4⟩
      simp only [UnC_cons,UnN_nil,AsI_int]
      have he2:=h4.size
      have hB2:Below ltInt a' b' e2:=hB1.perm (by omega) hp2
      refine Join.at (fun s w'=>s=[]∧∃e3:Array Int,PermIn a' b' e e3∧ArU z w' B p n c e3∧Fr (On p) w w') ?_ ?_
      ·have out:∀W,ArU z W B p n c e2→Fr (On p) w W→(([]:List Value)=[]∧∃e3:Array Int,PermIn a' b' e e3∧ArU z W B p n c e3∧Fr (On p) w W):=fun W q1 q2=>⟨rfl,e2,hp2,q1,q2⟩
       refine BIf_b (fun _=>?_) (fun _=>out _ h4 f4)
       refine BIf_b (fun _=>?_) (fun _=>out _ h4 f4)
       refine BIf_eq (fun _=>?_) (fun _=>out _ h4 f4)
       refine Ret.use (f217 h4 a' b' hlt hb' hn) ?_
       rintro _ w5 ⟨rfl,h5,f5⟩
       rw [AsB_bool]
       obtain⟨q1,q2⟩:=partialInsertionSort_holds swo_ltInt e2 a' b' hlt (by omega) hB2
       have q3:=permIn_trans _ _ _ _ _ hp2 q1
       refine BIf_b (fun hfl=>?_) (fun hfl=>?_)
       ·obtain⟨r1,r2⟩:=hfin _ q3 (q2 hfl)
        exact⟨by trivial,_,h5,r1,r2,f4.trans f5⟩
       ·exact⟨rfl,_,q3,h5,f4.trans f5⟩
      ·rintro _ w5 ⟨rfl,e3,hp3,h5,f5⟩
       rw [UnN_nil]
       have he3:=h5.size
       have hb3:b'≤e3.size:=by omega
       have hB3:Below ltInt a' b' e3:=hB1.perm (by omega) hp3
       refine Join.at (fun s w'=>s=[.int .i64 (a':Int)]∧ArU z w' B p n c e3∧Fr (On p) w w') ?_ ?_
       ·refine BIf_cases (fun ha0=>?_) (fun ha0=>?_)
        ·have ea:IntKind.i64.wrap ((a':Int)-1)=((a'-1:Nat):Int):=by rw [w64 (by omega) (by omega)];omega
         simp only [ea]
         have hq1:a'-1<n:=by omega
         have hq2:pv<n:=by omega
         refine h5.drew.rd (i:=a'-1) rfl hq1 ?_
         refine h5.drew.rd (i:=pv) rfl hq2 ?_
         refine Ret.use (f218 _ _) ?_
         rintro _ _ ⟨rfl,hw⟩
         obtain rfl:=hw.symm
         rw [AsB_bool]
         refine BIf_not.2 (BIf_b (fun hl=>?_) (fun hl=>?_))
         ·exact⟨by trivial,h5.drew,f5.drew⟩
         ·obtain⟨r1,r2,r3,r4,r5⟩:=round_eq swo_ltInt (partitionEqual_holds ltInt) (show 0<a' by omega) v1 v2 hb3 hB3 hl (mid:=(partitionEqual ltInt e3 a' b' pv).1) (d4:=(partitionEqual ltInt e3 a' b' pv).2) rfl
          refine Ret.use (f219 h5.drew a' b' pv v1 v2 hb' hn) ?_
          rintro _ w6 ⟨rfl,h6,f6⟩
          rw [AsI_int]
          exact⟨⟨wp,wb,_,b',l',_,r2,hb',by omega,hl',rfl,h6,f5.trans f6.of_drew,r4,fun R hR hs=>by
           obtain⟨t1,t2⟩:=r5 R hR hs
           exact hfin R (permIn_trans _ _ _ _ _ hp3 t1) t2⟩,(by first|omega|(simp only [Int.toNat_natCast];omega))⟩
        ·exact⟨rfl,h5.drew,f5.drew⟩
       ·rintro _ w6 ⟨rfl,h6,f6⟩
        simp only [UnC_cons,UnN_nil,AsI_int]
        obtain⟨r1,r2,r3,r4,r5,r6,r7⟩:=round_part swo_ltInt (partition_holds ltInt) v1 v2 (by omega) hB3 (mid:=(partition ltInt e3 a' b' pv).1) (ap:=(partition ltInt e3 a' b' pv).2.1) (d4:=(partition ltInt e3 a' b' pv).2.2) rfl
        refine Ret.use (f220 h6 a' b' pv v1 v2 hb' hn) ?_
        rintro _ w7 ⟨rfl,h7,f7⟩
        simp only [AsTup_tuple,UnC_cons,AsI_int,AsB_bool,UnN_nil]
        generalize hmid:(partition ltInt e3 a' b' pv).1=mid at *
        generalize hd4:(partition ltInt e3 a' b' pv).2.2=d4 at *
        have g1:IntKind.i64.wrap ((mid:Int)-(a':Int))=((mid-a':Nat):Int):=by rw [w64 (by omega) (by omega)];omega
        have g2:IntKind.i64.wrap ((b':Int)-(mid:Int))=((b'-mid:Nat):Int):=by rw [w64 (by omega) (by omega)];omega
        have g3:IntKind.i64.wrap ((mid:Int)+1)=((mid+1:Nat):Int):=by rw [w64 (by omega) (by omega)];omega
        simp only [g1,g2,g3]
        have f07:=f6.trans f7
        refine BIf_cases (fun hsm=>?_) (fun hsm=>?_)
        ·refine Ret.use (f162 N h7 a' mid l' r1 (by omega) hn hl' (by omega) r4) ?_
         rintro _ w8 ⟨rfl,L,h8,t1,t2,f8⟩
         simp only [AsTup_tuple,UnC_cons,AsI_int,AsB_bool,UnN_nil]
         obtain⟨u1,u2⟩:=r6 L t1 t2
         exact⟨⟨_,_,mid+1,b',l',L,by omega,hb',by omega,hl',rfl,h8,f07.trans f8,u1,fun R hR hs=>by
          obtain⟨x1,x2⟩:=u2 R hR hs
          exact hfin R (permIn_trans _ _ _ _ _ hp3 x1) x2⟩,(by first|omega|(simp only [Int.toNat_natCast];omega))⟩
        ·refine Ret.use (f162 N h7 (mid+1) b' l' (by omega) hb' hn hl' (by omega) r5) ?_
         rintro _ w8 ⟨rfl,L,h8,t1,t2,f8⟩
         simp only [AsTup_tuple,UnC_cons,AsI_int,AsB_bool,UnN_nil]
         obtain⟨u1,u2⟩:=r7 L t1 t2
         exact⟨⟨_,_,a',mid,l',L,r1,by omega,by omega,hl',rfl,h8,f07.trans f8,u1,fun R hR hs=>by
          obtain⟨x1,x2⟩:=u2 R hR hs
          exact hfin R (permIn_trans _ _ _ _ _ hp3 x1) x2⟩,(by first|omega|(simp only [Int.toNat_natCast];omega))⟩
end Go.Proofs.YtmgjicnipgdjhaaGreatDoor
set_option maxRecDepth 10000
namespace Go.Proofs.YtmgjicnipgdjhaaGreatDoor
open Go Go.Sh Go.Fr Go.Sort
theorem f97 {w:World} {B c:Nat} {p:Option Addr} {l:List Int} (h:Sl w B 30 1 p l.length c (l.map (Value.int .u64))) (hn:l.length≤1000000000000) :
  Ret prog 97 #[.slice p l.length c] w fun v w'=>v=.tuple #[]∧∃l':List Int,l'.Perm l∧l'.Pairwise (·≤·)∧Sl w' B 30 1 p l.length c (l'.map (Value.int .u64))∧Fr (On p) w w':=by
 refine F97_of _ _ _ _ _ ?_
 unfold F97
 rw [wu64 (n:=(l.length:Int)) (by omega) (by omega)]
 refine Ret.use (f163x l.length (by omega)) ?_
 rintro _ _ ⟨rfl,hw⟩
 obtain rfl:=hw.symm
 rw [AsI_int]
 have hb:=bitsLen_le64 (x:=l.length) (by omega)
 have hA:ArU false w B p l.length c l.toArray:=⟨by simp,by show Sl w B 30 1 p l.length c (l.toArray.toList.map (Value.int .u64));simpa using h⟩
 refine Ret.use (f162 (l.length+1) hA 0 l.length (bitsLen l.length) (by omega) (Nat.le_refl _) hn (by omega) (by omega) (.inl rfl)) ?_
 rintro _ w1 ⟨rfl,R,h1,hp,hs,f1⟩
 simp only [AsTup_tuple,UnN_nil]
 have hsz:=h1.size
 refine⟨by trivial,R.toList,?_,?_,h1.sl,f1⟩
 ·have h3:=hp.2.2
  have e1:R.extract 0 l.length=R:=by rw [←hsz];simp
  have e2:l.toArray.extract 0 l.length=l.toArray:=by
   have:l.length=l.toArray.size:=by simp
   rw [this];simp
  rw [e1,e2] at h3
  exact h3
 ·rw [List.pairwise_iff_getElem]
  intro i j hi hj hij
  have hi':i<R.size:=by simpa using hi
  have hj':j<R.size:=by simpa using hj
  have:=hs i j (by omega) hij (by omega)
  rw [getElem!_pos R i hi',getElem!_pos R j hj'] at this
  unfold ltInt at this
  have h9:=of_decide_eq_false this
  rw [Array.getElem_toList,Array.getElem_toList]
  omega
theorem f48 {w:World} {ma rm:Nat} {L:List (Int×Value)} (h:Has w ma [.map (some rm)]) (hm:MapIs w rm .u64 L) (hl:L.length≤1000000000) :
  Ret prog 48 #[.func (.func 98) #[] #[.pointer (some ⟨ma,0,none⟩)]] w fun v w'=>∃p c acc,v=.slice p L.length c∧List.Perm acc (L.map (·.1))∧acc.Pairwise (·≤·)∧Sl w' w.heap.size 30 1 p L.length c (acc.map (Value.int .u64))∧Fr0 w w':=by
 refine F48_of _ _ _ ?_
 unfold F48
 refine Ret.use (f96 h hm hl) ?_
 rintro _ w1 ⟨p,c,acc,rfl,hp,h1,f1⟩
 rw [AsSl_slice]
 have hal:acc.length=L.length:=by have:=hp.length_eq;simpa using this
 have h97:=f97 (w:=w1) (B:=w.heap.size) (c:=c) (p:=p) (l:=acc) (by rw [hal];exact h1) (by omega)
 rw [hal] at h97
 refine Ret.use h97 ?_
 rintro _ w2 ⟨rfl,l',h2,h3,h4,f2⟩
 simp only [AsTup_tuple,UnN_nil]
 exact⟨p,c,l',rfl,h2.trans hp,h3,h4,f1.newS f2 fun b hb=>(h1.lt b hb).1⟩
theorem f111 {w:World} {B c:Nat} {p:Option Addr} {l:List Int} (h:Sl w B 35 1 p l.length c (l.map (Value.int .u32))) (hn:l.length≤1000000000000) :
  Ret prog 111 #[.slice p l.length c] w fun v w'=>v=.tuple #[]∧∃l':List Int,l'.Perm l∧l'.Pairwise (·≤·)∧Sl w' B 35 1 p l.length c (l'.map (Value.int .u32))∧Fr (On p) w w':=by
 refine F111_of _ _ _ _ _ ?_
 unfold F111
 rw [wu64 (n:=(l.length:Int)) (by omega) (by omega)]
 refine Ret.use (f163x l.length (by omega)) ?_
 rintro _ _ ⟨rfl,hw⟩
 obtain rfl:=hw.symm
 rw [AsI_int]
 have hb:=bitsLen_le64 (x:=l.length) (by omega)
 have hA:ArU true w B p l.length c l.toArray:=⟨by simp,by show Sl w B 35 1 p l.length c (l.toArray.toList.map (Value.int .u32));simpa using h⟩
 refine Ret.use (f162 (l.length+1) hA 0 l.length (bitsLen l.length) (by omega) (Nat.le_refl _) hn (by omega) (by omega) (.inl rfl)) ?_
 rintro _ w1 ⟨rfl,R,h1,hp,hs,f1⟩
 simp only [AsTup_tuple,UnN_nil]
 have hsz:=h1.size
 refine⟨by trivial,R.toList,?_,?_,h1.sl,f1⟩
 ·have h3:=hp.2.2
  have e1:R.extract 0 l.length=R:=by rw [←hsz];simp
  have e2:l.toArray.extract 0 l.length=l.toArray:=by
   have:l.length=l.toArray.size:=by simp
   rw [this];simp
  rw [e1,e2] at h3
  exact h3
 ·rw [List.pairwise_iff_getElem]
  intro i j hi hj hij
  have hi':i<R.size:=by simpa using hi
  have hj':j<R.size:=by simpa using hj
  have:=hs i j (by omega) hij (by omega)
  rw [getElem!_pos R i hi',getElem!_pos R j hj'] at this
  unfold ltInt at this
  have h9:=of_decide_eq_false this
  rw [Array.getElem_toList,Array.getElem_toList]
  omega
theorem f56 {w:World} {ma rm:Nat} {L:List (Int×Value)} (h:Has w ma [.map (some rm)]) (hm:MapIs w rm .u32 L) (hl:L.length≤1000000000) :
  Ret prog 56 #[.func (.func 112) #[] #[.pointer (some ⟨ma,0,none⟩)]] w fun v w'=>∃p c acc,v=.slice p L.length c∧List.Perm acc (L.map (·.1))∧acc.Pairwise (·≤·)∧Sl w' w.heap.size 35 1 p L.length c (acc.map (Value.int .u32))∧Fr0 w w':=by
 refine F56_of _ _ _ ?_
 unfold F56
 refine Ret.use (f110 h hm hl) ?_
 rintro _ w1 ⟨p,c,acc,rfl,hp,h1,f1⟩
 rw [AsSl_slice]
 have hal:acc.length=L.length:=by have:=hp.length_eq;simpa using this
 have h97:=f111 (w:=w1) (B:=w.heap.size) (c:=c) (p:=p) (l:=acc) (by rw [hal];exact h1) (by omega)
 rw [hal] at h97
 refine Ret.use h97 ?_
 rintro _ w2 ⟨rfl,l',h2,h3,h4,f2⟩
 simp only [AsTup_tuple,UnN_nil]
 exact⟨p,c,l',rfl,h2.trans hp,h3,h4,f1.newS f2 fun b hb=>(h1.lt b hb).1⟩
end Go.Proofs.YtmgjicnipgdjhaaGreatDoor
set_option maxRecDepth 10000
namespace Go.Proofs.YtmgjicnipgdjhaaGreatDoor
open Go Go.Sh Go.Fr
theorem f12 {w:World} {ro:Ro} {J:Ids} {fr n:Nat} {S:St} (hS:Sys w ro J fr n S) (hl:S.roots.length≤1000000000) :
  Ret prog 12 #[.pointer (some ⟨J.e,0,none⟩)] w fun v w'=>∃p c acc,v=.slice p S.roots.length c∧List.Perm acc (S.roots.map fun x=>((x.1:Nat):Int))∧acc.Pairwise (·≤·)∧Sl w' w.heap.size 30 1 p S.roots.length c (acc.map (Value.int .u64))∧Fr0 w w':=by
 refine F12_of _ _ _ ?_
 unfold F12;try dsimp only [lm_]
 have hst:=hS.ed.st
 try simp only [hst.ld_iff,sb_,Nat.reduceAdd]
 refine Ret.use (f49 _) ?_
 rintro _ w1 ⟨rfl,n1,f1,s1⟩
 have hm:=hS.ed.rm.fr f1 (fun h=>h)
 have hlen:(rootVals S.roots).length=S.roots.length:=by simp [rootVals]
 have h48:=f48 n1 hm (by rw [hlen];exact hl)
 rw [hlen] at h48
 refine Ret.use h48 ?_
 rintro _ w2 ⟨p,c,acc,rfl,hp,hr,h2,f2⟩
 rw [AsSl_slice]
 refine⟨p,c,acc,rfl,?_,hr,h2.mono (by omega),f1.trans f2⟩
 have:(rootVals S.roots).map (·.1)=S.roots.map fun x=>((x.1:Nat):Int):=by unfold rootVals;rw [List.map_map];rfl
 rw [←this];exact hp
def zeroAll (a:Nat) (R:RootS):List Tr→Mst→Mst
 | [],M=>M
 | t :: r,M=>zeroAll a R r (zeroM a R M t)
theorem zeroAll_snoc (a:Nat) (R:RootS):∀(l:List Tr) (M:Mst) (t:Tr),zeroAll a R (l++[t]) M=zeroM a R (zeroAll a R l M) t
 | [],M,t=>rfl
 | x :: r,M,t=>zeroAll_snoc a R r _ t
inductive ShutRun (a:Nat) (x:Xs):List Nat→Xs→Prop
 | nil:ShutRun a x [] x
 | snoc {ms:List Nat} {y:Xs} {m T e:Nat} {p':Pool} {l':List Qr} (h:ShutRun a x ms y) (hT:tab? y.R.tabs m=some T) (hd:SDrop y.p y.l (T:Int) e p' l') :
   ShutRun a x (ms++[m]) ⟨unTab y.R m,pokes y.M (a+4*m) 0 1,p',l'⟩
def EmptyE (S:St) (a:Nat) (asid:Int) (e:Nat) (S':St):Prop :=
 (e≠0∧ChoErr S a asid 0 0 true [] e∧S'=S) ∨
 (e=0∧∃R,root? S.roots a=some R∧¬badCut asid 0 0 true∧((R.blocks=[]∧S'=S) ∨
  (R.blocks≠[]∧∃(ms:List Nat) (y:Xs),ms.Perm (R.tabs.map (·.1))∧ms.Pairwise (·≤·)∧ShutRun a ⟨R,dropM (zeroAll a R R.blocks S.M) 3 (IntKind.u32.wrap asid),S.p,S.l⟩ ms y ∧
   S'=⟨y.M,y.p,y.l,updR S.roots a { y.R with blocks:=[] }⟩)))
structure ZeroPre (fr a:Nat) (R:RootS) (t:Tr):Prop where
 reps:reps t.size=1∨reps t.size=16
 wf:t.wf
 tl:∀v,tab? R.tabs t.mib=some v→v<2^30
 place:∀i,i<Go.Proofs.YtmgjicnipgdjhaaGreatDoor.reps t.size→wErr fr (placeOf R a t+4*i)=0
theorem ShutRun.ids {a:Nat} {x y:Xs} {ms:List Nat} (h:ShutRun a x ms y):y.R.rb=x.R.rb∧y.R.tm=x.R.tm∧y.R.blocks=x.R.blocks:=by
 induction h with
 | nil=>exact⟨rfl,rfl,rfl⟩
 | snoc _ _ _ ih=>exact ih
theorem f19 {w:World} {ro:Ro} {J:Ids} {fr n:Nat} {S:St} (hS:Sys w ro J fr n S) (hI:Std n S) (hfr:fr≤65536) (a:Nat) (ha:a<2^40) (hso:∀R,root? S.roots a=some R→R.blocks.Pairwise fun a b=>a.va<b.va) (asid:Int)
  (hz:∀R,root? S.roots a=some R→∀t∈R.blocks,ZeroPre fr a R t) (htl:∀R,root? S.roots a=some R→R.tabs.length≤1000000∧∀x∈R.tabs,x.1<4096)
  (hsh:∀R,root? S.roots a=some R→∀(ms:List Nat) (m:Nat) (y:Xs),(∃rest,(ms++m :: rest).Perm (R.tabs.map (·.1)))→ShutRun a ⟨R,dropM (zeroAll a R R.blocks S.M) 3 (IntKind.u32.wrap asid),S.p,S.l⟩ ms y→∃T,tab? y.R.tabs m=some T∧T<2^30∧wErr fr (a+4*m)=0) :
  Ret prog 19 #[.pointer (some ⟨J.e,0,none⟩),.int .u64 (a:Int),.int .i64 asid] w fun v w'=>∃(e:Nat) (S':St) (ro':Ro),v=.int .i64 (e:Int)∧EmptyE S a asid e S'∧RExt w ro ro'∧Sys w' ro' J fr n S'∧FrR ro w w':=by
 refine F19_of _ _ _ _ _ ?_
 unfold F19;try dsimp only [Liuviiubb,S_8,Upsi,lb_,li_,lm_,ls_,ui_,up_,us_]
 refine Ret.use (f53 (vas:=[]) (q:=none) (c:=0) hS hI a hso asid 0 0 true false (fun i v h=>by simp at h) (by simp) (by simp)) ?_
 rintro _ w2 ⟨f2,⟨e,rfl,he⟩|⟨R,out,p,c',rfl,hok,hsl2⟩⟩
 ·simp only [sb_,Nat.reduceAdd]
  refine BIf_ne (fun _=>?_) (fun h=>absurd (by omega) he.ne)
  exact⟨e,S,ro,rfl,.inl ⟨he.ne,he,rfl⟩,RExt.refl _ _,hS.fr0 f2,f2.mono fun _ _ h=>h.elim⟩
 simp only [sb_,Nat.reduceAdd]
 refine BIf_ne (fun h=>absurd rfl h) (fun _=>?_)
 have hm:=root_mem hok.1
 have hS2:=hS.fr0 f2
 obtain⟨pb,cb,h1,h2,h3⟩:=(hS2.ed.root _ hm).st
 try simp only [h1.ld_iff,sb_,Nat.reduceAdd]
 refine BIf_eq (fun h0=>?_) (fun h0=>?_)
 ·have hnil:R.blocks=[]:=List.length_eq_zero_iff.1 (by show R.blocks.length=0;omega)
  exact⟨0,S,ro,rfl,.inr ⟨rfl,R,hok.1,hok.2.1,.inl ⟨hnil,rfl⟩⟩,RExt.refl _ _,hS2,f2.mono fun _ _ h=>h.elim⟩
 ·have hne:R.blocks≠[]:=fun h=>h0 (by rw [h];rfl)
  have hlen:R.blocks.length≤1000000000000:=Nat.le_trans (hI.len _ hm) (by decide)
  refine Loop.by (fun s w'=>∃(i:Nat) (ro':Ro),i≤R.blocks.length∧s=[.int .i64 (i:Int)]∧RExt w2 ro ro'∧Sys w' ro' J fr n { S with M:=zeroAll a R (R.blocks.take i) S.M }∧FrK machK ro w2 w')
   (fun s _=>match s with | [.int _ i]=>R.blocks.length-i.toNat|_=>0) ⟨0,ro,by omega,rfl,RExt.refl _ _,hS2,Fr.refl _ _⟩ ?_
  rintro _ w3 ⟨i,ro3,hi,rfl,E3,hS3,F3⟩
  simp only [UnC_cons,UnN_nil,AsI_int]
  refine BIf_cases (fun hlt=>?_) (fun hge=>?_)
  ·obtain⟨t,ht⟩:∃t,R.blocks[i]?=some t:=⟨R.blocks[i]'(by omega),List.getElem?_eq_getElem _⟩
   have P:=hz R hok.1 t (List.mem_of_getElem? ht)
   have h23:=h2.fr F3 (fun b hb h=>by rw [h3 b hb] at h;simp at h)
   refine tr_ld h23.rd rfl ht hlt ?_
   refine New8 (fun w4 n4 f4 s4=>?_)
   have hS4:=(hS3.ext (RExt.cut (w:=w3))).fr0 f4
   try simp only [n4.ld_iff,sb_,Nat.reduceAdd]
   refine Ret.use (f54 hS4 hm t P.wf (x:=0) (by decide) hfr P.reps P.tl ha P.place) ?_
   rintro _ w5 ⟨rfl,ro5,E5,hS5,F5⟩
   simp only [sb_,Nat.reduceAdd]
   rw [w64 (n:=(i:Int)+1) (by omega) (by omega)]
   have htake:R.blocks.take (i+1)=R.blocks.take i++[t]:=by rw [List.take_add_one,ht];rfl
   have z3:=F3.size
   have z4:=f4.size
   refine⟨⟨i+1,ro5,by omega,rfl,fun x hx=>?_,by rw [htake,zeroAll_snoc];exact hS5,?_⟩,(by first|omega|(simp only [Int.toNat_natCast];omega))⟩
   ·rw [E5 x (by omega),RExt.cut x (by omega),E3 x hx]
   ·exact FrK.then F3 E3 (FrK.then (f4.mono fun _ _ h=>h.elim) RExt.cut F5)
  ·obtain rfl:i=R.blocks.length:=by omega
   rw [List.take_length] at hS3
   refine Ret.use (f55 hS3 2 (.inr rfl) _) ?_
   rintro _ w4 ⟨rfl,ro4,E4,hS4,F4⟩
   simp only [sb_,Nat.reduceAdd]
   have hR4:=hS4.ed.root _ hm
   obtain⟨p4,c4,h41,h42,h43⟩:=hR4.st
   try simp only [h41.ld_iff,sb_,Nat.reduceAdd]
   refine Ret.use (f57 _) ?_
   rintro _ w5 ⟨rfl,n5,f5,s5⟩
   have htm5:=hR4.tm.fr f5 (fun h=>h)
   have htlen:(tabVals R.tabs).length=R.tabs.length:=by simp [tabVals]
   have htl':=htl R hok.1
   have h56:=f56 n5 htm5 (by rw [htlen];omega)
   rw [htlen] at h56
   refine Ret.use h56 ?_
   rintro _ w6 ⟨p6,c6,acc,rfl,hperm,hrise,hsl6,f6⟩
   rw [AsSl_slice]
   have f46:=f5.trans f6
   have G4:FrR ro w w4:=FrR.then (f2.mono fun _ _ h=>h.elim) (RExt.refl _ _) (FrR.then (F3.R (by decide)) E3 (F4.R (by decide)))
   have GE4:RExt w ro ro4:=fun x hx=>by
    have z2:=f2.size
    have z3:=F3.size
    rw [E4 x (by omega),E3 x (by omega)]
   have hS6:=(hS4.ext (RExt.cut (w:=w4))).fr0 f46
   have hpr:∀b,On p6 b→((ro4.cut w4) b).1=0:=fun b hb=>Ro.cut_new (by have:=(hsl6.lt b hb).1;have:=f5.size;omega)
   obtain⟨ms,hms⟩:∃ms:List Nat,acc=ms.map fun m=>((m:Nat):Int):=by
    refine⟨acc.map Int.toNat,?_⟩
    rw [List.map_map]
    have:acc.map ((fun m:Nat=>((m:Nat):Int)) ∘ Int.toNat)=acc.map id:=List.map_congr_left fun x hx=>by
     have:=hperm.mem_iff.1 hx
     obtain⟨y,hy,rfl⟩:=List.mem_map.1 this
     obtain⟨z,hz,rfl⟩:=List.mem_map.1 hy
     simp
    rw [this,List.map_id]
   subst hms
   have hpm:ms.Perm (R.tabs.map (·.1)):=by
    have e:(tabVals R.tabs).map (·.1)=(R.tabs.map (·.1)).map fun m=>((m:Nat):Int):=by unfold tabVals;simp only [List.map_map];rfl
    rw [e] at hperm
    have:=hperm.map Int.toNat
    simpa [List.map_map,Function.comp_def] using this
   have hrm:ms.Pairwise (·≤·):=by
    rw [List.pairwise_map] at hrise
    exact hrise.imp fun h=>by omega
   have hml:ms.length=R.tabs.length:=by have:=hpm.length_eq;simpa using this
   obtain⟨x0,hx0⟩:∃x0:Xs,x0=⟨R,dropM (zeroAll a R R.blocks S.M) 3 (IntKind.u32.wrap asid),S.p,S.l⟩:=⟨_,rfl⟩
   have hS6':Sys w6 (ro4.cut w4) J fr n (x0.st S.roots a):=by
    have hself:updR S.roots a R=S.roots:=updR_self hS.ed.nd hm
    rw [hx0]
    show Sys w6 (ro4.cut w4) J fr n ⟨_,S.p,S.l,updR S.roots a R⟩
    rw [hself];exact hS6
   refine Loop.by (fun s w'=>∃(i:Nat) (y:Xs) (ro':Ro),i≤ms.length∧s=[.int .i64 (i:Int)]∧ShutRun a x0 (ms.take i) y∧RExt w6 (ro4.cut w4) ro'∧Sys w' ro' J fr n (y.st S.roots a)∧FrR (ro4.cut w4) w6 w')
    (fun s _=>match s with | [.int _ i]=>ms.length-i.toNat|_=>0) ⟨0,x0,_,by omega,rfl,.nil,RExt.refl _ _,hS6',Fr.refl _ _⟩ ?_
   rintro _ w7 ⟨i,y,ro7,hi7,rfl,hrun,E7,hS7,F7⟩
   simp only [UnC_cons,UnN_nil,AsI_int]
   have hrb:y.R.rb=R.rb:=by rw [hrun.ids.1,hx0]
   have hyb:y.R.blocks=R.blocks:=by rw [hrun.ids.2.2,hx0]
   have hym:(a,y.R)∈updR S.roots a y.R:=updR_mem hm
   refine BIf_cases (fun hlt=>?_) (fun hge=>?_)
   ·obtain⟨m,hmm⟩:∃m,ms[i]?=some m:=⟨ms[i]'(by omega),List.getElem?_eq_getElem _⟩
    have htake:ms.take (i+1)=ms.take i++[m]:=by rw [List.take_add_one,hmm];rfl
    have hsplit:ms=ms.take i++m :: ms.drop (i+1):=by
     obtain⟨q1,q2⟩:=List.getElem?_eq_some_iff.1 hmm
     rw [←q2,←List.drop_eq_getElem_cons q1,List.take_append_drop]
    obtain⟨T,hT1,hT2,hT3⟩:=hsh R hok.1 (ms.take i) m y ⟨ms.drop (i+1),by rw [←hsplit];exact hpm⟩ (by rw [←hx0];exact hrun)
    have hm4:m<4096:=by
     have:=hpm.mem_iff.1 (List.mem_of_getElem? hmm)
     obtain⟨z,hz1,rfl⟩:=List.mem_map.1 this
     exact htl'.2 z hz1
    obtain⟨b,o,hp6,hc6⟩:=(hsl6.rd.fr F7 fun b hb h=>h (hpr b hb)) i (.int .u32 (m:Int)) (by simp [hmm])
    rw [hp6,NilP_some]
    refine⟨by omega,by omega,?_⟩
    rw [at0_mk,Int.toNat_natCast]
    refine⟨_,hc6,AsI_int.2 ?_⟩
    rw [←hrb]
    refine Ret.use (f58 hS7 hym hm4 hT1 hT2 hfr hT3) ?_
    rintro _ w8 ⟨rfl,ro8,e8,p8,l8,hd8,E8,hS8,F8⟩
    simp only [sb_,Nat.reduceAdd]
    rw [w64 (n:=(i:Int)+1) (by omega) (by omega)]
    refine⟨⟨i+1,_,ro8,by omega,rfl,by rw [htake];exact .snoc hrun hT1 hd8,fun x hx=>(E8 x (by have:=F7.size;omega)).trans (E7 x hx),?_,F7.then E7 F8⟩,(by first|omega|(simp only [Int.toNat_natCast];omega))⟩
    show Sys w8 ro8 J fr n ⟨_,p8,l8,updR S.roots a (unTab y.R m)⟩
    rw [←updR_upd S.roots a y.R (unTab y.R m)]
    exact hS8
   ·obtain rfl:i=ms.length:=by omega
    rw [List.take_length] at hrun
    obtain⟨p7,c7,h71,h72,h73⟩:=(hS7.ed.root _ hym).st
    rw [←hrb]
    have h71':Has w7 y.R.rb [.int .i64 (y.R.first:Int),.int .i64 (y.R.count:Int),.slice p7 y.R.blocks.length c7,.map (some y.R.tm)]:=h71
    refine h71'.st (by simp) rfl fun w8 n8 f8 s8=>?_
    obtain⟨ro8,E8,hS8,F8⟩:=hS7.blocksT (w1:=w7) hym (blocks:=[]) (p':=none) (c':=0) h71 h72 h73 (Sl.nil _ _ _ _) (Fr.refl _ _) (fun b hb=>by obtain⟨q,h,_⟩:=hb;cases h) (by simpa using n8) f8
    refine⟨0,_,ro8,rfl,.inr ⟨rfl,R,hok.1,hok.2.1,.inr ⟨hne,ms,y,hpm,hrm,by rw [←hx0];exact hrun,rfl⟩⟩,fun x hx=>?_,?_,?_⟩
    ·have z4:=G4.size
     have z6:=f46.size
     have z7:=F7.size
     rw [E8 x (by omega),E7 x (by omega),RExt.cut x (by omega),GE4 x hx]
    ·show Sys w8 ro8 J fr n ⟨y.M,y.p,y.l,updR S.roots a { y.R with blocks:=[] }⟩
     rw [←updR_upd S.roots a y.R { y.R with blocks:=[] }]
     exact hS8
    ·exact G4.then GE4 (FrR.then (f46.mono fun _ _ h=>h.elim) RExt.cut (F7.then E7 F8))
structure Acc (p:Pool) (F:List Nat):Prop where
 nd:F.Nodup
 rg:∀f∈F,p.first≤f∧f<p.first+p.u.length
 us:∀k,k<p.u.length→p.u.getD k 0=if p.first+k∈F then 1 else 0
theorem Acc.perm {p:Pool} {F F':List Nat} (h:Acc p F) (e:F.Perm F'):Acc p F' :=
 ⟨e.nodup_iff.1 h.nd,fun f hf=>h.rg f (e.mem_iff.2 hf),fun k hk=>by rw [h.us k hk];simp only [e.mem_iff]⟩
def span (f n:Nat):List Nat:=(List.range n).map (f + ·)
theorem mem_span {f n x:Nat}:x∈span f n↔f≤x∧x<f+n:=by
 unfold span
 simp only [List.mem_map,List.mem_range]
 constructor
 ·rintro ⟨a,h,rfl⟩;omega
 ·rintro ⟨h1,h2⟩;exact⟨x-f,by omega,by omega⟩
theorem span_nd (f n:Nat):(span f n).Nodup:=by
 unfold span
 rw [List.nodup_iff_pairwise_ne,List.pairwise_map]
 exact List.nodup_range.imp fun h e=>h (by omega)
theorem span_one (f:Nat):span f 1=[f]:=by simp [span]
theorem Acc.take {p:Pool} {F:List Nat} (h:Acc p F) {n al a:Nat} (hf:Fit p.first p.u n al a):Acc (p.turned a (fun _=>1) n) (span (p.first+a) n++F):=by
 obtain⟨h1,h2,h3⟩:=hf
 refine⟨?_,?_,?_⟩
 ·rw [List.nodup_append]
  refine⟨span_nd _ _,h.nd,fun x hx y hy e=>?_⟩
  subst e
  rw [mem_span] at hx
  have h4:=h.us (x-p.first) (by omega)
  rw [show p.first+(x-p.first)=x by omega,if_pos hy,h3 _ (by omega) (by omega)] at h4
  cases h4
 ·intro f hf
  simp only [Pool.turned,turn_len]
  rcases List.mem_append.1 hf with hf|hf
  ·rw [mem_span] at hf;omega
  ·exact h.rg f hf
 ·intro k hk
  simp only [Pool.turned,turn_len] at hk
  show (turn p.u a (fun _=>1) n).getD k 0=if p.first+k∈span (p.first+a) n++F then 1 else 0
  rw [turn_get _ _ _ _ _ h2]
  by_cases hx:a≤k∧k<a+n
  ·have hm:p.first+k∈span (p.first+a) n++F:=List.mem_append.2 (.inl (mem_span.2 (by omega)))
   rw [if_pos hx,if_pos hm]
  ·rw [if_neg hx,h.us k hk]
   have:p.first+k∉span (p.first+a) n:=by rw [mem_span];omega
   have e:p.first+k∈span (p.first+a) n++F↔p.first+k∈F:=by rw [List.mem_append];exact⟨fun h=>h.elim (fun h=>absurd h this) id,.inr⟩
   simp only [e]
theorem Acc.drop {p:Pool} {F:List Nat} {f n:Nat} (h:Acc p (span f n++F)) (hn:1≤n):(p.run (f:Int) (n:Int)).2=0∧Acc (p.turned ((f:Int)-p.first).toNat (· - 1) (n:Int).toNat) F:=by
 have hnd:=List.nodup_append.1 h.nd
 have hr:∀x,f≤x→x<f+n→p.first≤x∧x<p.first+p.u.length:=fun x h1 h2=>h.rg x (List.mem_append.2 (.inl (mem_span.2 ⟨h1,h2⟩)))
 have a1:=hr f (Nat.le_refl _) (by omega)
 have a2:=hr (f+n-1) (by omega) (by omega)
 have hk:((f:Int)-p.first).toNat=f-p.first:=by omega
 have hu:∀x,f-p.first≤x→x<f-p.first+n→p.u.getD x 0=1:=fun x h1 h2=>by
  rw [h.us x (by omega),if_pos (List.mem_append.2 (.inl (mem_span.2 (by omega))))]
 refine⟨?_,?_,?_,?_⟩
 ·unfold Pool.run
  rw [if_neg (by omega),if_neg (by omega),hk]
  obtain⟨s1,s2,s3,s4⟩:=next_spec p.u false (f-p.first)
  have s5:=s2 (by omega)
  rw [if_neg]
  intro hlt
  have hl:next p.u false (f-p.first)<p.u.length:=by omega
  have:=hu (next p.u false (f-p.first)) s5 (by omega)
  have h0:=s3 hl
  rw [getD_get hl] at this
  rw [this] at h0
  simp at h0
 ·exact hnd.2.1
 ·intro x hx
  simp only [Pool.turned,turn_len]
  exact h.rg x (List.mem_append.2 (.inr hx))
 ·intro k hk2
  simp only [Pool.turned,turn_len] at hk2
  show (turn p.u ((f:Int)-p.first).toNat (· - 1) (n:Int).toNat).getD k 0=if p.first+k∈F then 1 else 0
  rw [hk,Int.toNat_natCast,turn_get _ _ _ _ _ (by omega)]
  by_cases hx:f-p.first≤k∧k<f-p.first+n
  ·have hm:¬p.first+k∈F:=fun hm=>hnd.2.2 (p.first+k) (mem_span.2 (by omega)) (p.first+k) hm rfl
   rw [if_pos hx,hu k hx.1 hx.2,if_neg hm]
  ·rw [if_neg hx,h.us k hk2]
   have:p.first+k∉span f n:=by rw [mem_span];omega
   have e:p.first+k∈span f n++F↔p.first+k∈F:=by rw [List.mem_append];exact⟨fun h=>h.elim (fun h=>absurd h this) id,.inr⟩
   simp only [e]
theorem Acc.held {p:Pool} {l:List Qr} {G:List Nat} (h:Acc p (l.map Qr.f++G)):Held p l:=by
 intro q hq
 have hm:q.f∈l.map Qr.f++G:=List.mem_append.2 (.inl (List.mem_map.2 ⟨q,hq,rfl⟩))
 have:=h.rg q.f hm
 refine⟨this.1,this.2,?_⟩
 rw [h.us _ (by omega),show p.first+(q.f-p.first)=q.f by omega,if_pos hm]
 decide
theorem insq_perm (f:Nat):∀l:List Qr,(insq f l).Perm (Qr.new f :: l)
 | []=>List.Perm.refl _
 | x :: r=>by
  unfold insq
  split
  ·exact ((insq_perm f r).cons x).trans (List.Perm.swap _ _ _)
  ·exact List.Perm.refl _
theorem tabs_perm {l l':List Qr} (h:l.Perm l'):(tabs l).Perm (tabs l'):=by
 unfold tabs
 exact h.flatMap_right _
theorem qset_perm {q:Qr} {k:Nat} (hk:k<4) (h0:q.u k=false):((q.set k true).tabs 4).Perm ((4*q.f+k) :: q.tabs 4):=by
 have hr:∀q:Qr,(q.tabs 4).Nodup:=fun q=>by
  unfold Qr.tabs
  rw [List.nodup_iff_pairwise_ne,List.pairwise_map]
  exact (List.nodup_range.filter _).imp fun h e=>h (by omega)
 refine (List.perm_ext_iff_of_nodup (hr _) (List.nodup_cons.2 ⟨fun hm=>?_,hr q⟩)).2 fun x=>?_
 ·obtain⟨k',h1,h2,h3⟩:=mem_qtabs.1 hm
  have:k'=k:=by omega
  subst this;rw [h0] at h2;cases h2
 ·rw [List.mem_cons,mem_qtabs,mem_qtabs]
  constructor
  ·rintro ⟨k',h1,h2,h3⟩
   by_cases e:k'=k
   ·subst e;exact .inl h3
   ·simp only [Qr.set,if_neg e] at h2
    exact .inr ⟨k',h1,h2,h3⟩
  ·rintro (h|⟨k',h1,h2,h3⟩)
   ·exact⟨k,hk,by simp [Qr.set],h⟩
   ·refine⟨k',h1,?_,h3⟩
    simp only [Qr.set]
    split
    ·rfl
    ·exact h2
theorem tabs_set {l:List Qr} {i k:Nat} {q:Qr} (hq:l[i]?=some q) (hk:k<4) (h0:q.u k=false):(tabs (l.set i (q.set k true))).Perm ((4*q.f+k) :: tabs l):=by
 have hil:=(List.getElem?_eq_some_iff.1 hq).1
 have hy:(l.set i (q.set k true))[i]?=some (q.set k true):=by simp [hil]
 rw [tabs_cut hy,tabs_cut hq,List.take_set_of_le (Nat.le_refl _),List.drop_set_of_lt (by omega)]
 refine (((qset_perm hk h0).append_right _).append_left _).trans ?_
 exact List.perm_middle
theorem STake.acc {p p':Pool} {l l':List Qr} {r e:Nat} {G:List Nat} (h:STake p l r e p' l') (hok:SlabOk l) (hA:Acc p (l.map Qr.f++G)) (hlt:p.first+p.u.length≤268435456) :
  Acc p' (l'.map Qr.f++G)∧SlabOk l'∧p'.first=p.first∧p'.u.length=p.u.length∧(e=0→(tabs l').Perm (r :: tabs l))∧(e≠0→p'=p∧l'=l):=by
 cases h with
 | old i k q hq hk h0 h1 h2 =>
  refine⟨?_,hok.set hq hk,rfl,rfl,fun _=>tabs_set hq hk h0,fun h=>absurd rfl h⟩
  rw [set_f (y:=q.set k true) hq rfl]
  exact hA
 | none h hn=>exact⟨hA,hok,rfl,rfl,fun h=>absurd h (by decide),fun _=>⟨rfl,rfl⟩⟩
 | fresh h a hf hl =>
  have ha:a<p.u.length:=by have:=hf.2.1;omega
  have h1:=hA.take hf
  rw [span_one] at h1
  have hn:∀q∈l,q.f≠p.first+a:=fun q hq e=>by
   exact (List.nodup_append.1 h1.nd).2.2 (p.first+a) (by simp) (p.first+a) (List.mem_append.2 (.inl (List.mem_map.2 ⟨q,hq,e⟩))) rfl
  refine⟨h1.perm ?_,hok.insq (by omega) hn,rfl,turn_len _ _ _ _,fun _=>?_,fun h=>absurd rfl h⟩
  ·have:=((insq_perm (p.first+a) l).map Qr.f).append_right G
   exact this.symm
  ·refine (tabs_perm (insq_perm _ l)).trans ?_
   have:tabs (Qr.new (p.first+a) :: l)=4*(p.first+a) :: tabs l:=by
    simp only [tabs,List.flatMap_cons]
    have:(Qr.new (p.first+a)).tabs 4=[4*(p.first+a)]:=by
     simp [Qr.tabs,Qr.new,List.range_succ]
    rw [this];rfl
   rw [this]
theorem Acc.one {p:Pool} {F:List Nat} {f:Nat} (h:Acc p (f :: F)):Acc (p.turned (f-p.first) (· - 1) 1) F:=by
 have h':Acc p (span f 1++F):=by rw [span_one];exact h
 have:=(h'.drop (Nat.le_refl 1)).2
 have hr:=h.rg f (by simp)
 rw [show ((f:Int)-p.first).toNat=f-p.first by omega] at this
 exact this
theorem SDrop.acc {p p':Pool} {l l':List Qr} {t e:Nat} {G:List Nat} (h:SDrop p l (t:Int) e p' l') (hok:SlabOk l) (hA:Acc p (l.map Qr.f++G)) (ht:t∈tabs l) :
  e=0∧Acc p' (l'.map Qr.f++G)∧SlabOk l'∧p'.first=p.first∧p'.u.length=p.u.length∧(tabs l).Perm (t :: tabs l'):=by
 have hte:=h.tabs_eq hok rfl
 rcases hte with ⟨_,h2,_⟩|⟨he,_,htab⟩
 ·exact absurd ht h2
 have hperm:(tabs l).Perm (t :: tabs l'):=by
  rw [htab]
  have hnd:=rise_nodup (tabs_rise hok.rise)
  have e1:=List.perm_cons_erase ht
  rw [hnd.erase_eq_filter] at e1
  refine e1.trans (List.Perm.cons _ ?_)
  refine List.Perm.of_eq (List.filter_congr fun y _=>?_)
  by_cases e:y=t
  ·subst e;simp
  ·simp [e]
 cases h with
 | none h=>exact absurd he (by decide)
 | more i k q hq hk hu ht hm =>
  refine⟨rfl,?_,?_,rfl,rfl,hperm⟩
  ·rw [set_f (y:=q.set k false) hq rfl];exact hA
  ·refine hok.of_f (set_f (y:=q.set k false) hq rfl) fun x hx=>?_
   rcases List.mem_or_eq_of_mem_set hx with hx|rfl
   ·exact hok.any x hx
   ·obtain⟨k',h1,h2,h3⟩:=hm
    exact⟨k',h1,by simp only [Qr.set,if_neg h2];exact h3⟩
 | last i k q hq hk hu ht hm =>
  refine⟨rfl,?_,hok.cut i,rfl,turn_len _ _ _ _,hperm⟩
  refine Acc.one (f:=q.f) (hA.perm ?_)
  obtain⟨hi,hqi⟩:=List.getElem?_eq_some_iff.1 hq
  have e:l=l.take i++q :: l.drop (i+1):=by rw [←hqi,←List.drop_eq_getElem_cons hi,List.take_append_drop]
  have e2:(l.map Qr.f).Perm (q.f :: (l.take i++l.drop (i+1)).map Qr.f):=by
   conv=>lhs;rw [e]
   exact (List.perm_middle.map Qr.f)
  exact e2.append_right G
theorem PTake.acc {p p':Pool} {n al:Int} {r e:Nat} {F:List Nat} (h:PTake p n al r e p') (hA:Acc p F) :
  p'.first=p.first∧p'.u.length=p.u.length∧(e≠0→p'=p∧r=0)∧(e=0→Acc p' (span r n.toNat++F)∧p.first≤r∧r+n.toNat≤p.first+p.u.length∧1≤n∧1≤al∧r%al.toNat=0):=by
 cases h with
 | bad h=>exact⟨rfl,rfl,fun _=>⟨rfl,rfl⟩,fun h=>absurd h (by decide)⟩
 | none h hn=>exact⟨rfl,rfl,fun _=>⟨rfl,rfl⟩,fun h=>absurd h (by decide)⟩
 | ok h a hf hl =>
  refine⟨rfl,turn_len _ _ _ _,fun h=>absurd rfl h,fun _=>⟨hA.take hf,by omega,by have:=hf.2.1;omega,?_,?_,hf.1⟩⟩
  ·unfold badTake at h;omega
  ·unfold badTake at h;omega
theorem MayE.det {n:Nat} {blocks l:List Tr} {e e':Nat} (h:MayE n blocks l e) (h':MayE n blocks l e'):e=e':=by
 have key:∀{e e':Nat},MayE n blocks l e→MayE n blocks l e'→e=1→e'=1:=by
  rintro e e' (⟨_,t,ht,hb⟩|⟨he,_⟩|⟨he,_⟩) h' h1
  ·rcases h' with ⟨h',_⟩|⟨_,hg,_⟩|⟨_,hg,_⟩
   ·exact h'
   ·rw [hg t ht] at hb;cases hb
   ·rw [hg t ht] at hb;cases hb
  ·rw [he] at h1;cases h1
  ·rw [he] at h1;cases h1
 have key2:∀{e e':Nat},MayE n blocks l e→MayE n blocks l e'→e=141→e'=0→False:=by
  rintro e e' h h' h1 h0
  subst h0
  rcases h with ⟨he,_⟩|⟨_,_,i,t,hi,hc⟩|⟨he,_⟩
  ·rw [he] at h1;cases h1
  ·rcases h' with ⟨h',_⟩|⟨h',_⟩|⟨_,_,hg⟩
   ·cases h'
   ·cases h'
   obtain⟨g1,g2⟩:=hg i t hi
   rcases hc with ⟨b,hb,hc⟩|⟨b,hb,hc⟩
   ·rw [g1 b hb] at hc;cases hc
   ·rw [g2 b hb] at hc;cases hc
  ·rw [he] at h1;cases h1
 have cases3:∀{e:Nat},MayE n blocks l e→e=1∨e=141∨e=0:=by
  rintro e (⟨h,_⟩|⟨h,_⟩|⟨h,_⟩)
  ·exact .inl h
  ·exact .inr (.inl h)
  ·exact .inr (.inr h)
 rcases cases3 h with a|a|a<;>rcases cases3 h' with b|b|b
 ·omega
 ·have:=key h h' a;omega
 ·have:=key h h' a;omega
 ·have:=key h' h b;omega
 ·omega
 ·exact (key2 h h' a b).elim
 ·have:=key h' h b;omega
 ·exact (key2 h' h b a).elim
 ·omega
theorem findIx_mem {l:List Tr} (hs:l.Pairwise fun a b=>a.va<b.va) {i:Nat} {t:Tr} (h:l[i]?=some t):findIx l t.va=i:=by
 have h1:=findIx_lt hs (va:=t.va) h
 have h2:¬i<findIx l t.va:=fun hh=>by have:=h1.2 hh;omega
 rcases Nat.eq_zero_or_pos i with h0|h0
 ·omega
 ·have hil:=(List.getElem?_eq_some_iff.1 h).1
  have hj:l[i-1]?=some l[i-1]:=List.getElem?_eq_getElem (by omega)
  have h3:=(findIx_lt hs (va:=t.va) hj).1 (by
   have:=List.pairwise_iff_getElem.1 hs (i-1) i (by omega) hil (by omega)
   rw [(List.getElem?_eq_some_iff.1 h).2] at this
   exact this)
  omega
theorem findR_mem {l:List Tr} (hs:l.Pairwise fun a b=>a.va<b.va) {i:Nat} {t:Tr} (h:l[i]?=some t):findR l t.va=(i,true):=by
 unfold findR exactAt
 rw [findIx_mem hs h,h]
 simp
theorem findR_new {l:List Tr} (hs:l.Pairwise fun a b=>a.va<b.va) {t:Tr} (ht:sized t.size=true) (hl:∀b∈l,sized b.size=true) (hc:∀b∈l,clashB t b=false):(findR l t.va).1=findIx l t.va:=by
 have hp:=bytes_pos ht
 have no:∀b∈l,¬(t.va<b.tend∧b.va<t.tend):=fun b hb h=>by
  have:=hc b hb
  unfold clashB meets at this
  rw [decide_eq_true h.1,decide_eq_true h.2] at this
  simp at this
 unfold findR
 split
 ·rfl
 ·cases hx:l[findIx l t.va-1]? with
  | none=>rfl
  | some b =>
   dsimp only
   split
   ·rename_i hcc
    have hb:=List.mem_of_getElem? hx
    refine absurd ⟨hcc.2,?_⟩ (no b hb)
    have:=(findIx_lt hs (va:=t.va) hx).2 (by omega)
    unfold Tr.tend;omega
   ·rfl
theorem insAt_perm (l:List Tr) (i:Nat) (t:Tr):(insAt l i t).Perm (t :: l):=by
 unfold insAt
 refine List.perm_middle.trans ?_
 rw [List.take_append_drop]
theorem BlkOk.ins {n:Nat} {l:List Tr} (h:BlkOk n l) {t:Tr} (ht:Good n t) (hc:∀b∈l,clashB t b=false):BlkOk n (insAt l (findR l t.va).1 t):=by
 have hs:=h.sorted
 refine⟨fun b hb=>?_,?_⟩
 ·rcases List.mem_cons.1 ((insAt_perm _ _ _).mem_iff.1 hb) with rfl|hb
  ·exact ht
  ·exact h.good b hb
 ·rw [findR_new hs (right_sized ht.right) (fun b hb=>right_sized (h.good b hb).right) hc]
  have hne:∀b∈l,b.va≠t.va:=fun b hb e=>by
   have:=noclash_pages ht (h.good b hb) (hc b hb)
   rw [e] at this;exact this rfl
  have h1:∀b∈l.take (findIx l t.va),b.va<t.va:=fun b hb=>by
   obtain⟨j,hj,rfl⟩:=List.getElem_of_mem hb
   rw [List.length_take] at hj
   rw [List.getElem_take]
   exact (findIx_lt hs (List.getElem?_eq_getElem (by omega))).2 (by omega)
  have h2:∀b∈l.drop (findIx l t.va),t.va<b.va:=fun b hb=>by
   have hm:=hne b (List.mem_of_mem_drop hb)
   obtain⟨j,hj,rfl⟩:=List.getElem_of_mem hb
   rw [List.length_drop] at hj
   rw [List.getElem_drop] at hm ⊢
   have:=mt (findIx_lt hs (va:=t.va) (List.getElem?_eq_getElem (by omega:findIx l t.va+j<l.length))).1 (by omega)
   omega
  unfold insAt
  rw [List.pairwise_append]
  refine⟨h.sep.sublist (List.take_sublist _ _),List.pairwise_cons.2 ⟨fun b hb=>⟨h2 b hb,hc b (List.mem_of_mem_drop hb)⟩,h.sep.sublist (List.drop_sublist _ _)⟩,fun a ha b hb=>?_⟩
  rcases List.mem_cons.1 hb with rfl|hb
  ·exact⟨h1 a ha,by rw [clash_comm];exact hc a (List.mem_of_mem_take ha)⟩
  ·have:=h.sep
   rw [←List.take_append_drop (findIx l t.va) l,List.pairwise_append] at this
   exact this.2.2 a ha b hb
theorem erase_mem {l:List Tr} (hs:l.Pairwise fun a b=>a.va<b.va) {i:Nat} {t:Tr} (h:l[i]?=some t) {b:Tr}:b∈l.eraseIdx i↔b∈l∧b.va≠t.va:=by
 obtain⟨hi,rfl⟩:=List.getElem?_eq_some_iff.1 h
 rw [List.mem_eraseIdx_iff_getElem]
 constructor
 ·rintro ⟨j,hj,hne,rfl⟩
  refine⟨List.getElem_mem _,?_⟩
  rcases Nat.lt_or_gt_of_ne hne with h|h
  ·have:=List.pairwise_iff_getElem.1 hs j i hj hi h;omega
  ·have:=List.pairwise_iff_getElem.1 hs i j hi hj h;omega
 ·rintro ⟨hb,hne⟩
  obtain⟨j,hj,rfl⟩:=List.getElem_of_mem hb
  exact⟨j,hj,fun e=>hne (by subst e;rfl),rfl⟩
theorem BlkOk.set {n:Nat} {l:List Tr} (h:BlkOk n l) {i:Nat} {t t':Tr} (hi:l[i]?=some t) (hg:Good n t') (hv:t'.va=t.va) (hz:t'.size=t.size) (hd:t'.dom=t.dom):BlkOk n (l.set i t'):=by
 have hc:∀b,clashB t' b=clashB t b∧clashB b t'=clashB b t:=fun b=>by
  unfold clashB meets Tr.tend Tr.paged Tr.mib
  rw [hv,hz,hd]
  exact⟨rfl,rfl⟩
 obtain⟨hil,hit⟩:=List.getElem?_eq_some_iff.1 hi
 refine⟨fun b hb=>?_,List.pairwise_iff_getElem.2 fun x y hx hy hxy=>?_⟩
 ·rcases List.mem_or_eq_of_mem_set hb with hb|rfl
  ·exact h.good b hb
  ·exact hg
 ·rw [List.length_set] at hx hy
  have:=List.pairwise_iff_getElem.1 h.sep x y hx hy hxy
  rw [List.getElem_set,List.getElem_set]
  by_cases e1:i=x
  ·subst e1
   rw [if_pos rfl,if_neg (by omega),hv,(hc _).1]
   rw [hit] at this;exact this
  ·rw [if_neg e1]
   by_cases e2:i=y
   ·subst e2
    rw [if_pos rfl,hv,(hc _).2]
    rw [hit] at this;exact this
   ·rw [if_neg e2];exact this
theorem choose_spec {blocks:List Tr}:∀{vas:List Nat} {out out':List Tr},chooseL blocks vas out=some out'→(∀t∈out,t∈blocks)→(out.map (·.va)).Nodup→(∀t∈out',t∈blocks)∧(out'.map (·.va)).Nodup∧out'.length=out.length+vas.length
 | [],out,out',h,h1,h2=>by
  unfold chooseL at h
  injection h with h
  subst h
  exact⟨h1,h2,rfl⟩
 | va :: r,out,out',h,h1,h2=>by
  unfold chooseL at h
  split at h
  ·rename_i hf
   split at h
   ·rename_i t ht
    split at h
    ·cases h
    ·rename_i hn
     have:=choose_spec h (fun x hx=>by
      rcases List.mem_append.1 hx with hx|hx
      ·exact h1 x hx
      ·rw [List.mem_singleton.1 hx];exact List.mem_of_getElem? ht) (by
      rw [List.map_append,List.nodup_append]
      refine⟨h2,by simp,fun x hx y hy e=>?_⟩
      simp only [List.map_cons,List.map_nil,List.mem_singleton] at hy
      subst hy;subst e
      obtain⟨z,hz,hz2⟩:=List.mem_map.1 hx
      refine hn (List.any_eq_true.2 ⟨z,hz,?_⟩)
      simpa using hz2)
     refine⟨this.1,this.2.1,?_⟩
     rw [this.2.2]
     simp only [List.length_append,List.length_cons,List.length_nil]
     omega
   ·cases h
  ·cases h
structure RootOk (n a:Nat) (R:RootS):Prop where
 key:a=4096*R.first
 cnt:R.count=cnt n
 blk:BlkOk n R.blocks
 nd:(R.tabs.map (·.1)).Nodup
 tk:∀m,(tab? R.tabs m).isSome=true↔∃t∈R.blocks,t.paged=true∧t.mib=m
theorem tab_isSome {l:List (Nat×Nat)} {m:Nat}:(tab? l m).isSome=true↔m∈l.map (·.1):=by
 unfold tab?
 rw [Option.isSome_map,List.find?_isSome,List.mem_map]
 constructor
 ·rintro ⟨x,h1,h2⟩;exact⟨x,h1,by simpa using h2⟩
 ·rintro ⟨x,h1,h2⟩;exact⟨x,h1,by simpa using h2⟩
theorem tab_mem {l:List (Nat×Nat)} {m v:Nat} (h:tab? l m=some v):(m,v)∈l:=by
 unfold tab? at h
 obtain⟨x,h1,h2⟩:=Option.map_eq_some_iff.1 h
 have h3:=List.find?_some h1
 have h4:=List.mem_of_find?_eq_some h1
 obtain⟨k,y⟩:=x
 simp at h3 h2
 subst h3 h2
 exact h4
theorem tab_none {l:List (Nat×Nat)} {m:Nat} (h:(tab? l m).isSome=false):tab? l m=none:=by
 cases hx:tab? l m with
 | none=>rfl
 | some v=>rw [hx] at h;cases h
theorem tab_append {l l':List (Nat×Nat)} {m:Nat}:(tab? (l++l') m).isSome=((tab? l m).isSome || (tab? l' m).isSome):=by
 rw [Bool.eq_iff_iff,Bool.or_eq_true,tab_isSome,tab_isSome,tab_isSome,List.map_append,List.mem_append]
theorem Good.mib {n:Nat} {t:Tr} (h:Good n t) (hn:1≤n∧n≤7):t.mib<1024*Go.Proofs.YtmgjicnipgdjhaaGreatDoor.cnt n:=by
 have h1:=h.lt hn
 unfold Tr.mib Go.Proofs.YtmgjicnipgdjhaaGreatDoor.cnt
 split
 ·rename_i e;subst e
  have:2^(32-1)=2147483648:=by decide
  omega
 ·have:2^(32-n)≤2^30:=Nat.pow_le_pow_right (by decide) (by omega)
  omega
structure XI (fr:Nat) (G O:List Nat) (p:Pool) (l:List Qr) (ts:List (Nat×Nat)):Prop where
 ok:SlabOk l
 acc:Acc p (l.map Qr.f++G)
 tb:(ts.map (·.2)++O).Perm (tabs l)
 lt:p.first+p.u.length≤fr
theorem XI.tab_lt {fr:Nat} {G O:List Nat} {p:Pool} {l:List Qr} {ts:List (Nat×Nat)} (h:XI fr G O p l ts) {T:Nat} (hT:T∈tabs l):T<4*fr:=by
 obtain⟨q,hq,k,hk,_,rfl⟩:=mem_tabs.1 hT
 have:=h.acc.rg q.f (List.mem_append.2 (.inl (List.mem_map.2 ⟨q,hq,rfl⟩)))
 have:=h.lt
 omega
theorem XI.mem {fr:Nat} {G O:List Nat} {p:Pool} {l:List Qr} {ts:List (Nat×Nat)} (h:XI fr G O p l ts) {m T:Nat} (hT:tab? ts m=some T):T∈tabs l :=
 h.tb.mem_iff.1 (List.mem_append.2 (.inl (List.mem_map.2 ⟨_,tab_mem hT,rfl⟩)))
theorem XI.tl {fr:Nat} {G O:List Nat} {p:Pool} {l:List Qr} {ts:List (Nat×Nat)} (h:XI fr G O p l ts) {m T:Nat} (hT:tab? ts m=some T):T<4*fr:=h.tab_lt (h.mem hT)
theorem hook_ok {fr n a:Nat} {R:RootS} (hR:RootOk n a R) (hf:R.first+R.count≤fr) {m:Nat} (hm:m<1024*Go.Proofs.YtmgjicnipgdjhaaGreatDoor.cnt n):wErr fr (a+4*m)=0:=by
 have h1:=hR.key
 have h2:=hR.cnt
 unfold wErr
 rw [if_neg (by omega),if_neg]
 rw [h2] at hf
 have:R.first*4096+Go.Proofs.YtmgjicnipgdjhaaGreatDoor.cnt n*4096≤fr*4096:=by rw [←Nat.add_mul];exact Nat.mul_le_mul_right _ hf
 omega
theorem reps_good {n:Nat} {t:Tr} (h:Good n t):reps t.size=1∨reps t.size=16:=reps_right h.right
theorem aligned {t:Tr} (h:t.right=true):t.va%bytesOf t.size=0:=by
 obtain⟨h1,h2,_⟩:=right_parts h
 unfold place at h2
 simp only [Bool.and_eq_true,decide_eq_true_eq] at h2
 unfold bytesOf
 rw [if_pos h1]
 exact h2.1
theorem place_ok {fr n a:Nat} {R:RootS} (hn:1≤n∧n≤7) (hk:a=4096*R.first) (hf:R.first+Go.Proofs.YtmgjicnipgdjhaaGreatDoor.cnt n≤fr) {t:Tr} (ht:Good n t) (hp:t.paged=true→∃T,tab? R.tabs t.mib=some T∧T<4*fr) :
  ∀i,i<reps t.size→wErr fr (placeOf R a t+4*i)=0:=by
 intro i hi
 have hal:=aligned ht.right
 have hsz:=right_sized ht.right
 have hlt:=ht.lt hn
 have hen:=ht.en
 unfold placeOf
 split
 ·rename_i hpg
  obtain⟨T,hT,hT2⟩:=hp hpg
  rw [hT]
  simp only [Option.getD_some]
  unfold wErr
  have hi2:t.va/4096%256+i<256:=by
   unfold Tr.paged at hpg
   simp only [Bool.or_eq_true,decide_eq_true_eq] at hpg
   rcases hpg with e|e
   ·rw [e] at hi;have:reps 1=1:=by decide
    omega
   ·rw [e] at hi hal
    have h1:reps 2=16:=by decide
    have h2:bytesOf 2=65536:=by decide
    rw [h2] at hal
    omega
  rw [if_neg (by omega),if_neg (by omega)]
 ·rename_i hpg
  have hm:t.mib+i<1024*Go.Proofs.YtmgjicnipgdjhaaGreatDoor.cnt n:=by
   have h0:=ht.mib hn
   rcases sized_cases hsz with e|e|e|e
   ·exact absurd (by unfold Tr.paged;simp [e]) hpg
   ·exact absurd (by unfold Tr.paged;simp [e]) hpg
   ·rw [e] at hi;have:reps 3=1:=by decide
    omega
   ·rw [e] at hi hal
    have h1:reps 4=16:=by decide
    have h2:bytesOf 4=16777216:=by decide
    rw [h2] at hal
    have h3:t.mib%16=0:=by unfold Tr.mib;omega
    have h4:(1024*Go.Proofs.YtmgjicnipgdjhaaGreatDoor.cnt n)%16=0:=by omega
    omega
  unfold wErr
  have h2:R.first*4096+Go.Proofs.YtmgjicnipgdjhaaGreatDoor.cnt n*4096≤fr*4096:=by rw [←Nat.add_mul];exact Nat.mul_le_mul_right _ hf
  rw [if_neg (by omega),if_neg (by omega)]
theorem tab_wf {l:List (Nat×Nat)} {m:Nat} (h:(tab? l m).isSome=true):∃T,tab? l m=some T:=Option.isSome_iff_exists.1 h
theorem RootOk.paged {n a:Nat} {R:RootS} (hR:RootOk n a R) {t:Tr} (ht:t∈R.blocks) (hp:t.paged=true):∃T,tab? R.tabs t.mib=some T:=tab_wf ((hR.tk _).2 ⟨t,ht,hp,rfl⟩)
theorem got_snoc (got:List (Nat×Nat×Bool)) (x:Nat×Nat×Bool) (i:Nat):got? (got++[x]) i=(got? got i).or (if x.1=i then some x.2 else none):=by
 unfold got?
 rw [List.find?_append]
 cases hx:got.find? (fun x=>x.1==i) with
 | some y=>rfl
 | none =>
  simp only [Option.none_or,Option.map_none]
  by_cases e:x.1=i
  ·simp [e]
  ·simp [e]
theorem got_none {got:List (Nat×Nat×Bool)} {i:Nat} (h:∀g∈got,g.1≠i):got? got i=none:=by
 unfold got?
 rw [List.find?_eq_none.2 (fun g hg=>by simpa using h g hg)]
 rfl
theorem got_append {got more:List (Nat×Nat×Bool)} {i:Nat} (h:∀g∈more,g.1≠i):got? (got++more) i=got? got i:=by
 unfold got?
 have e:more.find? (fun x=>x.1==i)=none:=List.find?_eq_none.2 (fun g hg=>by simpa using h g hg)
 rw [List.find?_append,e,Option.or_none]
theorem TakeI.at {tabs:List (Nat×Nat)} {p0 p:Pool} {l0 l:List Qr} {ts:List Tr} {got:List (Nat×Nat×Bool)} {mine:List (Nat×Nat)} (h:TakeI tabs p0 l0 ts got mine p l) :
  ∀i t,ts[i]?=some t→∃got1 mine1 p1 l1 more,TakeI tabs p0 l0 (ts.take i) got1 mine1 p1 l1∧got=got1++more∧(∀g∈more,i≤g.1) ∧
   ((needs tabs mine1 t=false∧got? got i=none)∨(needs tabs mine1 t=true∧∃r f p2 l2,STake p1 l1 r 0 p2 l2∧got? got i=some (r,f))):=by
 induction h with
 | nil=>intro i t h;simp at h
 | @skip ts got mine p l t h hn ih =>
  intro i u hu
  rcases Nat.lt_or_ge i ts.length with hi|hi
  ·rw [List.getElem?_append_left hi] at hu
   rw [List.take_append_of_le_length (by omega)]
   exact ih i u hu
  ·rw [List.getElem?_append_right hi] at hu
   have hi2:i=ts.length:=by
    have:=(List.getElem?_eq_some_iff.1 hu).1
    simp at this;omega
   subst hi2
   simp at hu
   subst hu
   rw [List.take_left]
   exact⟨got,mine,p,l,[],h,by simp,by simp,.inl ⟨hn,got_none fun g hg=>by have:=h.idx g hg;omega⟩⟩
 | @one ts got mine p p' l l' t r h hn ho hs ih =>
  intro i u hu
  rcases Nat.lt_or_ge i ts.length with hi|hi
  ·rw [List.getElem?_append_left hi] at hu
   rw [List.take_append_of_le_length (by omega)]
   obtain⟨g1,m1,p1,l1,more,k1,k2,k3,k4⟩:=ih i u hu
   refine⟨g1,m1,p1,l1,more++[(ts.length,r,!decide (r/4∈l.map Qr.f))],k1,by rw [k2,List.append_assoc],fun g hg=>?_,?_⟩
   ·rcases List.mem_append.1 hg with hg|hg
    ·exact k3 g hg
    ·rw [List.mem_singleton.1 hg];exact Nat.le_of_lt hi
   ·rw [got_append fun g hg=>by rw [List.mem_singleton.1 hg];dsimp only;omega]
    exact k4
  ·rw [List.getElem?_append_right hi] at hu
   have hi2:i=ts.length:=by
    have:=(List.getElem?_eq_some_iff.1 hu).1
    simp at this;omega
   subst hi2
   simp at hu
   subst hu
   rw [List.take_left]
   refine⟨got,mine,p,l,[(ts.length,r,!decide (r/4∈l.map Qr.f))],h,rfl,fun g hg=>by rw [List.mem_singleton.1 hg];exact Nat.le_refl _,.inr ⟨hn,r,!decide (r/4∈l.map Qr.f),p',l',hs,?_⟩⟩
   rw [got_snoc,got_none fun g hg=>by have:=h.idx g hg;omega]
   simp
theorem needs_split {tabs mine:List (Nat×Nat)} {t:Tr}:needs tabs mine t=(t.paged && !(tab? (tabs++mine) t.mib).isSome):=by
 unfold needs
 rw [tab_append]
 cases t.paged<;>cases (tab? tabs t.mib).isSome<;>cases (tab? mine t.mib).isSome<;>rfl
theorem TakeI.xi {fr:Nat} {G O:List Nat} {tabs:List (Nat×Nat)} {p0 p:Pool} {l0 l:List Qr} {ts:List Tr} {got:List (Nat×Nat×Bool)} {mine:List (Nat×Nat)} (h:TakeI tabs p0 l0 ts got mine p l) (hX:XI fr G O p0 l0 tabs) (hfr:fr≤65536) :
  XI fr G O p l (tabs++mine)∧p.first=p0.first∧p.u.length=p0.u.length:=by
 induction h with
 | nil=>simpa using hX
 | skip h hn ih=>exact ih
 | @one ts got mine p p' l l' t r h hn ho hs ih =>
  obtain⟨hx,h1,h2⟩:=ih
  obtain⟨k1,k2,k3,k4,k5,_⟩:=hs.acc hx.ok hx.acc (by have:=hx.lt;omega)
  refine⟨⟨k2,k1,?_,by have:=hx.lt;omega⟩,by omega,by omega⟩
  refine List.Perm.trans ?_ ((hx.tb.cons r).trans (k5 rfl).symm)
  simp only [List.map_append,List.map_cons,List.map_nil,List.append_assoc,List.singleton_append]
  have:(tabs.map (·.2)++(mine.map (·.2)++r :: O)).Perm (r :: (tabs.map (·.2)++(mine.map (·.2)++O))):=by
   rw [←List.append_assoc,←List.append_assoc]
   exact List.perm_middle
  exact this
theorem putR_first (R:RootS) (g:Option (Nat×Bool)) (t:Tr):(putR R g t).first=R.first∧(putR R g t).count=R.count:=by
 unfold putR addTab
 cases g<;>exact⟨rfl,rfl⟩
theorem putR_blocks (R:RootS) (g:Option (Nat×Bool)) (t:Tr):(putR R g t).blocks=insAt R.blocks (findR R.blocks t.va).1 t:=by
 unfold putR addTab
 cases g<;>rfl
theorem putR_tabs (R:RootS) (g:Option (Nat×Bool)) (t:Tr):(putR R g t).tabs=R.tabs++(match g with|some (T,_)=>[(t.mib,T)] | none=>[]):=by
 unfold putR addTab
 cases g with
 | none=>simp
 | some x=>rfl
theorem mem_ins_ex {R:List Tr} {i m:Nat} {t:Tr}:(∃b∈insAt R i t,b.paged=true∧b.mib=m)↔(t.paged=true∧t.mib=m)∨∃b∈R,b.paged=true∧b.mib=m:=by
 constructor
 ·rintro ⟨b,hb,h⟩
  rcases List.mem_cons.1 ((insAt_perm _ _ _).mem_iff.1 hb) with rfl|hb
  ·exact .inl h
  ·exact .inr ⟨b,hb,h⟩
 ·rintro (h|⟨b,hb,h⟩)
  ·exact⟨t,(insAt_perm _ _ _).mem_iff.2 (by simp),h⟩
  ·exact⟨b,(insAt_perm _ _ _).mem_iff.2 (by simp [hb]),h⟩
theorem RootOk.putNone {n a:Nat} {R:RootS} (hR:RootOk n a R) {t:Tr} (ht:Good n t) (hc:∀b∈R.blocks,clashB t b=false) (hp:t.paged=true→(tab? R.tabs t.mib).isSome=true):RootOk n a (putR R none t):=by
 obtain⟨e1,e2⟩:=putR_first R none t
 refine⟨by rw [e1];exact hR.key,by rw [e2];exact hR.cnt,by rw [putR_blocks];exact hR.blk.ins ht hc,by rw [putR_tabs];simpa using hR.nd,fun m=>?_⟩
 rw [putR_tabs,putR_blocks,mem_ins_ex,List.append_nil,hR.tk]
 constructor
 ·exact .inr
 ·rintro (⟨h1,rfl⟩|h)
  ·exact (hR.tk _).1 (hp h1)
  ·exact h
theorem RootOk.putSome {n a:Nat} {R:RootS} (hR:RootOk n a R) {t:Tr} (ht:Good n t) (hc:∀b∈R.blocks,clashB t b=false) (hp:t.paged=true) (hn:(tab? R.tabs t.mib).isSome=false) (T:Nat) (f:Bool):RootOk n a (putR R (some (T,f)) t):=by
 obtain⟨e1,e2⟩:=putR_first R (some (T,f)) t
 refine⟨by rw [e1];exact hR.key,by rw [e2];exact hR.cnt,by rw [putR_blocks];exact hR.blk.ins ht hc,?_,fun m=>?_⟩
 ·rw [putR_tabs,List.map_append,List.nodup_append]
  refine⟨hR.nd,by simp,fun x hx y hy e=>?_⟩
  simp only [List.map_cons,List.map_nil,List.mem_singleton] at hy
  subst hy;subst e
  rw [tab_isSome.2 hx] at hn;cases hn
 ·rw [putR_tabs,putR_blocks,mem_ins_ex,tab_append,Bool.or_eq_true,hR.tk,tab_isSome]
  simp only [List.map_cons,List.map_nil,List.mem_singleton]
  constructor
  ·rintro (h|h)
   ·exact .inr h
   ·exact .inl ⟨hp,h.symm⟩
  ·rintro (h|h)
   ·exact .inr h.2.symm
   ·exact .inl h
theorem put_run {n a:Nat} {R:RootS} {M:Mst} {p0 p:Pool} {l0 l:List Qr} {ts:List Tr} {got:List (Nat×Nat×Bool)} {mine:List (Nat×Nat)} (h:TakeI R.tabs p0 l0 ts got mine p l) (hR:RootOk n a R)
  (hg:∀t∈ts,Good n t) (hc:∀t∈ts,∀b∈R.blocks,clashB t b=false) (hp:ts.Pairwise fun a b=>clashB b a=false) :
  ∀more,(∀g∈more,ts.length≤g.1)→RootOk n a (putN a (got++more) ts 0 (R,M)).1∧(putN a (got++more) ts 0 (R,M)).1.tabs=R.tabs++mine∧(putN a (got++more) ts 0 (R,M)).1.blocks.Perm (ts++R.blocks) ∧
   (putN a (got++more) ts 0 (R,M)).1.first=R.first:=by
 induction h with
 | nil=>intro more _;exact⟨hR,by simp [putN],by simp [putN],rfl⟩
 | @skip ts got mine p l t h hn ih =>
  intro more hm
  have hm':∀g∈more,ts.length≤g.1:=fun g hg=>by have:=hm g hg;simp at this;omega
  have hpp:=List.pairwise_append.1 hp
  obtain⟨k1,k2,k3,k4⟩:=ih (fun t ht=>hg t (by simp [ht])) (fun t ht=>hc t (by simp [ht])) hpp.1 more hm'
  rw [putN_snoc]
  have hgn:got? (got++more) (0+ts.length)=none:=by
   rw [Nat.zero_add]
   exact got_none fun g hg=>by
    rcases List.mem_append.1 hg with hg|hg
    ·have:=h.idx g hg;omega
    ·have:=hm g hg;simp at this;omega
  rw [hgn]
  dsimp only
  have ht:=hg t (by simp)
  have hct:∀b∈(putN a (got++more) ts 0 (R,M)).1.blocks,clashB t b=false:=fun b hb=>by
   rcases List.mem_append.1 (k3.mem_iff.1 hb) with hb|hb
   ·exact hpp.2.2 b hb t (by simp)
   ·exact hc t (by simp) b hb
  refine⟨k1.putNone ht hct fun hpg=>?_,by rw [putR_tabs,k2];simp,?_,by rw [(putR_first _ _ _).1];exact k4⟩
  ·rw [k2]
   rw [needs_split,hpg] at hn
   simpa using hn
  ·rw [putR_blocks]
   refine (insAt_perm _ _ _).trans ((k3.cons t).trans ?_)
   rw [List.append_assoc]
   exact List.perm_middle.symm
 | @one ts got mine p p' l l' t r h hn ho hs ih =>
  intro more hm
  have hm':∀g∈(ts.length,r,!decide (r/4∈l.map Qr.f)) :: more,ts.length≤g.1:=fun g hg=>by
   rcases List.mem_cons.1 hg with rfl|hg
   ·exact Nat.le_refl _
   ·have:=hm g hg;simp at this;omega
  have hpp:=List.pairwise_append.1 hp
  obtain⟨k1,k2,k3,k4⟩:=ih (fun t ht=>hg t (by simp [ht])) (fun t ht=>hc t (by simp [ht])) hpp.1 _ hm'
  rw [List.append_assoc,List.singleton_append,putN_snoc]
  have hgn:got? (got++(ts.length,r,!decide (r/4∈l.map Qr.f)) :: more) (0+ts.length)=some (r,!decide (r/4∈l.map Qr.f)):=by
   rw [Nat.zero_add]
   have:got++(ts.length,r,!decide (r/4∈l.map Qr.f)) :: more=(got++[(ts.length,r,!decide (r/4∈l.map Qr.f))])++more:=by simp
   rw [this,got_append (fun g hg=>by have:=hm g hg;simp at this;omega),got_snoc,got_none fun g hg=>by have:=h.idx g hg;omega]
   simp
  rw [hgn]
  dsimp only
  have ht:=hg t (by simp)
  have hct:∀b∈(putN a (got++(ts.length,r,!decide (r/4∈l.map Qr.f)) :: more) ts 0 (R,M)).1.blocks,clashB t b=false:=fun b hb=>by
   rcases List.mem_append.1 (k3.mem_iff.1 hb) with hb|hb
   ·exact hpp.2.2 b hb t (by simp)
   ·exact hc t (by simp) b hb
  rw [needs_split] at hn
  simp only [Bool.and_eq_true,Bool.not_eq_true'] at hn
  refine⟨k1.putSome ht hct hn.1 (by rw [k2];exact hn.2) _ _,by rw [putR_tabs,k2];simp,?_,by rw [(putR_first _ _ _).1];exact k4⟩
  ·rw [putR_blocks]
   refine (insAt_perm _ _ _).trans ((k3.cons t).trans ?_)
   rw [List.append_assoc]
   exact List.perm_middle.symm
theorem put_pre {n a fr:Nat} {G O:List Nat} {R:RootS} {M:Mst} {p0 p:Pool} {l0 l:List Qr} {ts:List Tr} {got:List (Nat×Nat×Bool)} {mine:List (Nat×Nat)} (hn:1≤n∧n≤7) (hfr:fr≤65536) (hX:XI fr G O p0 l0 R.tabs) (hR:RootOk n a R) (hf:R.first+R.count≤fr)
  (hmay:MayE n R.blocks ts 0) (h:TakeI R.tabs p0 l0 ts got mine p l):∀i t,ts[i]?=some t→PutPre fr a (putN a got (ts.take i) 0 (R,M)).1 (got? got i) t:=by
 intro i t hi
 obtain⟨m1,m2,m3⟩:=may_pair hmay
 obtain⟨g1,mine1,p1,l1,more,k1,k2,k3,k4⟩:=h.at i t hi
 have hil:=(List.getElem?_eq_some_iff.1 hi).1
 have htm:=List.mem_of_getElem? hi
 have htl:(ts.take i).length=i:=by rw [List.length_take];omega
 obtain⟨r1,r2,r3,r4⟩:=put_run (M:=M) k1 hR (fun t ht=>m1 t (List.mem_of_mem_take ht)) (fun t ht=>m2 t (List.mem_of_mem_take ht)) (m3.sublist (List.take_sublist _ _)) more (fun g hg=>by rw [htl];exact k3 g hg)
 rw [←k2] at r1 r2 r3 r4
 obtain⟨x1,x2,x3⟩:=k1.xi hX hfr
 have hgt:=m1 t htm
 have hcn:=hR.cnt
 have hbl:=r1.blk
 have key:∀(g:Option (Nat×Bool)) (p2:Pool) (l2:List Qr),XI fr G O p2 l2 (addTab (putN a got (ts.take i) 0 (R,M)).1 g t).tabs→(addTab (putN a got (ts.take i) 0 (R,M)).1 g t).first=(putN a got (ts.take i) 0 (R,M)).1.first →
   (t.paged=true→(tab? (addTab (putN a got (ts.take i) 0 (R,M)).1 g t).tabs t.mib).isSome=true)→(∀T f,g=some (T,f)→tab? (putN a got (ts.take i) 0 (R,M)).1.tabs t.mib=none∧T<4*fr∧wErr fr (a+4*t.mib)=0) →
   PutPre fr a (putN a got (ts.take i) 0 (R,M)).1 g t:=fun g p2 l2 hx2 hfi hpg htab =>
  ⟨hgt.right,hgt.wf hn,htab,place_ok hn (by rw [hfi];exact r1.key) (by rw [hfi,r4,←hcn];exact hf) hgt (fun hp=>by obtain⟨T,hT⟩:=tab_wf (hpg hp);exact⟨T,hT,hx2.tl hT⟩),
   fun v hv=>by have:=hx2.tl hv;omega,hbl.sorted,fun b hb=>(hbl.good b hb).wf hn,by have:=hbl.len hn;omega⟩
 rcases k4 with ⟨n1,n2⟩|⟨n1,r,f,p2,l2,n2,n3⟩
 ·rw [n2]
  refine key none p1 l1 (by show XI fr G O p1 l1 (putN a got (ts.take i) 0 (R,M)).1.tabs;rw [r2];exact x1) rfl (fun hp=>?_) (fun T f h=>by cases h)
  show (tab? (putN a got (ts.take i) 0 (R,M)).1.tabs t.mib).isSome=true
  rw [needs_split,hp] at n1
  rw [r2]
  simpa using n1
 ·rw [n3]
  rw [needs_split] at n1
  simp only [Bool.and_eq_true,Bool.not_eq_true'] at n1
  have hk:=TakeI.one (t:=t) k1 (by rw [needs_split];simp [n1.1,n1.2]) x1.ok n2
  obtain⟨y1,y2,y3⟩:=hk.xi hX hfr
  have htabs:(addTab (putN a got (ts.take i) 0 (R,M)).1 (some (r,f)) t).tabs=R.tabs++(mine1++[(t.mib,r)]):=by
   show (putN a got (ts.take i) 0 (R,M)).1.tabs++[(t.mib,r)]=_
   rw [r2,List.append_assoc]
  refine key (some (r,f)) p2 l2 (by rw [htabs];exact y1) rfl (fun hp=>?_) (fun T f' h=>?_)
  ·rw [htabs,tab_isSome];simp
  ·injection h with h;injection h with h1 h2
   subst h1 h2
   refine⟨by rw [r2];exact tab_none n1.2,?_,hook_ok hR hf (hgt.mib hn)⟩
   refine y1.tab_lt (y1.tb.mem_iff.1 ?_)
   simp
theorem mem_idx {l:List Tr} {t:Tr} (h:t∈l):∃i:Nat,l[i]?=some t:=by
 obtain⟨i,hi,rfl⟩:=List.getElem_of_mem h
 exact⟨i,List.getElem?_eq_getElem hi⟩
theorem cutR_mem {n a:Nat} {R:RootS} (hR:RootOk n a R) {t:Tr} (ht:t∈R.blocks) {b:Tr}:b∈(cutR R t).blocks↔b∈R.blocks∧b.va≠t.va:=by
 obtain⟨i,hi⟩:=mem_idx ht
 have hs:=hR.blk.sorted
 unfold cutR
 dsimp only
 rw [findR_mem hs hi]
 exact erase_mem hs hi
theorem va_inj {n:Nat} {l:List Tr} (h:BlkOk n l) {a b:Tr} (ha:a∈l) (hb:b∈l) (e:a.va=b.va):a=b:=by
 obtain⟨i,hi⟩:=mem_idx ha
 obtain⟨j,hj⟩:=mem_idx hb
 have h1:=findR_mem h.sorted hi
 have h2:=findR_mem h.sorted hj
 rw [e,h2] at h1
 injection h1 with h1 _
 rw [h1,hi] at hj
 exact Option.some.inj hj
theorem mem_untab {l:List (Nat×Nat)} {m k:Nat}:(tab? (l.filter fun x=>decide (x.1≠m)) k).isSome=true↔k≠m∧(tab? l k).isSome=true:=by
 rw [tab_isSome,tab_isSome]
 simp only [List.mem_map,List.mem_filter,decide_eq_true_eq]
 constructor
 ·rintro ⟨x,⟨h1,h2⟩,rfl⟩;exact⟨h2,x,h1,rfl⟩
 ·rintro ⟨h,x,h1,rfl⟩;exact⟨x,⟨h1,h⟩,rfl⟩
theorem untab_perm {l:List (Nat×Nat)} (hnd:(l.map (·.1)).Nodup) {m T:Nat} (h:(m,T)∈l):l.Perm ((m,T) :: l.filter fun x=>decide (x.1≠m)):=by
 induction l with
 | nil=>simp at h
 | cons x r ih =>
  rw [List.map_cons,List.nodup_cons] at hnd
  by_cases e:x.1=m
  ·have hx:x=(m,T):=by
    rcases List.mem_cons.1 h with h|h
    ·exact h.symm
    ·exact absurd (List.mem_map.2 ⟨_,h,e.symm⟩) hnd.1
   have hr:(x :: r).filter (fun x=>decide (x.1≠m))=r:=by
    rw [List.filter_cons,if_neg (by simp [e]),List.filter_eq_self]
    intro y hy
    have:y.1≠m:=fun h=>hnd.1 (List.mem_map.2 ⟨y,hy,by rw [h,e]⟩)
    simpa using this
   rw [hr,hx]
  ·have hm:(m,T)∈r:=by
    rcases List.mem_cons.1 h with h|h
    ·exact absurd (by rw [←h]) e
    ·exact h
   rw [List.filter_cons,if_pos (by simpa using e)]
   exact ((ih hnd.2 hm).cons x).trans (List.Perm.swap _ _ _)
theorem XI.drop {fr:Nat} {G O:List Nat} {p p':Pool} {l l':List Qr} {ts:List (Nat×Nat)} (h:XI fr G O p l ts) (hnd:(ts.map (·.1)).Nodup) {m T e:Nat} (hT:tab? ts m=some T) (hd:SDrop p l (T:Int) e p' l') :
  e=0∧XI fr G O p' l' (ts.filter fun x=>decide (x.1≠m))∧p'.first=p.first∧p'.u.length=p.u.length:=by
 obtain⟨k1,k2,k3,k4,k5,k6⟩:=hd.acc h.ok h.acc (h.mem hT)
 refine⟨k1,⟨k3,k2,?_,by have:=h.lt;omega⟩,k4,k5⟩
 have e1:=((untab_perm hnd (tab_mem hT)).map (·.2)).append_right O
 have e2:=(e1.symm.trans h.tb).trans k6
 exact e2.cons_inv
theorem nd_filter {l:List (Nat×Nat)} (h:(l.map (·.1)).Nodup) (m:Nat):((l.filter fun x=>decide (x.1≠m)).map (·.1)).Nodup:=h.sublist ((List.filter_sublist).map _)
theorem lastIn_iff {l:List Tr} {t:Tr}:lastIn l t=true↔t.paged=true∧∀b∈l,¬(b.paged=true∧b.mib=t.mib):=by
 unfold lastIn
 rw [Bool.and_eq_true,Bool.not_eq_true',List.any_eq_false]
 simp only [Bool.and_eq_true,decide_eq_true_eq]
theorem CutStep.ok {n a fr:Nat} {G O:List Nat} {asid:Int} {t:Tr} {x y:Xs} (h:CutStep a asid t x y) (hR:RootOk n a x.R) (hX:XI fr G O x.p x.l x.R.tabs) (ht:t∈x.R.blocks) :
  RootOk n a y.R∧XI fr G O y.p y.l y.R.tabs∧y.R.blocks=(cutR x.R t).blocks∧y.R.first=x.R.first∧y.p.first=x.p.first∧y.p.u.length=x.p.u.length:=by
 have hbl:BlkOk n (cutR x.R t).blocks:=hR.blk.sub (List.eraseIdx_sublist _ _)
 cases h with
 | keep h =>
  refine⟨⟨hR.key,hR.cnt,hbl,hR.nd,fun m=>?_⟩,hX,rfl,rfl,rfl,rfl⟩
  show (tab? x.R.tabs m).isSome=true↔∃b∈(cutR x.R t).blocks,b.paged=true∧b.mib=m
  rw [hR.tk]
  constructor
  ·rintro ⟨b,hb,hp,rfl⟩
   by_cases e:b.va=t.va
   ·have:=va_inj hR.blk hb ht e
    subst this
    have h2:¬(lastIn (cutR x.R b).blocks b=true):=by rw [h];decide
    rw [lastIn_iff] at h2
    obtain⟨c,hc⟩:=Classical.not_forall.1 (fun hh=>h2 ⟨hp,hh⟩)
    obtain⟨hc1,hc2⟩:=Classical.not_imp.1 hc
    have hc3:=Classical.not_not.1 hc2
    exact⟨c,hc1,hc3⟩
   ·exact⟨b,(cutR_mem hR ht).2 ⟨hb,e⟩,hp,rfl⟩
  ·rintro ⟨b,hb,h⟩
   exact⟨b,((cutR_mem hR ht).1 hb).1,h⟩
 | shut h T e p' l' hT hd =>
  obtain⟨k1,k2,k3,k4⟩:=hX.drop hR.nd hT hd
  refine⟨⟨hR.key,hR.cnt,hbl,nd_filter hR.nd _,fun m=>?_⟩,k2,rfl,rfl,k3,k4⟩
  show (tab? (x.R.tabs.filter fun x=>decide (x.1≠t.mib)) m).isSome=true↔∃b∈(cutR x.R t).blocks,b.paged=true∧b.mib=m
  rw [mem_untab,hR.tk]
  rw [lastIn_iff] at h
  constructor
  ·rintro ⟨hne,b,hb,hp,rfl⟩
   refine⟨b,(cutR_mem hR ht).2 ⟨hb,fun e=>hne ?_⟩,hp,rfl⟩
   rw [va_inj hR.blk hb ht e]
  ·rintro ⟨b,hb,hp,rfl⟩
   exact⟨fun e=>h.2 b hb ⟨hp,e⟩,b,((cutR_mem hR ht).1 hb).1,hp,rfl⟩
theorem cut_run {n a fr:Nat} {G O:List Nat} {asid:Int} {x y:Xs} {ts:List Tr} (h:CutRun a asid x ts y) (hR:RootOk n a x.R) (hX:XI fr G O x.p x.l x.R.tabs) :
  ∀rest,(∀t∈ts++rest,t∈x.R.blocks)→((ts++rest).map (·.va)).Nodup→RootOk n a y.R∧XI fr G O y.p y.l y.R.tabs∧(∀t∈rest,t∈y.R.blocks)∧(∀t,t∈y.R.blocks↔t∈x.R.blocks∧t∉ts)∧y.R.first=x.R.first ∧
   y.p.first=x.p.first∧y.p.u.length=x.p.u.length:=by
 induction h with
 | nil=>intro rest h1 _;exact⟨hR,hX,fun t ht=>h1 t (by simp [ht]),fun t=>by simp,rfl,rfl,rfl⟩
 | @snoc ts y z t h hs ih =>
  intro rest h1 h2
  obtain⟨k1,k2,k3,k4,k5,k6,k7⟩:=ih (t :: rest) (fun u hu=>h1 u (by simpa using hu)) (by simpa using h2)
  obtain⟨s1,s2,s3,s4,s5,s6⟩:=hs.ok k1 k2 (k3 t (by simp))
  have hmem:∀b,b∈z.R.blocks↔b∈y.R.blocks∧b.va≠t.va:=fun b=>by rw [s3];exact cutR_mem k1 (k3 t (by simp))
  refine⟨s1,s2,fun u hu=>(hmem u).2 ⟨k3 u (by simp [hu]),fun e=>?_⟩,fun u=>?_,by omega,by omega,by omega⟩
  ·simp only [List.map_append,List.map_cons,List.map_nil,List.append_assoc,List.singleton_append] at h2
   have:=(List.nodup_append.1 h2).2.1
   rw [List.nodup_cons] at this
   exact this.1 (List.mem_map.2 ⟨u,hu,e⟩)
  ·rw [hmem,k4]
   have htx:=h1 t (by simp)
   constructor
   ·rintro ⟨⟨h3,h4⟩,h5⟩
    exact⟨h3,fun h=>by
     rcases List.mem_append.1 h with h|h
     ·exact h4 h
     ·rw [List.mem_singleton.1 h] at h5;exact h5 rfl⟩
   ·rintro ⟨h3,h4⟩
    refine⟨⟨h3,fun h=>h4 (by simp [h])⟩,fun e=>h4 ?_⟩
    rw [va_inj hR.blk h3 htx e];simp
theorem cut_pre {n a fr:Nat} {G O:List Nat} {R:RootS} {p:Pool} {l:List Qr} (hn:1≤n∧n≤7) (hfr:fr≤65536) (hX:XI fr G O p l R.tabs) (hR:RootOk n a R) (hf:R.first+R.count≤fr) {t:Tr} (ht:t∈R.blocks):CutPre fr a R t:=by
 have hg:=hR.blk.good t ht
 obtain⟨i,hi⟩:=mem_idx ht
 exact⟨reps_good hg,hg.wf hn,fun v hv=>by have:=hX.tl hv;omega,place_ok hn hR.key (by rw [←hR.cnt];exact hf) hg (fun hp=>by obtain⟨T,hT⟩:=hR.paged ht hp;exact⟨T,hT,hX.tl hT⟩),
  hR.blk.sorted,fun b hb=>(hR.blk.good b hb).wf hn,by have:=hR.blk.len hn;omega,by rw [findR_mem hR.blk.sorted hi];exact (List.getElem?_eq_some_iff.1 hi).1,fun hp=>hR.paged ht hp,hook_ok hR hf (hg.mib hn)⟩
theorem chg_pre {n a fr:Nat} {G O:List Nat} {R:RootS} {p:Pool} {l:List Qr} (hn:1≤n∧n≤7) (hfr:fr≤65536) (hX:XI fr G O p l R.tabs) (hR:RootOk n a R) (hf:R.first+R.count≤fr) {t:Tr} (ht:t∈R.blocks):ChgPre fr a R t:=by
 have h:=cut_pre hn hfr hX hR hf ht
 exact⟨h.reps,h.wf,h.tl,h.place,h.sorted,h.wfs,h.len,h.ix⟩
theorem zero_pre {n a fr:Nat} {G O:List Nat} {R:RootS} {p:Pool} {l:List Qr} (hn:1≤n∧n≤7) (hfr:fr≤65536) (hX:XI fr G O p l R.tabs) (hR:RootOk n a R) (hf:R.first+R.count≤fr) {t:Tr} (ht:t∈R.blocks):ZeroPre fr a R t:=by
 have h:=cut_pre hn hfr hX hR hf ht
 exact⟨h.reps,h.wf,h.tl,h.place⟩
theorem leaf_good {n:Nat} {t:Tr} {asid ap:Int} {bits:Nat} {ng xn:Bool} (h:Good n t) (hb:¬badCut asid ap bits ng):Good n (t.leaf ap bits ng xn):=by
 unfold badCut at hb
 have hng:ng=true:=by
  cases ng
  ·exact absurd (Or.inr (Or.inr (Or.inr (Or.inr (Or.inr rfl))))) hb
  ·rfl
 refine⟨?_,hng,h.en⟩
 have hr:=h.right
 simp only [not_or,Int.not_lt,Nat.not_lt] at hb
 obtain⟨_,_,b1,b2,b3,_⟩:=hb
 unfold Tr.right blkOk leafOk at hr ⊢
 simp only [Bool.and_eq_true,decide_eq_true_eq] at hr
 simp only [Bool.and_eq_true,decide_eq_true_eq]
 exact⟨hr.1,hr.2.1,⟨(by omega:ap≥0),(by omega:ap≤7)⟩,(by omega:bits≤63)⟩
theorem chgR_ok {n a:Nat} {R:RootS} (hR:RootOk n a R) {t t':Tr} (ht:t∈R.blocks) (hg:Good n t') (hv:t'.va=t.va) (hz:t'.size=t.size) (hd:t'.dom=t.dom) :
  RootOk n a (chgR R t t')∧∀b,b∈(chgR R t t').blocks↔b=t'∨(b∈R.blocks∧b.va≠t.va):=by
 obtain⟨i,hi⟩:=mem_idx ht
 have hil:=(List.getElem?_eq_some_iff.1 hi).1
 have e:(chgR R t t').blocks=R.blocks.set i t':=by
  unfold chgR
  dsimp only
  rw [findR_mem hR.blk.sorted hi]
 have hbl:BlkOk n (R.blocks.set i t'):=hR.blk.set hi hg hv hz hd
 have hmem:∀b,b∈R.blocks.set i t'↔b=t'∨(b∈R.blocks∧b.va≠t.va):=fun b=>by
  have hi2:(R.blocks.set i t')[i]?=some t':=by simp [hil]
  constructor
  ·intro hb
   rcases List.mem_or_eq_of_mem_set hb with h|h
   ·by_cases e:b.va=t.va
    ·exact .inl (va_inj hbl hb (List.mem_of_getElem? hi2) (by rw [e,hv]))
    ·exact .inr ⟨h,e⟩
   ·exact .inl h
  ·rintro (rfl|⟨h1,h2⟩)
   ·exact List.mem_of_getElem? hi2
   ·obtain⟨j,hj⟩:=mem_idx h1
    refine List.mem_of_getElem? (i:=j) ?_
    rw [List.getElem?_set,if_neg (fun e=>h2 ?_)]
    ·exact hj
    ·subst e;rw [hi] at hj;injection hj with hj;rw [hj]
 refine⟨⟨hR.key,hR.cnt,by rw [e];exact hbl,hR.nd,fun m=>?_⟩,fun b=>by rw [e];exact hmem b⟩
 show (tab? R.tabs m).isSome=true↔∃b∈(chgR R t t').blocks,b.paged=true∧b.mib=m
 rw [e,hR.tk]
 have hpg:t'.paged=t.paged∧t'.mib=t.mib:=by unfold Tr.paged Tr.mib;rw [hz,hv];exact⟨rfl,rfl⟩
 constructor
 ·rintro ⟨b,hb,h1,h2⟩
  by_cases e:b.va=t.va
  ·have:=va_inj hR.blk hb ht e
   subst this
   exact⟨t',(hmem _).2 (.inl rfl),by rw [hpg.1];exact h1,by rw [hpg.2];exact h2⟩
  ·exact⟨b,(hmem _).2 (.inr ⟨hb,e⟩),h1,h2⟩
 ·rintro ⟨b,hb,h1,h2⟩
  rcases (hmem _).1 hb with rfl|⟨hb,_⟩
  ·exact⟨t,ht,by rw [←hpg.1];exact h1,by rw [←hpg.2];exact h2⟩
  ·exact⟨b,hb,h1,h2⟩
theorem chg_run {n a:Nat} {asid:Int} {f:Tr→Tr} (hf:∀t,Good n t→Good n (f t)) (hv:∀t,(f t).va=t.va) (hz:∀t,(f t).size=t.size) (hd:∀t,(f t).dom=t.dom) :
  ∀(ts:List Tr) (s:RootS×Mst),RootOk n a s.1→(∀t∈ts,t∈s.1.blocks)→(ts.map (·.va)).Nodup→RootOk n a (chgN a asid f ts s).1∧(chgN a asid f ts s).1.tabs=s.1.tabs∧(chgN a asid f ts s).1.first=s.1.first ∧
   (∀b,b∈(chgN a asid f ts s).1.blocks↔(b∈s.1.blocks∧b∉ts)∨∃t∈ts,b=f t)
 | [],s,hR,_,_=>⟨hR,rfl,rfl,fun b=>by simp [chgN]⟩
 | t :: r,s,hR,hm,hnd=>by
  have ht:=hm t (by simp)
  obtain⟨k1,k2⟩:=chgR_ok hR (t':=f t) ht (hf t (hR.blk.good t ht)) (hv t) (hz t) (hd t)
  rw [List.map_cons,List.nodup_cons] at hnd
  have hne:∀u∈r,u.va≠t.va:=fun u hu e=>hnd.1 (List.mem_map.2 ⟨u,hu,e⟩)
  obtain⟨m1,m2,m3,m4⟩:=chg_run hf hv hz hd r (chgR s.1 t (f t),chgM a asid s.1 s.2 t (f t)) k1 (fun u hu=>(k2 u).2 (.inr ⟨hm u (by simp [hu]),hne u hu⟩)) hnd.2
  refine⟨m1,m2,m3,fun b=>?_⟩
  show b∈(chgN a asid f r (chgR s.1 t (f t),chgM a asid s.1 s.2 t (f t))).1.blocks↔_
  rw [m4]
  dsimp only
  rw [k2]
  constructor
  ·rintro (⟨h1|⟨h1,h2⟩,h3⟩|⟨u,hu,h⟩)
   ·exact .inr ⟨t,by simp,h1⟩
   ·refine .inl ⟨h1,fun h=>?_⟩
    rcases List.mem_cons.1 h with h|h
    ·rw [h] at h2;exact h2 rfl
    ·exact h3 h
   ·exact .inr ⟨u,by simp [hu],h⟩
  ·rintro (⟨h1,h2⟩|⟨u,hu,h⟩)
   ·refine .inl ⟨.inr ⟨h1,fun e=>h2 ?_⟩,fun h=>h2 (by simp [h])⟩
    rw [va_inj hR.blk h1 ht e];simp
   ·rcases List.mem_cons.1 hu with rfl|hu
    ·refine .inl ⟨.inl h,fun hb=>?_⟩
     have:=hne b hb
     rw [h,hv] at this
     exact this rfl
    ·exact .inr ⟨u,hu,h⟩
theorem shut_run {n a fr:Nat} {G O:List Nat} {x y:Xs} {ms:List Nat} (h:ShutRun a x ms y) (hnd:(x.R.tabs.map (·.1)).Nodup) (hX:XI fr G O x.p x.l x.R.tabs) :
  (y.R.tabs.map (·.1)).Nodup∧XI fr G O y.p y.l y.R.tabs∧y.R.first=x.R.first∧y.R.count=x.R.count∧y.p.first=x.p.first∧y.p.u.length=x.p.u.length∧∀k,(tab? y.R.tabs k).isSome=true↔(tab? x.R.tabs k).isSome=true∧k∉ms:=by
 induction h with
 | nil=>exact⟨hnd,hX,rfl,rfl,rfl,rfl,fun k=>by simp⟩
 | @snoc ms y m T e p' l' h hT hd ih =>
  obtain⟨k1,k2,k3,k3',k4,k5,k6⟩:=ih
  obtain⟨s1,s2,s3,s4⟩:=k2.drop k1 hT hd
  refine⟨nd_filter k1 _,s2,k3,k3',by dsimp only;omega,by dsimp only;omega,fun k=>?_⟩
  show (tab? (y.R.tabs.filter fun x=>decide (x.1≠m)) k).isSome=true↔_
  rw [mem_untab,k6,List.mem_append,List.mem_singleton]
  constructor
  ·rintro ⟨h1,h2,h3⟩;exact⟨h2,fun h=>h.elim h3 h1⟩
  ·rintro ⟨h1,h2⟩;exact⟨fun e=>h2 (.inr e),h1,fun h=>h2 (.inl h)⟩
theorem shut_pre {n a fr:Nat} {G O:List Nat} {x y:Xs} {ms:List Nat} {m:Nat} (hn:1≤n∧n≤7) (hfr:fr≤65536) (h:ShutRun a x ms y) (hR:RootOk n a x.R) (hf:x.R.first+x.R.count≤fr) (hX:XI fr G O x.p x.l x.R.tabs)
  (hp:∃rest,(ms++m :: rest).Perm (x.R.tabs.map (·.1))):∃T,tab? y.R.tabs m=some T∧T<2^30∧wErr fr (a+4*m)=0:=by
 obtain⟨rest,hp⟩:=hp
 obtain⟨k1,k2,k3,k3',k4,k5,k6⟩:=shut_run (n:=n) h hR.nd hX
 have hnd:=hp.nodup_iff.2 hR.nd
 have hm:m∉ms:=fun h=>(List.nodup_append.1 hnd).2.2 m h m (by simp) rfl
 have hm2:(tab? x.R.tabs m).isSome=true:=tab_isSome.2 (hp.mem_iff.1 (by simp))
 obtain⟨T,hT⟩:=tab_wf ((k6 m).2 ⟨hm2,hm⟩)
 obtain⟨t,ht,hpg,hmb⟩:=(hR.tk m).1 hm2
 exact⟨T,hT,by have:=k2.tl hT;omega,hook_ok hR hf (by rw [←hmb];exact (hR.blk.good t ht).mib hn)⟩
theorem tabs_bound {n a:Nat} {R:RootS} (hn:1≤n∧n≤7) (hR:RootOk n a R):R.tabs.length≤1000000∧∀x∈R.tabs,x.1<4096:=by
 have h:∀x∈R.tabs,x.1<4096:=fun x hx=>by
  obtain⟨t,ht,hpg,hmb⟩:=(hR.tk x.1).1 (tab_isSome.2 (List.mem_map.2 ⟨x,hx,rfl⟩))
  have:=(hR.blk.good t ht).mib hn
  have h2:Go.Proofs.YtmgjicnipgdjhaaGreatDoor.cnt n≤2:=by unfold Go.Proofs.YtmgjicnipgdjhaaGreatDoor.cnt;split<;>omega
  omega
 refine⟨?_,h⟩
 have:=len_lt hR.nd (N:=4096) fun m hm=>by
  obtain⟨x,hx,rfl⟩:=List.mem_map.1 hm
  exact h x hx
 rw [List.length_map] at this
 omega
def rootF (l:List (Nat×RootS)):List Nat:=l.flatMap fun x=>span x.2.first x.2.count
def rootT (l:List (Nat×RootS)):List Nat:=l.flatMap fun x=>x.2.tabs.map (·.2)
def takenF (l:List (Nat×Nat)):List Nat:=l.flatMap fun x=>span x.1 x.2
structure Inv (fr n:Nat) (tk:List (Nat×Nat)) (S:St):Prop where
 ok:SlabOk S.l
 acc:Acc S.p (S.l.map Qr.f++(rootF S.roots++takenF tk))
 tb:(rootT S.roots).Perm (tabs S.l)
 lt:S.p.first+S.p.u.length≤fr
 root:∀x∈S.roots,RootOk n x.1 x.2
 nd:(S.roots.map (·.1)).Nodup
 tk1:∀r∈tk,1≤r.2
theorem cnt_pos (n:Nat):1≤cnt n∧cnt n≤2:=by unfold cnt;split<;>omega
theorem filter_ne_self {l:List (Nat×RootS)} {a:Nat} (h:a∉l.map (·.1)):l.filter (fun x=>decide (x.1≠a))=l:=by
 rw [List.filter_eq_self]
 intro y hy
 have:y.1≠a:=fun e=>h (List.mem_map.2 ⟨y,hy,e⟩)
 simpa using this
theorem updR_ne_self {l:List (Nat×RootS)} {a:Nat} {R:RootS} (h:a∉l.map (·.1)):updR l a R=l:=by
 unfold updR
 have e:l.map (fun x=>if x.1=a then (a,R) else x)=l.map id:=List.map_congr_left fun x hx=>if_neg fun e=>h (List.mem_map.2 ⟨x,hx,e⟩)
 rw [e,List.map_id]
theorem roots_split {l:List (Nat×RootS)} (hnd:(l.map (·.1)).Nodup) {a:Nat} {R:RootS} (R':RootS) (hm:(a,R)∈l):l.Perm ((a,R) :: l.filter fun x=>decide (x.1≠a))∧(updR l a R').Perm ((a,R') :: l.filter fun x=>decide (x.1≠a)):=by
 induction l with
 | nil=>simp at hm
 | cons x r ih =>
  rw [List.map_cons,List.nodup_cons] at hnd
  by_cases e:x.1=a
  ·have hx:x=(a,R):=by
    rcases List.mem_cons.1 hm with h|h
    ·exact h.symm
    ·exact absurd (List.mem_map.2 ⟨_,h,e.symm⟩) hnd.1
   subst hx
   have hr:((a,R) :: r).filter (fun x=>decide (x.1≠a))=r:=by
    rw [List.filter_cons,if_neg (by simp),filter_ne_self hnd.1]
   have hu:updR ((a,R) :: r) a R'=(a,R') :: r:=by
    have:updR ((a,R) :: r) a R'=(a,R') :: updR r a R':=by
     unfold updR
     rw [List.map_cons,if_pos rfl]
    rw [this,updR_ne_self hnd.1]
   rw [hr,hu]
   exact⟨List.Perm.refl _,List.Perm.refl _⟩
  ·have hm2:(a,R)∈r:=by
    rcases List.mem_cons.1 hm with h|h
    ·exact absurd (by rw [←h]) e
    ·exact h
   have hu:updR (x :: r) a R'=x :: updR r a R':=by
    unfold updR
    rw [List.map_cons,if_neg e]
   rw [List.filter_cons,if_pos (by simpa using e),hu]
   obtain⟨k1,k2⟩:=ih hnd.2 hm2
   exact⟨(k1.cons x).trans (List.Perm.swap _ _ _),(k2.cons x).trans (List.Perm.swap _ _ _)⟩
theorem rootF_perm {l l':List (Nat×RootS)} (h:l.Perm l'):(rootF l).Perm (rootF l'):=h.flatMap_right _
theorem rootT_perm {l l':List (Nat×RootS)} (h:l.Perm l'):(rootT l).Perm (rootT l'):=h.flatMap_right _
theorem rootF_cons (x:Nat×RootS) (l:List (Nat×RootS)):rootF (x :: l)=span x.2.first x.2.count++rootF l:=List.flatMap_cons
theorem rootT_cons (x:Nat×RootS) (l:List (Nat×RootS)):rootT (x :: l)=x.2.tabs.map (·.2)++rootT l:=List.flatMap_cons
theorem Inv.held {fr n:Nat} {tk:List (Nat×Nat)} {S:St} (h:Inv fr n tk S):Held S.p S.l:=h.acc.held
theorem Inv.frames {fr n:Nat} {tk:List (Nat×Nat)} {S:St} (h:Inv fr n tk S) {a:Nat} {R:RootS} (hm:(a,R)∈S.roots):R.first+R.count≤fr∧S.p.first≤R.first:=by
 have hR:=h.root _ hm
 have hc:=cnt_pos n
 have hcc:=hR.cnt
 dsimp only at hcc
 have hin:∀x,R.first≤x→x<R.first+R.count→S.p.first≤x∧x<S.p.first+S.p.u.length:=fun x h1 h2=>h.acc.rg x (List.mem_append.2 (.inr (List.mem_append.2 (.inl (List.mem_flatMap.2 ⟨_,hm,mem_span.2 ⟨h1,h2⟩⟩)))))
 have h1:=hin R.first (Nat.le_refl _) (by omega)
 have h2:=hin (R.first+R.count-1) (by omega) (by omega)
 have:=h.lt
 omega
theorem Inv.small {fr n:Nat} {tk:List (Nat×Nat)} {S:St} (h:Inv fr n tk S) (hfr:fr≤65536) {a:Nat} {R:RootS} (hm:(a,R)∈S.roots):a<2^28∧R.first<65536∧R.count≤2:=by
 have hR:=h.root _ hm
 have h1:=(h.frames hm).1
 have hk:=hR.key
 have hcc:=hR.cnt
 have hc:=cnt_pos n
 dsimp only at hk hcc
 omega
theorem Inv.rootsLen {fr n:Nat} {tk:List (Nat×Nat)} {S:St} (h:Inv fr n tk S) (hfr:fr≤65536):S.roots.length≤2^28:=by
 have:=len_lt h.nd (N:=2^28) fun a ha=>by
  obtain⟨x,hx,rfl⟩:=List.mem_map.1 ha
  exact (h.small hfr (a:=x.1) (R:=x.2) hx).1
 rwa [List.length_map] at this
theorem Inv.std {fr n:Nat} {tk:List (Nat×Nat)} {S:St} (h:Inv fr n tk S) (hn:1≤n∧n≤7):Std n S :=
 ⟨h.ok,fun x hx t ht=>((h.root x hx).blk.good t ht).wf hn,fun x hx=>by have:=(h.root x hx).blk.len hn;omega⟩
theorem Inv.xi {fr n:Nat} {tk:List (Nat×Nat)} {S:St} (h:Inv fr n tk S) {a:Nat} {R:RootS} (hm:(a,R)∈S.roots):XI fr (rootF S.roots++takenF tk) (rootT (S.roots.filter fun x=>decide (x.1≠a))) S.p S.l R.tabs:=by
 refine⟨h.ok,h.acc,?_,h.lt⟩
 have:=rootT_perm (roots_split h.nd R hm).1
 rw [rootT_cons] at this
 exact this.symm.trans h.tb
theorem Inv.upd {fr n:Nat} {tk:List (Nat×Nat)} {S:St} (h:Inv fr n tk S) {a:Nat} {R R':RootS} (hm:(a,R)∈S.roots) {p':Pool} {l':List Qr} (M':Mst) (hX:XI fr (rootF S.roots++takenF tk) (rootT (S.roots.filter fun x=>decide (x.1≠a))) p' l' R'.tabs)
  (hR:RootOk n a R') (hf:R'.first=R.first):Inv fr n tk ⟨M',p',l',updR S.roots a R'⟩:=by
 obtain⟨k1,k2⟩:=roots_split h.nd R' hm
 have hc:R'.count=R.count:=by rw [hR.cnt];exact (h.root _ hm).cnt.symm
 refine⟨hX.ok,hX.acc.perm ?_,?_,hX.lt,fun x hx=>?_,?_,h.tk1⟩
 ·refine List.Perm.append_left _ (List.Perm.append_right _ ?_)
  have e1:=rootF_perm k1
  have e2:=rootF_perm k2
  rw [rootF_cons] at e1 e2
  dsimp only at e1 e2
  rw [hf,hc] at e2
  exact e1.trans e2.symm
 ·have e2:=rootT_perm k2
  rw [rootT_cons] at e2
  exact e2.trans hX.tb
 ·rcases List.mem_cons.1 (k2.mem_iff.1 hx) with rfl|hx
  ·exact hR
  ·exact h.root x (List.mem_filter.1 hx).1
 ·show ((updR S.roots a R').map (·.1)).Nodup
  rw [updR_keys]
  exact h.nd
theorem Inv.mach {fr n:Nat} {tk:List (Nat×Nat)} {S:St} (h:Inv fr n tk S) (M':Mst):Inv fr n tk { S with M:=M' }:=⟨h.ok,h.acc,h.tb,h.lt,h.root,h.nd,h.tk1⟩
theorem Inv.fresh {fr n:Nat} {tk:List (Nat×Nat)} {S:St} (h:Inv fr n tk S):∀r p',PTake S.p (cnt n) (cnt n) r 0 p'→root? S.roots (4096*r)=none∧r+cnt n≤fr:=by
 intro r p' ht
 obtain⟨_,_,_,k⟩:=ht.acc h.acc
 obtain⟨k1,k2,k3,_⟩:=k rfl
 have hc:=cnt_pos n
 have hl:=h.lt
 refine⟨?_,by omega⟩
 cases hx:root? S.roots (4096*r) with
 | none=>rfl
 | some R =>
  have hm:=root_mem hx
  have hR:=h.root _ hm
  have e:R.first=r:=by have:=hR.key;dsimp only at this;omega
  have h2:=hR.cnt
  dsimp only at h2
  exact absurd rfl ((List.nodup_append.1 k1.nd).2.2 r (mem_span.2 (by omega)) r (List.mem_append.2 (.inr (List.mem_append.2 (.inl (List.mem_flatMap.2 ⟨_,hm,mem_span.2 (by dsimp only;omega)⟩))))))
theorem Inv.rootR {fr n:Nat} {tk:List (Nat×Nat)} {S S':St} {x e:Nat} (h:Inv fr n tk S) (hr:RootR n S x e S'):Inv fr n tk S':=by
 rcases hr with ⟨_,_,_,rfl⟩|⟨_,r,p',rb,tm,ht,_,rfl⟩
 ·exact h
 obtain⟨k1,k2,_,k⟩:=ht.acc h.acc
 obtain⟨k3,k4,k5,_⟩:=k rfl
 have hf:=(h.fresh r p' ht).1
 refine⟨h.ok,k3.perm ?_,?_,by dsimp only;have:=h.lt;omega,fun x hx=>?_,?_,h.tk1⟩
 ·rw [Int.toNat_natCast]
  have e:rootF (S.roots++[(4096*r,⟨rb,tm,r,cnt n,[],[]⟩)])=rootF S.roots++span r (cnt n):=by
   simp [rootF]
  rw [e]
  refine List.perm_append_comm.trans ?_
  simp only [List.append_assoc]
  refine List.Perm.append_left _ (List.Perm.append_left _ ?_)
  exact List.perm_append_comm
 ·have e:rootT (S.roots++[(4096*r,⟨rb,tm,r,cnt n,[],[]⟩)])=rootT S.roots:=by
   simp [rootT]
  rw [e];exact h.tb
 ·rcases List.mem_append.1 hx with hx|hx
  ·exact h.root x hx
  ·rw [List.mem_singleton.1 hx]
   exact⟨rfl,rfl,⟨fun t ht=>by simp at ht,List.Pairwise.nil⟩,by simp,fun m=>by simp [tab?]⟩
 ·rw [List.map_append,List.nodup_append]
  refine⟨h.nd,by simp,fun a ha b hb e=>?_⟩
  simp only [List.map_cons,List.map_nil,List.mem_singleton] at hb
  subst hb;subst e
  obtain⟨y,hy,hy2⟩:=List.mem_map.1 ha
  obtain⟨y1,y2⟩:=y
  dsimp only at hy2
  subst hy2
  rw [root_at h.nd hy] at hf
  cases hf
theorem Inv.unroot {fr n:Nat} {tk:List (Nat×Nat)} {S:St} (h:Inv fr n tk S) {a:Nat} {R:RootS} (hm:(a,R)∈S.roots) :
  Acc S.p (span R.first R.count++(S.l.map Qr.f++(rootF (S.roots.filter fun x=>decide (x.1≠a))++takenF tk))):=by
 have e1:=rootF_perm (roots_split h.nd R hm).1
 rw [rootF_cons] at e1
 refine h.acc.perm (((e1.append_right _).append_left _).trans ?_)
 rw [←List.append_assoc,←List.append_assoc,←List.append_assoc,←List.append_assoc]
 refine List.Perm.append_right _ (List.Perm.append_right _ ?_)
 exact List.perm_append_comm
theorem Inv.freeH {fr n:Nat} {tk:List (Nat×Nat)} {S:St} (h:Inv fr n tk S) {a:Nat} {R:RootS} (hm:root? S.roots a=some R):(S.p.run (R.first:Int) (R.count:Int)).2=0∧Held (S.p.turned ((R.first:Int)-S.p.first).toNat (· - 1) (R.count:Int).toNat) S.l:=by
 have hR:=h.root _ (root_mem hm)
 have hc:=cnt_pos n
 have hcc:=hR.cnt
 dsimp only at hcc
 obtain⟨k1,k2⟩:=(h.unroot (root_mem hm)).drop (by omega)
 exact⟨k1,k2.held⟩
theorem Inv.freeR {fr n:Nat} {tk:List (Nat×Nat)} {S S':St} {a e:Nat} (h:Inv fr n tk S) (hr:FreeR S a e S'):Inv fr n tk S':=by
 rcases hr with ⟨_,_,rfl⟩|⟨R,hm,⟨_,_,rfl⟩|⟨hb,_,rfl⟩⟩
 ·exact h
 ·exact h
 have hm':=root_mem hm
 have hR:=h.root _ hm'
 have hc:=cnt_pos n
 have hcc:=hR.cnt
 dsimp only at hcc
 obtain⟨k1,k2⟩:=(h.unroot hm').drop (by omega)
 have e1:=rootT_perm (roots_split h.nd R hm').1
 rw [rootT_cons] at e1
 have ht0:R.tabs=[]:=by
  cases hx:R.tabs with
  | nil=>rfl
  | cons x r =>
   obtain⟨t,ht,_⟩:=(hR.tk x.1).1 (tab_isSome.2 (by rw [hx];simp))
   dsimp only at ht
   rw [hb] at ht
   simp at ht
 rw [ht0] at e1
 unfold pdrop
 rw [if_pos k1]
 refine⟨h.ok,k2,e1.symm.trans h.tb,?_,fun x hx=>h.root x (List.mem_filter.1 hx).1,h.nd.sublist (List.filter_sublist.map _),h.tk1⟩
 show S.p.first+(turn _ _ _ _).length≤fr
 rw [turn_len]
 exact h.lt
theorem Inv.putPre {fr n:Nat} {tk:List (Nat×Nat)} {S:St} (h:Inv fr n tk S) (hn:1≤n∧n≤7) (hfr:fr≤65536) {a:Nat} {l:List Tr} :
  ∀R got mine p' l',root? S.roots a=some R→MayE n R.blocks l 0→TakeI R.tabs S.p S.l l got mine p' l'→∀i t,l[i]?=some t→PutPre fr a (putN a got (l.take i) 0 (R,S.M)).1 (got? got i) t :=
 fun R got mine p' l' hm hmay ht=>put_pre hn hfr (h.xi (root_mem hm)) (h.root _ (root_mem hm)) (h.frames (root_mem hm)).1 hmay ht
theorem Inv.putE {fr n:Nat} {tk:List (Nat×Nat)} {S S':St} {a e:Nat} {l:List Tr} (h:Inv fr n tk S) (hfr:fr≤65536) (hr:PutE n S a l e S'):Inv fr n tk S':=by
 rcases hr with ⟨_,_,rfl⟩|⟨_,R,got,mine,p',l',hm,hmay,ht,rfl⟩
 ·exact h
 have hm':=root_mem hm
 obtain⟨m1,m2,m3⟩:=may_pair hmay
 obtain⟨k1,k2,k3,k4⟩:=put_run (M:=S.M) ht (h.root _ hm') m1 m2 m3 [] (by simp)
 rw [List.append_nil] at k1 k2 k3 k4
 obtain⟨x1,_,_⟩:=ht.xi (h.xi hm') hfr
 exact h.upd hm' _ (by rw [k2];exact x1) k1 k4
theorem Inv.choOk {fr n:Nat} {tk:List (Nat×Nat)} {S:St} (h:Inv fr n tk S) {a:Nat} {asid ap:Int} {bits:Nat} {ng:Bool} {vas:List Nat} {R:RootS} {out:List Tr} (hc:ChoOk S a asid ap bits ng vas R out) :
  (a,R)∈S.roots∧(∀t∈out,t∈R.blocks)∧(out.map (·.va)).Nodup∧out.length=vas.length:=by
 obtain⟨h1,_,h3⟩:=hc
 obtain⟨k1,k2,k3⟩:=choose_spec h3 (by simp) (by simp)
 exact⟨root_mem h1,k1,k2,by simpa using k3⟩
theorem Inv.choLen {fr n:Nat} {tk:List (Nat×Nat)} {S:St} (h:Inv fr n tk S) (hn:1≤n∧n≤7) {a:Nat} {asid ap:Int} {bits:Nat} {ng:Bool} {vas:List Nat} {R:RootS} {out:List Tr} (hc:ChoOk S a asid ap bits ng vas R out):out.length≤1048576:=by
 obtain⟨k1,k2,k3,k4⟩:=h.choOk hc
 have hb:=(h.root _ k1).blk
 have h1:=len_sub (L:=out.map (·.va)) (M:=R.blocks.map (·.va)) k3 fun x hx=>by
  obtain⟨t,ht,rfl⟩:=List.mem_map.1 hx
  exact List.mem_map.2 ⟨t,k2 t ht,rfl⟩
 rw [List.length_map,List.length_map] at h1
 have:=hb.len hn
 dsimp only at this
 omega
theorem Inv.cutPre {fr n:Nat} {tk:List (Nat×Nat)} {S:St} (h:Inv fr n tk S) (hn:1≤n∧n≤7) (hfr:fr≤65536) {a:Nat} {asid:Int} {vas:List Nat} :
  ∀R out,ChoOk S a asid 0 0 true vas R out→∀i t,out[i]?=some t→∀y,CutRun a asid ⟨R,S.M,S.p,S.l⟩ (out.take i) y→CutPre fr a y.R t:=by
 intro R out hc i t hi y hy
 obtain⟨k1,k2,k3,k4⟩:=h.choOk hc
 have hR:=h.root _ k1
 have e:out.take i++out.drop i=out:=List.take_append_drop _ _
 obtain⟨c1,c2,c3,c4,c5,c6,c7⟩:=cut_run hy hR (h.xi k1) (out.drop i) (by rw [e];exact k2) (by rw [e];exact k3)
 have hf:=(h.frames k1).1
 have hcc:=hR.cnt
 have hcc2:=c1.cnt
 dsimp only at hcc c5
 have ht:t∈y.R.blocks:=c3 t (List.mem_of_getElem? (i:=0) (by rw [List.getElem?_drop];exact hi))
 exact cut_pre hn hfr c2 c1 (by omega) ht
theorem Inv.cutE {fr n:Nat} {tk:List (Nat×Nat)} {S S':St} {a e:Nat} {asid:Int} {vas:List Nat} (h:Inv fr n tk S) (hr:CutE S a asid vas e S'):Inv fr n tk S':=by
 rcases hr with ⟨_,_,rfl⟩|⟨_,R,out,y,hc,hy,rfl⟩
 ·exact h
 obtain⟨k1,k2,k3,k4⟩:=h.choOk hc
 obtain⟨c1,c2,c3,c4,c5,c6,c7⟩:=cut_run hy (h.root _ k1) (h.xi k1) [] (by simpa using k2) (by simpa using k3)
 exact h.upd k1 _ c2 c1 c5
theorem Inv.chgRun {fr n:Nat} {tk:List (Nat×Nat)} {S:St} (h:Inv fr n tk S) {a:Nat} {asid ap:Int} {bits:Nat} {ng xn:Bool} {vas:List Nat} {R:RootS} {out:List Tr} (hc:ChoOk S a asid ap bits ng vas R out) (ts:List Tr) (hs:ts.Sublist out) :
  RootOk n a (chgN a asid (fun t=>t.leaf ap bits ng xn) ts (R,S.M)).1∧(chgN a asid (fun t=>t.leaf ap bits ng xn) ts (R,S.M)).1.tabs=R.tabs∧(chgN a asid (fun t=>t.leaf ap bits ng xn) ts (R,S.M)).1.first=R.first ∧
   (∀b,b∈(chgN a asid (fun t=>t.leaf ap bits ng xn) ts (R,S.M)).1.blocks↔(b∈R.blocks∧b∉ts)∨∃t∈ts,b=t.leaf ap bits ng xn):=by
 obtain⟨k1,k2,k3,k4⟩:=h.choOk hc
 exact chg_run (f:=fun t=>t.leaf ap bits ng xn) (fun t ht=>leaf_good ht hc.2.1) (fun _=>rfl) (fun _=>rfl) (fun _=>rfl) ts (R,S.M) (h.root _ k1) (fun t ht=>k2 t (hs.subset ht)) (k3.sublist (hs.map _))
theorem Inv.chgPre {fr n:Nat} {tk:List (Nat×Nat)} {S:St} (h:Inv fr n tk S) (hn:1≤n∧n≤7) (hfr:fr≤65536) {a:Nat} {asid ap:Int} {bits:Nat} {ng xn:Bool} {vas:List Nat} :
  ∀R out,ChoOk S a asid ap bits ng vas R out→∀i t,out[i]?=some t→ChgPre fr a (chgN a asid (fun t=>t.leaf ap bits ng xn) (out.take i) (R,S.M)).1 t∧(t.leaf ap bits ng xn).right=true:=by
 intro R out hc i t hi
 obtain⟨k1,k2,k3,k4⟩:=h.choOk hc
 have hR:=h.root _ k1
 have htm:=List.mem_of_getElem? hi
 obtain⟨c1,c2,c3,c4⟩:=h.chgRun (xn:=xn) hc (out.take i) (List.take_sublist _ _)
 have hf:=(h.frames k1).1
 have hcc:=hR.cnt
 have hcc2:=c1.cnt
 dsimp only at hcc
 have hil:=(List.getElem?_eq_some_iff.1 hi).1
 have hnt:t∉out.take i:=fun hm=>by
  obtain⟨j,hj,hjt⟩:=List.getElem_of_mem hm
  rw [List.length_take] at hj
  rw [List.getElem_take] at hjt
  have h2:=List.pairwise_iff_getElem.1 (List.nodup_iff_pairwise_ne.1 k3) j i (by rw [List.length_map];omega) (by rw [List.length_map];omega) (by omega)
  rw [List.getElem_map,List.getElem_map,hjt] at h2
  exact h2 (by rw [(List.getElem?_eq_some_iff.1 hi).2])
 refine⟨chg_pre (p:=S.p) (l:=S.l) (G:=rootF S.roots++takenF tk) hn hfr (by rw [c2];exact h.xi k1) c1 (by omega) ((c4 t).2 (.inl ⟨k2 t htm,hnt⟩)),?_⟩
 exact (leaf_good (hR.blk.good t (k2 t htm)) hc.2.1).right
theorem Inv.chgE {fr n:Nat} {tk:List (Nat×Nat)} {S S':St} {a e:Nat} {asid ap:Int} {bits:Nat} {ng xn:Bool} {vas:List Nat} (h:Inv fr n tk S) (hr:ChgE S a asid ap bits ng xn vas e S'):Inv fr n tk S':=by
 rcases hr with ⟨_,_,rfl⟩|⟨_,R,out,hc,rfl⟩
 ·exact h
 obtain⟨k1,k2,k3,k4⟩:=h.choOk hc
 obtain⟨c1,c2,c3,c4⟩:=h.chgRun (xn:=xn) hc out (List.Sublist.refl _)
 exact h.upd k1 _ (by rw [c2];exact h.xi k1) c1 c3
theorem Inv.emptyPre {fr n:Nat} {tk:List (Nat×Nat)} {S:St} (h:Inv fr n tk S) (hn:1≤n∧n≤7) (hfr:fr≤65536) {a:Nat} {asid:Int} :
  ∀R,root? S.roots a=some R→∀(ms:List Nat) (m:Nat) (y:Xs),(∃rest,(ms++m :: rest).Perm (R.tabs.map (·.1)))→ShutRun a ⟨R,dropM (zeroAll a R R.blocks S.M) 3 (IntKind.u32.wrap asid),S.p,S.l⟩ ms y→∃T,tab? y.R.tabs m=some T∧T<2^30∧wErr fr (a+4*m)=0 :=
 fun R hm ms m y hp hy=>shut_pre hn hfr hy (h.root _ (root_mem hm)) (h.frames (root_mem hm)).1 (h.xi (root_mem hm)) hp
theorem Inv.emptyE {fr n:Nat} {tk:List (Nat×Nat)} {S S':St} {a e:Nat} {asid:Int} (h:Inv fr n tk S) (hr:EmptyE S a asid e S'):Inv fr n tk S':=by
 rcases hr with ⟨_,_,rfl⟩|⟨_,R,hm,hb,⟨_,rfl⟩|⟨hne,ms,y,hp,_,hy,rfl⟩⟩
 ·exact h
 ·exact h
 have hm':=root_mem hm
 have hR:=h.root _ hm'
 obtain⟨k1,k2,k3,k3',k4,k5,k6⟩:=shut_run (n:=n) hy hR.nd (h.xi hm')
 have h0:y.R.tabs=[]:=by
  cases hx:y.R.tabs with
  | nil=>rfl
  | cons x r =>
   have:=(k6 x.1).1 (tab_isSome.2 (by rw [hx];simp))
   exact absurd (hp.mem_iff.2 (tab_isSome.1 this.1)) this.2
 refine h.upd hm' _ k2 ⟨?_,?_,⟨fun t ht=>by simp at ht,List.Pairwise.nil⟩,k1,fun m=>?_⟩ k3
 ·show a=4096*y.R.first
  rw [k3];exact hR.key
 ·show y.R.count=cnt n
  rw [k3'];exact hR.cnt
 ·rw [h0];simp [tab?]
theorem Inv.take {fr n:Nat} {tk:List (Nat×Nat)} {S:St} (h:Inv fr n tk S) {k al:Int} {r e:Nat} {p':Pool} (ht:PTake S.p k al r e p'):(e=0→Inv fr n (tk++[(r,k.toNat)]) { S with p:=p' }∧1≤k)∧(e≠0→p'=S.p):=by
 obtain⟨k1,k2,k0,k3⟩:=ht.acc h.acc
 refine⟨fun he=>?_,fun he=>(k0 he).1⟩
 obtain⟨k4,k5,k6,k7,_⟩:=k3 he
 refine⟨⟨h.ok,k4.perm ?_,h.tb,by dsimp only;have:=h.lt;omega,h.root,h.nd,fun x hx=>?_⟩,k7⟩
 ·have e:takenF (tk++[(r,k.toNat)])=takenF tk++span r k.toNat:=by simp [takenF]
  rw [e]
  refine List.perm_append_comm.trans ?_
  simp only [List.append_assoc]
  exact List.Perm.refl _
 ·rcases List.mem_append.1 hx with hx|hx
  ·exact h.tk1 x hx
  ·rw [List.mem_singleton.1 hx];dsimp only;omega
theorem Inv.drop {fr n:Nat} {l1 l2:List (Nat×Nat)} {f c:Nat} {S:St} (h:Inv fr n (l1++(f,c) :: l2) S) :
  (S.p.run (f:Int) (c:Int)).2=0∧Inv fr n (l1++l2) { S with p:=S.p.turned ((f:Int)-S.p.first).toNat (· - 1) (c:Int).toNat }:=by
 have hc:1≤c:=h.tk1 (f,c) (by simp)
 have e:takenF (l1++(f,c) :: l2)=takenF l1++(span f c++takenF l2):=by simp [takenF]
 have hA:=h.acc
 rw [e] at hA
 have hA2:Acc S.p (span f c++(S.l.map Qr.f++(rootF S.roots++takenF (l1++l2)))):=by
  refine hA.perm ?_
  have e2:takenF (l1++l2)=takenF l1++takenF l2:=by simp [takenF]
  rw [e2]
  have:∀A B C D E:List Nat,(A++(B++(C++(D++E)))).Perm (D++(A++(B++(C++E)))):=fun A B C D E=>by
   refine List.perm_iff_count.2 fun x=>?_
   simp only [List.count_append]
   omega
  exact this _ _ _ _ _
 obtain⟨k1,k2⟩:=hA2.drop hc
 refine⟨k1,⟨h.ok,k2,h.tb,?_,h.root,h.nd,fun x hx=>h.tk1 x ?_⟩⟩
 ·show S.p.first+(turn _ _ _ _).length≤fr
  rw [turn_len];exact h.lt
 ·rcases List.mem_append.1 hx with hx|hx<;>simp [hx]
theorem Inv.start {fr n k:Nat} (hf:8+k≤fr) (M:Mst):Inv fr n [] ⟨M,⟨8,List.replicate k 0⟩,[],[]⟩:=by
 refine⟨⟨by simp,by simp,by simp⟩,⟨by simp [rootF,takenF],by simp [rootF,takenF],fun j hj=>?_⟩,by simp [rootT,tabs],by simpa using hf,by simp,by simp,by simp⟩
 simp only [List.length_replicate] at hj
 simp [rootF,takenF,List.getD_eq_getElem?_getD,List.getElem?_replicate,hj]
def I64 (x:Int):Prop:=-9223372036854775808≤x∧x≤9223372036854775807
theorem f17 {w:World} (e:Int):Ret prog 17 #[.int .i64 e] w fun v w'=>v=.int .i64 e∧w'=w:=by
 refine F17_of _ _ _ ?_
 unfold F17
 exact⟨rfl,rfl⟩
theorem ret_eq {P:Program} {f:FuncId} {args:Array Value} {w:World} {r:Value} {K:Value→World→Prop} (h:Ret P f args w fun v w'=>v=r∧w'=w) (k:K r w):CallS P f args w K :=
 h.use (by rintro _ _ ⟨rfl,rfl⟩;exact k)
theorem f37 {w:World} (n k:Int) (hk:0<k) (hk2:k≤9223372036854775807) (hn:I64 n):Ret prog 37 #[.int .i64 n,.int .i64 k] w fun v w'=>v=.int .i64 (n.emod k)∧w'=w:=by
 refine F37_of _ _ _ _ ?_
 unfold F37
 rw [NZ_iff]
 refine⟨by omega,?_⟩
 have h1:=Int.emod_nonneg n (by omega:k≠0)
 have h2:=Int.emod_lt_of_pos n hk
 have h3:n.tmod k=if 0≤n∨k ∣ n then n.emod k else n.emod k-k:=by
  rw [Int.tmod_eq_emod]
  split
  ·exact Int.sub_zero _
  ·rw [show ((k.natAbs:Nat):Int)=k by omega];rfl
 refine BIf_cases (fun h=>?_) (fun h=>?_)
 ·split at h3
  ·exfalso;have:n.emod k=n%k:=rfl;omega
  ·refine⟨?_,rfl⟩
   rw [h3,show n.emod k-k+k=n.emod k by omega,w64 (by have:n.emod k=n%k:=rfl;omega) (by have:n.emod k=n%k:=rfl;omega)]
 ·refine⟨?_,rfl⟩
  rw [h3]
  split
  ·rfl
  ·exfalso
   rw [h3,if_neg (by assumption)] at h
   have:n.emod k=n%k:=rfl
   omega
theorem same_ints {w:World} {k:IntKind} {p q:Option Addr} {l:List Int} (hp:Rd w p (l.map (Value.int k))) (hq:Rd w q (l.map (Value.int k))) {i:Nat} (hi:i<l.length) {K:Int→Int→Prop} (hK:∀x,K x x) :
  NilP p fun a=>(0:Int)≤(i:Int)∧(i:Int)<(l.length:Int)∧Ld w (at0 a ((i:Int).toNat*1)) fun v=>AsI k v fun x=>NilP q fun b=>(0:Int)≤(i:Int)∧(i:Int)<(l.length:Int)∧Ld w (at0 b ((i:Int).toNat*1)) fun u=>AsI k u fun y=>K x y:=by
 refine hp.int rfl (by omega) (x:=l[i]) (by rw [Int.toNat_natCast];exact List.getElem?_eq_getElem hi) ?_
 exact hq.int rfl (by omega) (x:=l[i]) (by rw [Int.toNat_natCast];exact List.getElem?_eq_getElem hi) (hK _)
theorem f25 {w:World} {p q:Option Addr} {c d:Nat} {l:List Int} (hp:Rd w p (l.map (Value.int .i64))) (hq:Rd w q (l.map (Value.int .i64))) (hl:l.length≤9223372036854775806) :
  Ret prog 25 #[.slice p l.length c,.slice q l.length d] w fun v w'=>v=.bool true∧Fr0 w w':=by
 refine F25_of _ _ _ _ _ _ _ _ ?_
 unfold F25;try dsimp only [Uib,li_,ub_,ui_]
 refine BIf_ne (fun h=>absurd rfl h) (fun _=>?_)
 refine Loop.by (fun s w'=>∃i:Nat,i≤l.length∧s=[.int .i64 (i:Int),.bool false]∧Fr0 w w') (fun s _=>match s with | [.int _ i,_]=>l.length-i.toNat|_=>0) ⟨0,by omega,rfl,Fr.refl _ _⟩ ?_
 rintro _ w1 ⟨i,hi,rfl,f1⟩
 simp only [UnC_cons,UnN_nil,AsI_int,AsB_bool]
 refine BIf_cases (fun hlt=>?_) (fun hge=>⟨by trivial,f1⟩)
 refine same_ints (hp.fr0 f1) (hq.fr0 f1) (by omega) (fun x=>?_)
 refine BIf_ne (fun h=>absurd rfl h) (fun _=>?_)
 rw [w64 (by omega) (by omega)]
 exact⟨⟨i+1,by omega,rfl,f1.drew⟩,(by first|omega|(simp only [Int.toNat_natCast];omega))⟩
def pairCells (l:List (Int×Int)):List Value:=l.flatMap fun r=>[.int .i64 r.1,.int .i64 r.2]
theorem pair_len (r:Int×Int):([.int .i64 r.1,.int .i64 r.2]:List Value).length=2:=rfl
theorem pair_ld {w:World} {p:Option Addr} {l:List (Int×Int)} (h:Rd w p (pairCells l)) {e N:Int} {i:Nat} (he:e=(i:Int)) {t:Int×Int} (ht:l[i]?=some t) (hN:(i:Int)<N) {K:Int→Int→Prop} (k:K t.1 t.2) :
  NilP p fun a=>0≤e∧e<N∧Ld w (at0 a (e.toNat*2)) fun v0=>AsI .i64 v0 fun i0=>Ld w (at0 (at0 a (e.toNat*2)) 1) fun v1=>AsI .i64 v1 fun i1=>K i0 i1:=by
 subst he
 have hg:∀j v,j<2→([.int .i64 t.1,.int .i64 t.2]:List Value)[j]?=some v→(pairCells l)[i*2+j]?=some v:=fun j v hj hv=>(flat_get pair_len l i j hj t ht).trans hv
 obtain⟨b,o,hp,h0⟩:=h _ _ (hg 0 _ (by decide) rfl)
 have h1:=Rd.cell h hp (hg 1 _ (by decide) rfl)
 rw [hp,NilP_some]
 simp only [at0_mk,Int.toNat_natCast]
 refine⟨by omega,hN,?_⟩
 exact⟨_,h0,AsI_int.2 ⟨_,by rw [Nat.add_assoc];exact h1,AsI_int.2 k⟩⟩
theorem f15 {w:World} {p q:Option Addr} {c d:Nat} {l:List Tr} (hp:Rd w p (trCells l)) (hq:Rd w q (trCells l)) (hl:l.length≤9223372036854775806) :
  Ret prog 15 #[.slice p l.length c,.slice q l.length d] w fun v w'=>v=.bool true∧Fr0 w w':=by
 refine F15_of _ _ _ _ _ _ _ _ ?_
 unfold F15;try dsimp only [Liuviiubb,Uib,lb_,li_,ub_,ui_]
 refine BIf_ne (fun h=>absurd rfl h) (fun _=>?_)
 refine Loop.by (fun s w'=>∃i:Nat,i≤l.length∧s=[.int .i64 (i:Int),.bool false]∧Fr0 w w') (fun s _=>match s with | [.int _ i,_]=>l.length-i.toNat|_=>0) ⟨0,by omega,rfl,Fr.refl _ _⟩ ?_
 rintro _ w1 ⟨i,hi,rfl,f1⟩
 simp only [UnC_cons,UnN_nil,AsI_int,AsB_bool,Ld_drew]
 refine BIf_cases (fun hlt=>?_) (fun hge=>⟨by trivial,f1⟩)
 obtain⟨t,ht⟩:∃t,l[i]?=some t:=⟨l[i]'(by omega),List.getElem?_eq_getElem _⟩
 refine tr_ld (hp.fr0 f1) rfl ht hlt ?_
 refine tr_ld (hq.fr0 f1) rfl ht hlt ?_
 refine RunP.neqS S57 (fun w=>eq57 t t w) fun r hr=>?_
 have hr:r=true:=hr.2 rfl
 subst hr
 rw [AsB_bool]
 show BIf false _ _
 rw [BIf_false,w64 (by omega) (by omega)]
 exact⟨⟨i+1,by omega,rfl,f1.drew⟩,(by first|omega|(simp only [Int.toNat_natCast];omega))⟩
def keysOf (l:List (Nat×RootS)):List Int:=(l.map fun x=>((x.1:Nat):Int)).mergeSort (fun a b=>decide (a≤b))
theorem keysOf_perm (l:List (Nat×RootS)):(keysOf l).Perm (l.map fun x=>((x.1:Nat):Int)):=List.mergeSort_perm _ _
theorem keysOf_len (l:List (Nat×RootS)):(keysOf l).length=l.length:=by rw [(keysOf_perm l).length_eq,List.length_map]
theorem keysOf_eq {l:List (Nat×RootS)} {acc:List Int} (hp:acc.Perm (l.map fun x=>((x.1:Nat):Int))) (hs:acc.Pairwise (·≤·)):acc=keysOf l:=by
 refine List.Perm.eq_of_pairwise (le:=(·≤·)) (fun a b _ _ h1 h2=>by omega) hs ?_ (hp.trans (keysOf_perm l).symm)
 exact (List.pairwise_mergeSort (le:=fun a b:Int=>decide (a≤b)) (fun a b c h1 h2=>by simp at *;omega) (fun a b=>by simp;omega) _).imp fun h=>by simpa using h
def rootAt (l:List (Nat×RootS)) (k:Int):Int:=(keysOf l).getD (k.emod ((l.length:Int)+1)).toNat 1191936
theorem f12k {w:World} {ro:Ro} {J:Ids} {fr n:Nat} {S:St} (hS:Sys w ro J fr n S) (hl:S.roots.length≤1000000000) :
  Ret prog 12 #[.pointer (some ⟨J.e,0,none⟩)] w fun v w'=>∃p c,v=.slice p S.roots.length c∧Sl w' w.heap.size 30 1 p S.roots.length c ((keysOf S.roots).map (Value.int .u64))∧Fr0 w w':=by
 refine (f12 hS hl).mono ?_
 rintro v w' ⟨p,c,acc,h1,h2,h3,h4,h5⟩
 obtain rfl:=keysOf_eq h2 h3
 exact⟨p,c,h1,h4,h5⟩
theorem f23 {w:World} {q:Option Addr} {c:Nat} {l:List (Nat×RootS)} (h:Rd w q ((keysOf l).map (Value.int .u64))) (hl:l.length≤1000000000) (k:Int) (hk:I64 k) :
  Ret prog 23 #[.slice q l.length c,.int .i64 k] w fun v w'=>v=.int .u64 (rootAt l k)∧w'=w:=by
 refine F23_of _ _ _ _ _ _ ?_
 unfold F23;try dsimp only [li_]
 rw [w64 (by omega) (by omega)]
 refine Ret.use (f37 k _ (by omega) (by omega) hk) ?_
 rintro _ _ ⟨rfl,rfl⟩
 have h1:=Int.emod_nonneg k (by omega:((l.length:Int)+1)≠0)
 have h2:=Int.emod_lt_of_pos k (by omega:0<(l.length:Int)+1)
 have hr:k.emod ((l.length:Int)+1)=k%((l.length:Int)+1):=rfl
 have hkl:=keysOf_len l
 rw [AsI_int]
 unfold rootAt
 refine BIf_cases (fun hlt=>?_) (fun hge=>?_)
 ·have hi:(k.emod ((l.length:Int)+1)).toNat<(keysOf l).length:=by omega
  refine h.int hkl (by omega) (x:=(keysOf l)[(k.emod ((l.length:Int)+1)).toNat]) (List.getElem?_eq_getElem hi) ?_
  refine⟨?_,rfl⟩
  rw [List.getD_eq_getElem?_getD,List.getElem?_eq_getElem hi,Option.getD_some]
 ·refine⟨?_,rfl⟩
  rw [List.getD_eq_getElem?_getD,List.getElem?_eq_none (by omega),Option.getD_none]
theorem rootAt_cases (l:List (Nat×RootS)) (k:Int):∃a:Nat,rootAt l k=(a:Int)∧(a∈l.map (·.1)∨a=1191936):=by
 unfold rootAt
 by_cases hi:(k.emod ((l.length:Int)+1)).toNat<(keysOf l).length
 ·rw [List.getD_eq_getElem?_getD,List.getElem?_eq_getElem hi,Option.getD_some]
  have:=(keysOf_perm l).mem_iff.1 (List.getElem_mem hi)
  obtain⟨x,hx,e⟩:=List.mem_map.1 this
  exact⟨x.1,e.symm,.inl (List.mem_map.2 ⟨x,hx,rfl⟩)⟩
 ·rw [List.getD_eq_getElem?_getD,List.getElem?_eq_none (by omega),Option.getD_none]
  exact⟨1191936,rfl,.inr rfl⟩
def Ro.desk (ro:Ro) (w:World):Ro:=fun x=>if x<w.heap.size then ro x else (0,100)
theorem RExt.desk {w:World} {ro:Ro}:RExt w ro (ro.desk w):=fun x hx=>by unfold Ro.desk;rw [if_pos hx]
theorem Ro.desk_new {ro:Ro} {w:World} {x:Nat} (h:w.heap.size≤x):(ro.desk w) x=(0,100):=by unfold Ro.desk;rw [if_neg (by omega)]
abbrev FrD (ro:Ro) (w w':World):Prop:=Fr (fun b=>(ro b).1≠0∨ro b=(0,100)) w w'
def tkI (tk:List (Nat×Nat)):List (Int×Int):=tk.map fun r=>((r.1:Int),(r.2:Int))
structure DeskAt (w:World) (ro:Ro) (J:Ids) (n d B:Nat) (tk:List (Nat×Nat)):Prop where
 st:∃p c,Has w d [.pointer (some ⟨J.I.m,0,none⟩),.pointer (some ⟨J.b,0,none⟩),.pointer (some ⟨J.e,0,none⟩),.int .i64 (n:Int),.slice p tk.length c]∧Sl w B 68 2 p tk.length c (pairCells (tkI tk))∧∀x,On p x→ro x=(0,100)∧x≠d
 rd:ro d=(0,100)
 lo:B≤d
theorem DeskAt.fr {w w':World} {ro ro':Ro} {J:Ids} {n d B:Nat} {tk:List (Nat×Nat)} (h:DeskAt w ro J n d B tk) {T:Nat→Prop} (f:Fr T w w') (hT:∀x,(ro x).1=0→¬T x) (e:RExt w ro ro'):DeskAt w' ro' J n d B tk:=by
 obtain⟨p,c,h1,h2,h3⟩:=h.st
 exact⟨⟨p,c,h1.fr f (hT _ (by rw [h.rd])),h2.fr f (fun x hx=>hT x (by rw [(h3 x hx).1])),fun x hx=>by rw [e x (h2.lt x hx).2];exact h3 x hx⟩,by rw [e _ h1.lt];exact h.rd,h.lo⟩
structure LawAt (w0 w:World) (ro:Ro) (J:Ids) (n:Nat) (S:St) (d:Nat) (tk:List (Nat×Nat)):Prop where
 sys:Sys w ro J 256 n S
 inv:Inv 256 n tk S
 n1:1≤n∧n≤7
 desk:DeskAt w ro J n d w0.heap.size tk
 ext:∀b,b<w0.heap.size→(ro b).1=0
 fr:Fr0 w0 w
 b7:7≤w0.heap.size
theorem LawAt.fr0 {w0 w w':World} {ro:Ro} {J:Ids} {n d:Nat} {S:St} {tk:List (Nat×Nat)} (h:LawAt w0 w ro J n S d tk) (f:Fr0 w w'):LawAt w0 w' ro J n S d tk :=
 ⟨h.sys.fr0 f,h.inv,h.n1,h.desk.fr f (fun _ _ h=>h) (RExt.refl _ _),h.ext,h.fr.trans f,h.b7⟩
theorem LawAt.cut {w0 w:World} {ro:Ro} {J:Ids} {n d:Nat} {S:St} {tk:List (Nat×Nat)} (h:LawAt w0 w ro J n S d tk):LawAt w0 w (ro.cut w) J n S d tk :=
 ⟨h.sys.ext RExt.cut,h.inv,h.n1,h.desk.fr (Fr.refl (fun _=>False) _) (fun _ _ h=>h) RExt.cut,fun b hb=>by rw [RExt.cut b (Nat.lt_of_lt_of_le hb h.fr.size)];exact h.ext b hb,h.fr,h.b7⟩
theorem LawAt.sysT {w0 w w':World} {ro ro':Ro} {J:Ids} {n d:Nat} {S S':St} {tk:List (Nat×Nat)} (h:LawAt w0 w ro J n S d tk) (hS:Sys w' ro' J 256 n S') (f:FrR ro w w') (e:RExt w ro ro') (hI:Inv 256 n tk S'):LawAt w0 w' ro' J n S' d tk :=
 ⟨hS,hI,h.n1,h.desk.fr f (fun x hx h=>h hx) e,fun b hb=>by rw [e b (Nat.lt_of_lt_of_le hb h.fr.size)];exact h.ext b hb,h.fr.thenS f fun x hx hs=>hs (h.ext x hx),h.b7⟩
theorem desk_turn {w w1 w2:World} {ro:Ro} {J:Ids} {n d B:Nat} {S:St} {tk tk':List (Nat×Nat)} (hS:Sys w ro J 256 n S) (hB:7≤B) {p p':Option Addr} {c c':Nat} (hsl:Sl w B 68 2 p tk.length c (pairCells (tkI tk)))
  (hro:∀x,On p x→ro x=(0,100)∧x≠d) (hd:ro d=(0,100)) (hdB:B≤d) (hdl:d<w.heap.size) (hsl':Sl w1 B 68 2 p' tk'.length c' (pairCells (tkI tk'))) (f1:Fr (On p) w w1) (hon:∀b,On p' b→On p b∨w.heap.size≤b)
  (hst:Has w2 d [.pointer (some ⟨J.I.m,0,none⟩),.pointer (some ⟨J.b,0,none⟩),.pointer (some ⟨J.e,0,none⟩),.int .i64 (n:Int),.slice p' tk'.length c']) (f2:Fr (·=d) w1 w2) :
  Sys w2 (ro.desk w) J 256 n S∧DeskAt w2 (ro.desk w) J n d B tk'∧Fr (fun x=>On p x∨x=d) w w2:=by
 have f12:Fr (fun x=>On p x∨x=d) w w2:=(f1.mono fun _ _ h=>.inl h).trans (f2.mono fun _ _ h=>.inr h)
 have hne:∀x,On p' x→(ro.desk w) x=(0,100)∧x≠d:=fun x hx=>by
  rcases hon x hx with h|h
  ·rw [RExt.desk x (hsl.lt x h).2];exact hro x h
  ·exact⟨Ro.desk_new h,by omega⟩
 have hdc:(ro.desk w) d=(0,100):=by rw [RExt.desk d hdl];exact hd
 refine⟨(hS.ext RExt.desk).frO f12 (fun x hx=>?_) (fun x hx7 hx=>?_),⟨⟨p',c',hst,hsl'.fr f2 (fun x hx=>(hne x hx).2),hne⟩,hdc,hdB⟩,f12⟩
 ·rcases hx with hx|rfl
  ·rw [RExt.desk x (hsl.lt x hx).2,(hro x hx).1]
  ·rw [hdc]
 ·rcases hx with hx|rfl
  ·have:=(hsl.lt x hx).1;omega
  ·omega
structure Op17 where
 k:Int
 r:Int
 sid:Int
 lq:Option Addr
 ln:Nat
 lc:Nat
 vq:Option Addr
 vn:Nat
 vc:Nat
 ap:Int
 bits:Nat
 ng:Bool
 xn:Bool
 nq:Option Addr
 nn:Nat
 nc:Nat
 a0:Int
 a1:Int
 a2:Int
 a3:Int
 a4:Bool
 cn:Int
 al:Int
def Op17.cells (o:Op17):List Value:=[.int .i64 o.k,.int .i64 o.r,.int .i64 o.sid,.slice o.lq o.ln o.lc,.slice o.vq o.vn o.vc,.int .i64 o.ap,.int .u32 (o.bits:Int),.bool o.ng,.bool o.xn,.slice o.nq o.nn o.nc,
 .int .i64 o.a0,.int .u32 o.a1,.int .i64 o.a2,.int .u32 o.a3,.bool o.a4,.int .i64 o.cn,.int .i64 o.al]
structure OpIn (w:World) (B:Nat) (o:Op17) (l:List Tr) (vas:List Nat):Prop where
 k:I64 o.k
 r:I64 o.r
 sid:I64 o.sid
 ap:I64 o.ap
 cn:I64 o.cn
 al:I64 o.al
 bits:o.bits<4294967296
 ln:o.ln=l.length
 lc:l.length≤o.lc
 lr:Rd w o.lq (trCells l)
 ls:l.length≤9000000000000
 lw:∀t∈l,t.wf
 lo:l≠[]→∀b,On o.lq b→b<B
 vn:o.vn=vas.length
 vr:Rd w o.vq (vas.map fun v=>Value.int .u32 ((v:Nat):Int))
 vs:vas.length≤100000000000000
 vw:∀v∈vas,v<4294967296
theorem OpIn.fr0 {w w':World} {B:Nat} {o:Op17} {l:List Tr} {vas:List Nat} (h:OpIn w B o l vas) (f:Fr0 w w'):OpIn w' B o l vas:={ h with lr:=h.lr.fr0 f,vr:=h.vr.fr0 f }
inductive DoesR (n:Nat) (o:Op17) (l:List Tr) (vas:List Nat) (S:St) (tk:List (Nat×Nat)):Int→Nat→St→List (Nat×Nat)→Prop
 | root {x e:Nat} {S':St} (hk:o.k=1) (h:RootR n S x e S'):DoesR n o l vas S tk (x:Int) e S' tk
 | free {a e:Nat} {S':St} (hk:o.k=2) (ha:rootAt S.roots o.r=(a:Int)) (h:FreeR S a e S'):DoesR n o l vas S tk 0 e S' tk
 | put {a e:Nat} {S':St} (hk:o.k=3) (ha:rootAt S.roots o.r=(a:Int)) (h:PutE n S a l e S'):DoesR n o l vas S tk 0 e S' tk
 | fits {a e:Nat} (hk:o.k=4) (ha:rootAt S.roots o.r=(a:Int)) (h:FitsE n S a l e):DoesR n o l vas S tk 0 e S tk
 | cut {a e:Nat} {S':St} (hk:o.k=5) (ha:rootAt S.roots o.r=(a:Int)) (h:CutE S a o.sid vas e S'):DoesR n o l vas S tk 0 e S' tk
 | chg {a e:Nat} {S':St} (hk:o.k=6) (ha:rootAt S.roots o.r=(a:Int)) (h:ChgE S a o.sid o.ap o.bits o.ng o.xn vas e S'):DoesR n o l vas S tk 0 e S' tk
 | empty {a e:Nat} {S':St} (hk:o.k=7) (ha:rootAt S.roots o.r=(a:Int)) (h:EmptyE S a o.sid e S'):DoesR n o l vas S tk 0 e S' tk
 | take {r:Nat} {p':Pool} (hk:o.k=12) (h:PTake S.p o.cn o.al r 0 p'):DoesR n o l vas S tk (r:Int) 0 { S with p:=p' } (tk++[(r,o.cn.toNat)])
 | takeN {r e:Nat} {p':Pool} (hk:o.k=12) (he:e≠0) (h:PTake S.p o.cn o.al r e p'):DoesR n o l vas S tk (r:Int) e S tk
 | drop {l1 l2:List (Nat×Nat)} {f c:Nat} {x:Int} (hk:o.k=13) (ht:tk=l1++(f,c) :: l2):DoesR n o l vas S tk x 0 { S with p:=S.p.turned ((f:Int)-S.p.first).toNat (· - 1) (c:Int).toNat } (l1++l2)
 | dropN (hk:o.k=13) (ht:tk=[]):DoesR n o l vas S tk 0 0 S tk
 | none (hk:(o.k<1∨7<o.k)∧o.k≠12∧o.k≠13):DoesR n o l vas S tk 0 0 S tk
theorem Inv.tkLen {fr n:Nat} {tk:List (Nat×Nat)} {S:St} (h:Inv fr n tk S):tk.length≤fr:=by
 have h1:(takenF tk).Nodup:=(List.nodup_append.1 (List.nodup_append.1 h.acc.nd).2.1).2.1
 have h2:=len_lt h1 (N:=fr) fun x hx=>by
  have:=h.acc.rg x (List.mem_append.2 (.inr (List.mem_append.2 (.inr hx))))
  have:=h.lt
  omega
 have h3:∀tk:List (Nat×Nat),(∀r∈tk,1≤r.2)→tk.length≤(takenF tk).length:=by
  intro tk
  induction tk with
  | nil=>intro _;exact Nat.zero_le _
  | cons r l ih =>
   intro hh
   have:=ih fun r hr=>hh r (by simp [hr])
   have h5:=hh r (by simp)
   have h6:(takenF (r :: l)).length=r.2+(takenF l).length:=by simp [takenF,span]
   rw [h6,List.length_cons]
   omega
 exact Nat.le_trans (h3 tk h.tk1) h2
theorem rootAt_lt {fr n:Nat} {tk:List (Nat×Nat)} {S:St} (h:Inv fr n tk S) (hfr:fr≤65536) (k:Int):∃a:Nat,rootAt S.roots k=(a:Int)∧a<2^40:=by
 obtain⟨a,ha,h1|h1⟩:=rootAt_cases S.roots k
 ·obtain⟨x,hx,rfl⟩:=List.mem_map.1 h1
  exact⟨x.1,ha,by have:=(h.small hfr (a:=x.1) (R:=x.2) hx).1;omega⟩
 ·exact⟨a,ha,by omega⟩
theorem Inv.rl {n:Nat} {tk:List (Nat×Nat)} {S:St} (h:Inv 256 n tk S):S.roots.length≤1000000000:=by
 have:=h.rootsLen (by decide)
 omega
theorem Inv.so {fr n:Nat} {tk:List (Nat×Nat)} {S:St} (h:Inv fr n tk S) {a:Nat}:∀R,root? S.roots a=some R→R.blocks.Pairwise fun a b=>a.va<b.va:=fun R hR=>(h.root _ (root_mem hR)).blk.sorted
def S0 (k:Nat):St:=⟨⟨fun _=>0,[]⟩,⟨8,List.replicate k 0⟩,[],[]⟩
theorem f9 {w:World} (hG:Gl w) (c0 c1 c2 c3 c4 c5 c6 c7 c8:Int) (h7:I64 c7) (h8:I64 c8) :
  Ret prog 9 #[.agg #[.int .i64 c0,.int .i64 c1,.int .i64 c2,.int .i64 c3,.int .i64 c4,.int .i64 c5,.int .i64 c6,.int .i64 c7,.int .i64 c8],.int .i64 0] w fun v w'=>∃(J:Ids) (ro:Ro) (n d k:Nat),v=.pointer (some ⟨d,0,none⟩)∧LawAt w w' ro J n (S0 k) d []:=by
 refine F9_of _ _ _ _ _ _ _ _ _ _ _ _ ?_
 unfold F9;try dsimp only [Upi,li_,ui_,up_]
 refine New.mk fun w1 n1 f1 s1=>?_
 try simp only [n1.ld_iff,sb_,Nat.reduceAdd]
 refine ret_eq (f37 c7 7 (by decide) (by decide) h7) ?_
 simp only [sb_,Nat.reduceAdd]
 have hn1:=Int.emod_nonneg c7 (by decide:(7:Int)≠0)
 have hn2:=Int.emod_lt_of_pos c7 (by decide:(0:Int)<7)
 obtain⟨m,hm⟩:∃m:Nat,c7.emod 7=(m:Int):=⟨(c7%7).toNat,by show c7%7=_;omega⟩
 have hm7:m<7:=by have:c7.emod 7=c7%7:=rfl;omega
 rw [hm]
 refine ret_eq (f37 0 4 (by decide) (by decide) ⟨by decide,by decide⟩) ?_
 simp only [sb_,Nat.reduceAdd]
 rw [show (0:Int).emod 4=0 from rfl,show IntKind.i64.wrap (1+0)=1 from by kernel_rfl]
 refine ret_eq (f37 1 3 (by decide) (by decide) ⟨by decide,by decide⟩) ?_
 simp only [sb_,Nat.reduceAdd]
 rw [show (1:Int).emod 3=1 from rfl,show IntKind.i64.wrap (1+1)=2 from by kernel_rfl]
 have hG1:=hG.fr0 f1
 have hsz:=hG.gr.size
 have hs1:=f1.size
 refine Ret.use (f38 (fun _=>(0,0)) hG1.gr 256 1 2 1 (by decide) (by decide) (by decide) (by decide) (by decide) (by decide) 0 0) ?_
 rintro _ w2 ⟨I,ro2,rfl,e2,hM,f2⟩
 have hs2:=f2.size
 have n2:=n1.fr0 f2
 simp only [sb_,Nat.reduceAdd]
 try simp only [n2.ld_iff,sb_,Nat.reduceAdd]
 refine ret_eq (f37 c8 248 (by decide) (by decide) h8) ?_
 simp only [sb_,Nat.reduceAdd]
 have hk1:=Int.emod_nonneg c8 (by decide:(248:Int)≠0)
 have hk2:=Int.emod_lt_of_pos c8 (by decide:(0:Int)<248)
 obtain⟨k,hk⟩:∃k:Nat,1+c8.emod 248=(k:Int):=⟨(1+c8%248).toNat,by show 1+c8%248=_;omega⟩
 have hk3:1≤k∧k≤248:=by have:c8.emod 248=c8%248:=rfl;omega
 rw [hk,w64 (by omega) (by omega)]
 refine Ret.use (f39 8 (k:Int) (by decide)) ?_
 rintro _ w3 (⟨he,_⟩|⟨_,_,_,_,_,b,bu,bd,rfl,hP,f3,l1,l2,l3⟩)
 ·exfalso;apply he;unfold newErr;rw [if_neg (by omega),if_neg (by omega)]
 have hP:PoolAt w3 b bu bd ⟨8,List.replicate k 0⟩:=hP
 simp only [sb_,Nat.reduceAdd]
 refine ret_eq (f17 0) ?_
 simp only [sb_,Nat.reduceAdd]
 refine BIf_ne (fun h=>absurd rfl h) (fun _=>?_)
 refine ret_eq (f17 0) ?_
 simp only [sb_,Nat.reduceAdd]
 refine BIf_ne (fun h=>absurd rfl h) (fun _=>?_)
 simp only [Option.isNone_some,BIf_false]
 rw [w64 (n:=1+(m:Int)) (by omega) (by omega),show (1:Int)+(m:Int)=((m+1:Nat):Int) by omega]
 have E3:RExt w2 ro2 (fun x=>if x<w2.heap.size then ro2 x else (12,0)):=fun x hx=>by simp only [if_pos hx]
 have hG3:=hG1.fr0 (f2.trans f3)
 have hlow:Low (fun x=>if x<w2.heap.size then ro2 x else (12,0)):=fun x hx=>by
  simp only [if_pos (by omega:x<w2.heap.size)]
  rw [e2 x (by omega)]
 have hM3:MachAt w3 (fun x=>if x<w2.heap.size then ro2 x else (12,0)) I 256 ⟨fun _=>0,[]⟩:=(hM.ext E3).fr0 f3
 refine Ret.use (f40 (fr:=256) hG3 hlow hM3 hP ?_ (n:=m+1) (by omega) (by simp;omega)) ?_
 ·intro x hx
  have:¬x<w2.heap.size:=by rcases hx with rfl|rfl|rfl<;>omega
  simp only [if_neg this]
 rintro _ w4 ⟨J,ro4,rfl,rfl,rfl,rfl,rfl,e4,hS4,f4⟩
 simp only [sb_,Nat.reduceAdd]
 refine ret_eq (f17 0) ?_
 simp only [sb_,Nat.reduceAdd]
 refine BIf_ne (fun h=>absurd rfl h) (fun _=>?_)
 simp only [Option.isNone_some,BIf_false]
 have f04:Fr0 w w4:=f1.trans (f2.trans (f3.trans f4))
 refine New.mk fun w5 n5 f5 s5=>?_
 have hs4:=f04.size
 have hs3:=f3.size
 refine⟨J,ro4.desk w4,m+1,w4.heap.size,k,rfl,(hS4.ext RExt.desk).fr0 f5,Inv.start (by omega) _,by omega,⟨⟨none,0,n5,Sl.nil _ _ _ _,fun x hx=>?_⟩,Ro.desk_new (Nat.le_refl _),hs4⟩,fun x hx=>?_,f04.trans f5,hsz⟩
 ·obtain⟨a,h,_⟩:=hx;cases h
 ·rw [RExt.desk x (by omega),e4 x (by omega)]
  simp only [if_pos (by omega:x<w2.heap.size)]
  rw [e2 x (by omega)]
theorem tkI_len (tk:List (Nat×Nat)):(pairCells (tkI tk)).length=tk.length*2:=by
 unfold pairCells
 rw [flat_len pair_len,tkI,List.length_map]
theorem pair_one (l:List (Int×Int)):∀u∈pairCells l,u.oneCell'=true:=by
 intro u hu
 obtain⟨x,_,h⟩:=List.mem_flatMap.1 hu
 simp only [List.mem_cons,List.not_mem_nil,or_false] at h
 rcases h with rfl|rfl<;>rfl
theorem tkI_append (a b:List (Nat×Nat)):pairCells (tkI (a++b))=pairCells (tkI a)++pairCells (tkI b):=by simp [pairCells,tkI]
theorem tkI_take (tk:List (Nat×Nat)) (i:Nat):(pairCells (tkI tk)).take (i*2)=pairCells (tkI (tk.take i)):=by
 unfold pairCells
 rw [flat_take pair_len,tkI,tkI,List.map_take]
theorem tkI_drop (tk:List (Nat×Nat)) (i:Nat):(pairCells (tkI tk)).drop (i*2)=pairCells (tkI (tk.drop i)):=by
 unfold pairCells
 rw [flat_drop pair_len,tkI,tkI,List.map_drop]
set_option maxHeartbeats 800000 in
theorem f11 {w0 w:World} {ro:Ro} {J:Ids} {n d:Nat} {S:St} {tk:List (Nat×Nat)} (H:LawAt w0 w ro J n S d tk) {o:Op17} {l:List Tr} {vas:List Nat} (hO:OpIn w0 w0.heap.size o l vas) :
  Ret prog 11 #[.pointer (some ⟨d,0,none⟩),.agg o.cells.toArray] w fun v w'=>∃(x:Int) (e:Nat) (S':St) (tk':List (Nat×Nat)) (ro':Ro),v=.tuple #[.int .u64 x,.int .i64 (e:Int)]∧DoesR n o l vas S tk x e S' tk'∧RExt w ro ro'∧LawAt w0 w' ro' J n S' d tk'∧FrD ro w w':=by
 refine F11_of _ _ _ _ _ _ _ _ _ _ _ _ _ _ _ _ _ _ _ _ _ _ _ _ _ _ ?_
 unfold F11;try dsimp only [Liubb,Uii,Uvi,ce_,lb_,li_,lp_,ls_,ui_]
 have hI:=H.inv
 have hn:=H.n1
 refine New.mk fun w1 n1 f1 s1=>?_
 have H1:=H.cut.fr0 f1
 have hrw:((ro.cut w) w.heap.size).1=0:=Ro.cut_new (Nat.le_refl _)
 have e1:RExt w ro (ro.cut w):=RExt.cut
 have hsz1:w.heap.size≤w1.heap.size:=f1.size
 obtain⟨p1,c1,d1,_,_⟩:=H1.desk.st
 try simp only [d1.ld_iff,n1.ld_iff,sb_,Nat.reduceAdd]
 refine Ret.use (f12k (H1.fr0 (Fr.refl _ _).drew).sys hI.rl) ?_
 rintro _ w2 ⟨q2,c2,rfl,sl2,f2⟩
 have f2:=f2.of_drew
 have H2:=H1.fr0 f2
 have n2:=n1.fr0 f2
 have hsz2:w.heap.size≤w2.heap.size:=Nat.le_trans hsz1 f2.size
 obtain⟨p,c,d2,sl,hon⟩:=H2.desk.st
 simp only [sb_,Nat.reduceAdd]
 refine⟨n2.cell.trans rfl,?_⟩
 refine ret_eq (f23 sl2.rd hI.rl o.r hO.r) ?_
 obtain⟨a,ha,ha40⟩:=rootAt_lt hI (by decide) o.r
 rw [ha]
 have hO2:=hO.fr0 H2.fr
 have hlq:l≠[]→∀b,On o.lq b→((ro.cut w) b).1=0:=fun hl b hb=>H2.ext b (hO.lo hl b hb)
 have hstd:=hI.std hn
 have endE:∀{ro':Ro},RExt w2 (ro.cut w) ro'→RExt w ro ro':=fun E=>RExt.then e1 hsz2 E
 have frd:∀{a b:World},Fr0 w a→FrR (ro.cut w) a b→FrD ro w b:=fun f F=>(f.mono fun _ _ h=>h.elim:FrD ro w _).thenS F fun x hx hs=>.inl (by rw [RExt.cut x hx] at hs;exact hs)
 have f02:Fr0 w w2:=f1.trans f2
 have f02d:Fr0 w w2.drew:=f02.drew
 try simp only [n2.ld_iff,d2.ld_iff,sb_,Nat.reduceAdd]
 refine BIf_eq (fun hk=>?_) (fun k1=>?_)
 ·try simp only [d2.ld_iff,sb_,Nat.reduceAdd]
  refine Ret.use (f41 H2.sys (by decide) hI.fresh) ?_
  rintro _ w3 ⟨x,e,S',ro',rfl,hr,E,hS',F⟩
  simp only [sb_,Nat.reduceAdd]
  refine ret_eq (f17 _) ?_
  simp only [sb_,Nat.reduceAdd]
  exact⟨(x:Int),e,S',tk,ro',by trivial,.root hk hr,endE E,H2.sysT hS' F E (hI.rootR hr),frd f02 F⟩
 try simp only [n2.ld_iff,d2.ld_iff,sb_,Nat.reduceAdd]
 refine BIf_eq (fun hk=>?_) (fun k2=>?_)
 ·try simp only [d2.ld_iff,sb_,Nat.reduceAdd]
  refine Ret.use (f18 H2.sys a (fun R hR=>?_) (fun R hR _ _=>(hI.freeH hR).2)) ?_
  ·have:=hI.small (by decide) (root_mem hR)
   omega
  rintro _ w3 ⟨e,S',rfl,hr,hS',F⟩
  simp only [sb_,Nat.reduceAdd]
  refine ret_eq (f17 _) ?_
  simp only [sb_,Nat.reduceAdd]
  exact⟨0,e,S',tk,ro.cut w,by trivial,.free hk ha hr,e1,H2.sysT hS' F (RExt.refl _ _) (hI.freeR hr),frd f02 F⟩
 try simp only [n2.ld_iff,d2.ld_iff,sb_,Nat.reduceAdd]
 refine BIf_eq (fun hk=>?_) (fun k3=>?_)
 ·try simp only [n2.ld_iff,d2.ld_iff,sb_,Nat.reduceAdd]
  rw [hO.ln]
  refine Ret.use (f24 (H2.fr0 (Fr.refl _ _).drew).sys hstd (by decide) hn a ha40 (hO2.lr.fr0 (Fr.refl _ _).drew) hlq hO.lc hO.ls hO.lw (hI.putPre hn (by decide))) ?_
  rintro _ w3 ⟨e,S',ro',rfl,hr,E,hS',F⟩
  simp only [sb_,Nat.reduceAdd]
  refine ret_eq (f17 _) ?_
  simp only [sb_,Nat.reduceAdd]
  exact⟨0,e,S',tk,ro',by trivial,.put hk ha hr,endE E,(H2.fr0 (Fr.refl _ _).drew).sysT hS' F E (hI.putE (by decide) hr),frd f02d F⟩
 try simp only [n2.ld_iff,d2.ld_iff,sb_,Nat.reduceAdd]
 refine BIf_eq (fun hk=>?_) (fun k4=>?_)
 ·try simp only [n2.ld_iff,d2.ld_iff,sb_,Nat.reduceAdd]
  rw [hO.ln]
  refine Ret.use (f29 (H2.fr0 (Fr.refl _ _).drew).sys hstd hn a (hO2.lr.fr0 (Fr.refl _ _).drew) hlq hO.lc hO.ls hO.lw) ?_
  rintro _ w3 ⟨e,ro',rfl,hr,E,hS',F⟩
  simp only [sb_,Nat.reduceAdd]
  refine ret_eq (f17 _) ?_
  simp only [sb_,Nat.reduceAdd]
  exact⟨0,e,S,tk,ro',by trivial,.fits hk ha hr,endE E,(H2.fr0 (Fr.refl _ _).drew).sysT hS' (F.R (by decide)) E hI,frd f02d (F.R (by decide))⟩
 try simp only [n2.ld_iff,d2.ld_iff,sb_,Nat.reduceAdd]
 refine BIf_eq (fun hk=>?_) (fun k5=>?_)
 ·try simp only [n2.ld_iff,d2.ld_iff,sb_,Nat.reduceAdd]
  rw [hO.vn]
  refine Ret.use (f44 (H2.fr0 (Fr.refl _ _).drew).sys hstd (by decide) a ha40 hI.so o.sid (hO2.vr.fr0 (Fr.refl _ _).drew) hO.vw hO.vs (fun R out h=>Nat.le_trans (hI.choLen hn h) (by decide)) (hI.cutPre hn (by decide))) ?_
  rintro _ w3 ⟨e,S',ro',rfl,hr,E,hS',F⟩
  simp only [sb_,Nat.reduceAdd]
  refine ret_eq (f17 _) ?_
  simp only [sb_,Nat.reduceAdd]
  exact⟨0,e,S',tk,ro',by trivial,.cut hk ha hr,endE E,(H2.fr0 (Fr.refl _ _).drew).sysT hS' F E (hI.cutE hr),frd f02d F⟩
 try simp only [n2.ld_iff,d2.ld_iff,sb_,Nat.reduceAdd]
 refine BIf_eq (fun hk=>?_) (fun k6=>?_)
 ·try simp only [n2.ld_iff,d2.ld_iff,sb_,Nat.reduceAdd]
  rw [hO.vn]
  refine Ret.use (f45 (H2.fr0 (Fr.refl _ _).drew).sys hstd (by decide) a ha40 hI.so o.sid o.ap o.bits o.ng o.xn (hO2.vr.fr0 (Fr.refl _ _).drew) hO.vw hO.vs (fun R out h=>Nat.le_trans (hI.choLen hn h) (by decide)) (hI.chgPre hn (by decide))) ?_
  rintro _ w3 ⟨e,S',ro',rfl,hr,E,hS',F⟩
  simp only [sb_,Nat.reduceAdd]
  refine ret_eq (f17 _) ?_
  simp only [sb_,Nat.reduceAdd]
  exact⟨0,e,S',tk,ro',by trivial,.chg hk ha hr,endE E,(H2.fr0 (Fr.refl _ _).drew).sysT hS' F E (hI.chgE hr),frd f02d F⟩
 try simp only [n2.ld_iff,d2.ld_iff,sb_,Nat.reduceAdd]
 refine BIf_eq (fun hk=>?_) (fun k7=>?_)
 ·try simp only [n2.ld_iff,d2.ld_iff,sb_,Nat.reduceAdd]
  refine Ret.use (f19 (H2.fr0 (Fr.refl _ _).drew).sys hstd (by decide) a ha40 hI.so o.sid ?_ ?_ (hI.emptyPre hn (by decide))) ?_
  ·intro R hR t ht
   exact zero_pre hn (by decide) (hI.xi (root_mem hR)) (hI.root _ (root_mem hR)) (hI.frames (root_mem hR)).1 ht
  ·intro R hR
   exact tabs_bound hn (hI.root _ (root_mem hR))
  rintro _ w3 ⟨e,S',ro',rfl,hr,E,hS',F⟩
  simp only [sb_,Nat.reduceAdd]
  refine ret_eq (f17 _) ?_
  simp only [sb_,Nat.reduceAdd]
  exact⟨0,e,S',tk,ro',by trivial,.empty hk ha hr,endE E,(H2.fr0 (Fr.refl _ _).drew).sysT hS' F E (hI.emptyE hr),frd f02d F⟩
 try simp only [n2.ld_iff,d2.ld_iff,sb_,Nat.reduceAdd]
 refine BIf_eq (fun hk=>?_) (fun k8=>?_)
 ·try simp only [n2.ld_iff,d2.ld_iff,sb_,Nat.reduceAdd]
  have Hd:=H2.fr0 (Fr.refl _ _).drew
  refine Ret.use (ps_ptake Hd.sys.ps Hd.sys.gl Hd.sys.low o.cn o.al hO.cn.2) ?_
  rintro _ w3 ⟨r,e,p',rfl,ht,hps,F⟩
  have hS3:Sys w3 (ro.cut w) J 256 n { S with p:=p' }:=Hd.sys.psT (RExt.refl _ _) hps F
  have FR:FrR (ro.cut w) w2.drew w3:=F.R (by decide)
  have n3:=n2.drew.fr FR (fun h=>h hrw)
  have f03:Fr0 w0 w3:=Hd.fr.thenS FR fun x hx hs=>hs (Hd.ext x hx)
  simp only [sb_,Nat.reduceAdd]
  refine ret_eq (f17 _) ?_
  simp only [sb_,Nat.reduceAdd]
  refine BIf_eq (fun he=>?_) (fun he=>?_)
  ·obtain rfl:e=0:=by omega
   obtain⟨hI3,hcn⟩:=(hI.take ht).1 rfl
   have D3:=Hd.desk.fr FR (fun x hx h=>h hx) (RExt.refl _ _)
   obtain⟨p3,c3,d3,sl3,hon3⟩:=D3.st
   have htl:=hI.tkLen
   try simp only [d3.ld_iff,n3.ld_iff,sb_,Nat.reduceAdd]
   refine RunV.build1 E55 (by decide) rfl fun w4 b4 f4 s4=>?_
   have d4:=d3.fr0 f4.of_drew
   have sl4:=sl3.fr0 f4.of_drew
   simp only [sb_,Nat.reduceAdd]
   refine⟨d4.cell.trans rfl,?_⟩
   have hB4:w0.heap.size≤w4.heap.size:=Nat.le_trans f03.size f4.of_drew.size
   refine append_sl E55 sl4 hB4 (news:=[.int .i64 (r:Int),.int .i64 o.cn]) (m:=1) (fun j u hu=>?_) rfl (fun u hu=>?_) (by simp only [maxLen];omega) (by omega) (fun p5 c5 w5 sl5 f5 hon5=>?_)
   ·rw [Nat.zero_add];exact b4.cell.trans hu
   ·simp only [List.mem_cons,List.not_mem_nil,or_false] at hu
    rcases hu with rfl|rfl<;>rfl
   have d5:=d4.fr f5 (fun h=>(hon3 _ h).2 rfl)
   simp only [sb_,Nat.reduceAdd]
   refine d5.st (by simp) rfl fun w6 d6 f6 s6=>?_
   refine ret_eq (f17 _) ?_
   simp only [sb_,Nat.reduceAdd]
   have hS4:Sys w4 (ro.cut w) J 256 n { S with p:=p' }:=hS3.fr0 f4.of_drew
   have hcells:pairCells (tkI tk)++[.int .i64 (r:Int),.int .i64 o.cn]=pairCells (tkI (tk++[(r,o.cn.toNat)])):=by
    rw [tkI_append]
    have:((o.cn.toNat:Nat):Int)=o.cn:=by omega
    simp [pairCells,tkI,this]
   rw [hcells] at sl5
   have hlen:tk.length+1=(tk++[(r,o.cn.toNat)]).length:=by simp
   rw [hlen] at sl5 d6
   obtain⟨k1,k2,k3⟩:=desk_turn hS4 H.b7 sl4 hon3 D3.rd D3.lo d4.lt sl5 f5 hon5 d6 f6
   have hE:RExt w ro ((ro.cut w).desk w4):=RExt.then e1 (Nat.le_trans hsz2 (Nat.le_trans FR.size f4.of_drew.size)) RExt.desk
   have htr:=(DoesR.take (n:=n) (o:=o) (l:=l) (vas:=vas) (tk:=tk) hk ht)
   rw [show IntKind.u64.wrap (r:Int)=(r:Int) from wu64 (by omega) (by have:=hI.lt;obtain⟨_,_,_,k⟩:=ht.acc hI.acc;have:=(k rfl).2.2.1;omega)]
   refine⟨(r:Int),0,_,_,(ro.cut w).desk w4,by trivial,htr,hE,⟨k1,hI3,hn,k2,fun b hb=>by rw [hE b (Nat.lt_of_lt_of_le hb H.fr.size)];exact H.ext b hb,
    (f03.trans f4.of_drew).newS k3 (fun b hb=>hb.elim (fun h=>(sl4.lt b h).1) (fun h=>by rw [h];exact D3.lo)),H.b7⟩,?_⟩
   refine ((frd f02d FR).trans (f4.of_drew.mono fun _ _ h=>h.elim)).thenS k3 fun x hx hs=>.inr ?_
   rcases hs with hs|hs
   ·have h1:=(hon3 x hs).1
    rw [RExt.cut x hx] at h1;exact h1
   ·rw [hs] at hx ⊢
    have h1:=D3.rd
    rw [RExt.cut d hx] at h1;exact h1
  ·refine ret_eq (f17 _) ?_
   simp only [sb_,Nat.reduceAdd]
   obtain rfl:=(hI.take ht).2 (by omega)
   have hr0:r=0:=(ht.err (by omega)).2
   rw [show IntKind.u64.wrap (r:Int)=(r:Int) from wu64 (by omega) (by omega)]
   exact⟨(r:Int),e,S,tk,ro.cut w,by trivial,.takeN hk (by omega) ht,e1,Hd.sysT hS3 FR (RExt.refl _ _) hI,frd f02d FR⟩
 try simp only [n2.ld_iff,d2.ld_iff,sb_,Nat.reduceAdd]
 refine BIf_eq (fun hk=>?_) (fun k9=>?_)
 ·try simp only [n2.ld_iff,d2.ld_iff,sb_,Nat.reduceAdd]
  refine BIf_cases (fun h0=>?_) (fun h0=>?_)
  ·have hpos:0<tk.length:=by omega
   have htl:=hI.tkLen
   try simp only [n2.ld_iff,d2.ld_iff,sb_,Nat.reduceAdd]
   refine ret_eq (f37 o.cn _ (by omega) (by omega) hO.cn) ?_
   have m1:=Int.emod_nonneg o.cn (by omega:((tk.length:Int))≠0)
   have m2:=Int.emod_lt_of_pos o.cn (by omega:0<(tk.length:Int))
   obtain⟨i,hi⟩:∃i:Nat,o.cn.emod (tk.length:Int)=(i:Int):=⟨(o.cn%(tk.length:Int)).toNat,by show o.cn%_=_;omega⟩
   have hil:i<tk.length:=by have:o.cn.emod (tk.length:Int)=o.cn%(tk.length:Int):=rfl;omega
   rw [hi]
   try simp only [n2.ld_iff,d2.ld_iff,sb_,Nat.reduceAdd]
   obtain⟨⟨f,cc⟩,hfc⟩:∃t,tk[i]?=some t:=⟨tk[i],List.getElem?_eq_getElem hil⟩
   refine pair_ld (sl.rd.fr0 (Fr.refl _ _).drew) rfl (t:=((f:Int),(cc:Int))) (by simp [tkI,hfc]) (by omega) ?_
   dsimp only
   have hdlt:=d2.lt
   have hle:=sl.le
   refine New.mk fun w3 n3 f3 s3=>?_
   have f3:=f3.of_drew
   change Has w3 w2.heap.size _ at n3
   refine n3.st (by simp) rfl fun w4 n4 f4 s4=>?_
   refine n4.st (by simp) rfl fun w5 n5 f5 s5=>?_
   have f25:Fr0 w2 w5:=(f3.new f4 (Nat.le_refl _)).new f5 (Nat.le_refl _)
   have d5:=d2.fr0 f25
   have sl5:=sl.fr0 f25
   have hs25:w2.heap.size≤w5.heap.size:=f25.size
   try simp only [d5.ld_iff,n5.ld_iff,sb_,Nat.reduceAdd]
   refine⟨by omega,by omega,?_⟩
   try simp only [d5.ld_iff,n5.ld_iff,sb_,Nat.reduceAdd]
   rw [w64 (n:=(i:Int)+1) (by omega) (by omega),show ((i:Int)+1).toNat=i+1 by omega,Int.toNat_natCast]
   refine⟨by omega,by omega,?_⟩
   have hB:w0.heap.size≤w2.heap.size:=H2.fr.size
   refine RunV.build0 E55 w0.heap.size (Nat.le_trans hB hs25) fun p6 w6 sl6 f6 hon6=>?_
   have f6:=f6.of_drew
   change ∀b,On p6 b→w5.heap.size≤b at hon6
   have f26:Fr0 w2 w6:=f25.trans f6
   have hs26:w2.heap.size≤w6.heap.size:=f26.size
   have d6:=d5.fr0 f6
   simp only [sb_,Nat.reduceAdd]
   refine⟨d6.cell.trans rfl,d6.cell.trans rfl,?_⟩
   refine append_src E55 sl6 (Nat.le_trans hB hs26) ((sl5.fr0 f6).src_sub (lo:=0) (hi:=i) (by omega) (by omega)) (fun u hu=>pair_one _ u (List.mem_of_mem_drop (List.mem_of_mem_take hu))) (by simp only [maxLen];omega) (by omega) fun p7 c7 w7 sl7 f7 hon7=>?_
   rw [Nat.zero_add,List.nil_append] at sl7
   have f27:Fr0 w2 w7:=f26.newS f7 (fun b hb=>Nat.le_trans hs25 (hon6 b hb))
   have hs27:w2.heap.size≤w7.heap.size:=f27.size
   have d7:=d2.fr0 f27
   simp only [sb_,Nat.reduceAdd]
   refine⟨d7.cell.trans rfl,?_⟩
   refine append_src E55 sl7 (Nat.le_trans hB hs27) ((sl.fr0 f27).src_sub (lo:=i+1) (hi:=tk.length) (by omega) (by omega)) (fun u hu=>pair_one _ u (List.mem_of_mem_drop (List.mem_of_mem_take hu))) (by simp only [maxLen];omega) (by omega) fun p8 c8 w8 sl8 f8 hon8=>?_
   have hon7':∀b,On p7 b→w2.heap.size≤b:=fun b hb=>(hon7 b hb).elim (fun h=>Nat.le_trans hs25 (hon6 b h)) (fun h=>Nat.le_trans hs26 h)
   have f28:Fr0 w2 w8:=f27.newS f8 hon7'
   have d8:=d2.fr0 f28
   have n8:Has w8 w2.heap.size [.int .i64 (f:Int),.int .i64 (cc:Int)]:=((n5.fr0 f6).fr f7 (fun h=>by have:=hon6 _ h;have:=n5.lt;omega)).fr f8 (fun h=>by
    rcases hon7 _ h with h|h
    ·have:=hon6 _ h;have:=n5.lt;omega
    ·have:=n5.lt;have:=f6.size;omega)
   simp only [sb_,Nat.reduceAdd]
   refine d8.st (by simp) rfl fun w9 d9 f9 s9=>?_
   have n9:=n8.fr f9 (fun h=>by omega)
   have hlen:(i-0)+(tk.length-(i+1))=(tk.take i++tk.drop (i+1)).length:=by simp;omega
   have hcells:((pairCells (tkI tk)).drop (0*2)).take ((i-0)*2)++((pairCells (tkI tk)).drop ((i+1)*2)).take ((tk.length-(i+1))*2)=pairCells (tkI (tk.take i++tk.drop (i+1))):=by
    rw [tkI_append,Nat.zero_mul,List.drop_zero,Nat.sub_zero,tkI_take,tkI_drop]
    congr 1
    rw [List.take_of_length_le (by rw [tkI_len,List.length_drop];exact Nat.le_refl _)]
   rw [hcells,hlen] at sl8
   rw [hlen] at d9
   obtain⟨k1,k2,k3⟩:=desk_turn H2.sys H.b7 sl hon H2.desk.rd H2.desk.lo hdlt sl8 (f28.mono fun _ _ h=>h.elim) (fun b hb=>.inr ((hon8 b hb).elim (hon7' b) (fun h=>Nat.le_trans hs27 h))) d9 f9
   have hsp:tk=tk.take i++(f,cc) :: tk.drop (i+1):=by
    obtain⟨h1,h2⟩:=List.getElem?_eq_some_iff.1 hfc
    rw [←h2,←List.drop_eq_getElem_cons h1,List.take_append_drop]
   have hI':Inv 256 n (tk.take i++(f,cc) :: tk.drop (i+1)) S:=by rw [←hsp];exact hI
   obtain⟨r0,hI9⟩:=hI'.drop
   have hfr:f<65536∧cc<65536:=by
    have h1:=hI'.tk1 (f,cc) (by simp)
    have h2:∀x,f≤x→x<f+cc→x<S.p.first+S.p.u.length:=fun x hx1 hx2=>(hI'.acc.rg x (List.mem_append.2 (.inr (List.mem_append.2 (.inr (List.mem_flatMap.2 ⟨(f,cc),by simp,mem_span.2 ⟨hx1,hx2⟩⟩)))))).2
    have h3:=h2 (f+cc-1) (by omega) (by omega)
    have h4:=hI.lt
    omega
   have d9':Has w9 d [.pointer (some ⟨J.I.m,0,none⟩),.pointer (some ⟨J.b,0,none⟩),.pointer (some ⟨J.e,0,none⟩),.int .i64 (n:Int),.slice p8 (tk.take i++tk.drop (i+1)).length c8]:=d9
   have n9':Has w9 w2.drew.heap.size [.int .i64 (f:Int),.int .i64 (cc:Int)]:=n9
   try simp only [d9'.ld_iff,n9'.ld_iff,sb_,Nat.reduceAdd]
   refine Ret.use (ps_pdrop (k1.fr0 (Fr.refl _ _).drew).ps (k1.fr0 (Fr.refl _ _).drew).gl (k1.fr0 (Fr.refl _ _).drew).low (f:Int) (cc:Int) (by omega) (by omega) (fun _=>hI9.held)) ?_
   rintro _ w10 (⟨h,_⟩|⟨_,rfl,hps,F⟩)
   ·exact absurd r0 h
   simp only [sb_,Nat.reduceAdd]
   refine ret_eq (f17 _) ?_
   simp only [sb_,Nat.reduceAdd]
   have hE:RExt w ro ((ro.cut w).desk w2):=RExt.then e1 hsz2 RExt.desk
   have f09:Fr0 w0 w9:=H2.fr.newS k3 (fun b hb=>hb.elim (fun h=>(sl.lt b h).1) (fun h=>by rw [h];exact H2.desk.lo))
   have hx:∀b,b<w0.heap.size→(((ro.cut w).desk w2) b).1=0:=fun b hb=>by rw [hE b (Nat.lt_of_lt_of_le hb H.fr.size)];exact H.ext b hb
   have FR:FrR ((ro.cut w).desk w2) w9.drew w10:=F.R (by decide)
   have hS10:=(k1.fr0 (Fr.refl _ _).drew).psT (RExt.refl _ _) hps F
   refine⟨_,0,_,tk.take i++tk.drop (i+1),_,rfl,.drop hk hsp,hE,⟨hS10,hI9,hn,k2.fr (T:=fun b=>(((ro.cut w).desk w2) b).1≠0) FR.of_drew (fun x hx h=>h hx) (RExt.refl _ _),hx,f09.thenS FR.of_drew (fun x hx' hs=>hs (hx x hx')),H.b7⟩,?_⟩
   have hdesk:∀x,x<w.heap.size→On p x∨x=d→ro x=(0,100):=fun x hx hs=>by
    rcases hs with hs|hs
    ·have h1:=(hon x hs).1
     rw [RExt.cut x hx] at h1;exact h1
    ·rw [hs] at hx ⊢
     have h1:=H2.desk.rd
     rw [RExt.cut d hx] at h1;exact h1
   have k3':FrD ro w w9:=(f02.mono fun _ _ h=>h.elim:FrD ro w w2).thenS k3 fun x hx hs=>.inr (hdesk x hx hs)
   exact k3'.thenS FR.of_drew fun x hx hs=>.inl (by rw [hE x hx] at hs;exact hs)
  ·obtain rfl:tk=[]:=List.eq_nil_of_length_eq_zero (by omega)
   exact⟨0,0,S,[],ro.cut w,by trivial,.dropN hk rfl,e1,H2,f02.mono fun _ _ h=>h.elim⟩
 ·exact⟨0,0,S,tk,ro.cut w,by trivial,.none (by omega),e1,H2,f02.mono fun _ _ h=>h.elim⟩
def page (pa:Nat):Tr:=⟨1,4096,pa,1,3,14,true,false⟩
theorem f42 {w:World} (pa:Nat):Ret prog 42 #[.int .u32 4096,.int .u64 (pa:Int)] w fun v w'=>v=(page pa).v∧Fr0 w w':=by
 refine F42a_of _ _ _ ?_
 unfold F42a;try dsimp only [Liuviiubb,S_8,lb_,li_]
 refine New8 (fun w1 n1 f1 s1=>?_)
 try simp only [n1.ld_iff,sb_,Nat.reduceAdd]
 exact⟨by trivial,f1⟩
theorem st8 {w:World} {b:Nat} {cs:List Value} (h:Has w b cs) (hl:cs.length=8) {v0 v1 v2 v3 v4 v5 v6 v7:Value} {K:World→Prop} (k:∀w',Has w' b [v0,v1,v2,v3,v4,v5,v6,v7]→Fr (·=b) w w'→w'.heap.size=w.heap.size→K w')
  (h0:v0.oneCell'=true:=by rfl) (h1:v1.oneCell'=true:=by rfl) (h2:v2.oneCell'=true:=by rfl) (h3:v3.oneCell'=true:=by rfl) (h4:v4.oneCell'=true:=by rfl) (h5:v5.oneCell'=true:=by rfl) (h6:v6.oneCell'=true:=by rfl) (h7:v7.oneCell'=true:=by rfl) :
  Sh.St w ⟨b,0,none⟩ v0 fun w2=>Sh.St w2 ⟨b,1,none⟩ v1 fun w3=>Sh.St w3 ⟨b,2,none⟩ v2 fun w4=>Sh.St w4 ⟨b,3,none⟩ v3 fun w5=>Sh.St w5 ⟨b,4,none⟩ v4 fun w6=>Sh.St w6 ⟨b,5,none⟩ v5 fun w7=>Sh.St w7 ⟨b,6,none⟩ v6 fun w8=>Sh.St w8 ⟨b,7,none⟩ v7 fun w9=>K w9:=by
 obtain⟨c0,c1,c2,c3,c4,c5,c6,c7,rfl⟩:∃c0 c1 c2 c3 c4 c5 c6 c7,cs=[c0,c1,c2,c3,c4,c5,c6,c7]:=by
  match cs,hl with
  | [c0,c1,c2,c3,c4,c5,c6,c7],_=>exact⟨_,_,_,_,_,_,_,_,rfl⟩
 refine h.st (by simp) h0 fun w2 n1 f1 s1=>?_
 refine n1.st (by simp) h1 fun w3 n2 f2 s2=>?_
 refine n2.st (by simp) h2 fun w4 n3 f3 s3=>?_
 refine n3.st (by simp) h3 fun w5 n4 f4 s4=>?_
 refine n4.st (by simp) h4 fun w6 n5 f5 s5=>?_
 refine n5.st (by simp) h5 fun w7 n6 f6 s6=>?_
 refine n6.st (by simp) h6 fun w8 n7 f7 s7=>?_
 refine n7.st (by simp) h7 fun w9 n8 f8 s8=>?_
 exact k w9 (by simpa using n8) (f1.trans f2 |>.trans f3 |>.trans f4 |>.trans f5 |>.trans f6 |>.trans f7 |>.trans f8) (by omega)
theorem f43 {w:World} {ro:Ro} {J:Ids} {fr n:Nat} {S:St} (hS:Sys w ro J fr n S) (hI:Std n S) (a:Nat) {R:RootS} (hr:root? S.roots a=some R) (hso:R.blocks.Pairwise fun a b=>a.va<b.va) (va:Nat) (hva:va<4294967296) {i:Nat} {t:Tr}
  (hf:findR R.blocks va=(i,true)) (ht:R.blocks[i]?=some t) :
  Ret prog 43 #[.pointer (some ⟨J.e,0,none⟩),.int .u64 (a:Int),.int .u32 (va:Int)] w fun v w'=>v=.tuple #[t.v,.bool true]∧Fr0 w w':=by
 refine F43_of _ _ _ _ _ ?_
 unfold F43;try dsimp only [Liuviiubb,S_8,Uib,Upb,lb_,li_,lm_,ls_,ub_,ui_,up_]
 refine New.mk fun w1 n1 f1 s1=>?_
 have hS1:=hS.fr0 f1
 have hst:=hS1.ed.st
 try simp only [hst.ld_iff,sb_,Nat.reduceAdd]
 refine root_look hS1 a (fun h0=>?_) (fun R1 hr1=>?_)
 ·rw [hr] at h0;cases h0
 rw [hr] at hr1
 obtain rfl:=Option.some.inj hr1
 have hm:=root_mem hr
 have hR1:=hS1.ed.root _ hm
 simp only [sb_,Nat.reduceAdd]
 simp only [Bool.not_true,BIf_false]
 refine Ret.use (f66 hS1.gl hR1 hso (Nat.le_trans (hI.len _ hm) (by decide)) (hI.wf _ hm) va hva) ?_
 rintro _ w2 ⟨rfl,f2⟩
 rw [hf]
 simp only [sb_,Nat.reduceAdd]
 simp only [Bool.not_true,BIf_false]
 obtain⟨p2,c2,h1,h2,h3⟩:=((hS1.fr0 f2).ed.root _ hm).st
 have n2:=n1.fr0 f2
 try simp only [h1.ld_iff,sb_,Nat.reduceAdd]
 refine tr_ld h2.rd rfl ht (by have:=(List.getElem?_eq_some_iff.1 ht).1;omega) ?_
 refine st8 n2 rfl fun w3 n3 f3 s3=>?_
 try simp only [n3.ld_iff,sb_,Nat.reduceAdd]
 exact⟨by trivial,(f1.trans f2).new f3 (Nat.le_refl _)⟩
def p248:Pool:=⟨8,turn (List.replicate 248 0) 0 (fun _=>1) 1⟩
def L1 (rb tm:Nat):RootS:=⟨rb,tm,8,1,[],[]⟩
def M1:Mst:=⟨wipeN (fun _=>0) 8 1,[⟨5,8,1⟩]⟩
theorem live_root {S':St} {x e:Nat} (h:RootR 2 (S0 248) x e S'):x=32768∧e=0∧∃rb tm,S'=⟨M1,p248,[],[(32768,L1 rb tm)]⟩:=by
 have hfit:Fit 8 (List.replicate 248 0) (1:Int).toNat (1:Int).toNat 0:=⟨by decide,by simp,fun y h1 h2=>by
  have:y=0:=by simp at h2;omega
  subst this;rfl⟩
 have hc:((cnt 2:Nat):Int)=1:=rfl
 rcases h with ⟨he,_,h,_⟩|⟨he,r,p',rb,tm,h,hx,rfl⟩
 ·rw [hc] at h
  exact absurd (h.eq badTake11 hfit (fun a ha=>absurd ha (by omega))).2.1 he
 ·rw [hc] at h
  obtain⟨h1,_,h2⟩:=h.eq badTake11 hfit (fun a ha=>absurd ha (by omega))
  have h1:r=8:=h1
  subst h1
  refine⟨hx,he,rb,tm,?_⟩
  rw [h2]
  rfl
theorem needs1:needs [] [] (page 131072)=true:=by decide
theorem bad1 (pa:Nat) (h:pa=131072∨pa=196608):(page pa).bad 2=false:=by rcases h with rfl|rfl<;>decide
theorem may1:MayE 2 [] [page 131072] 0:=by
 refine .inr (.inr ⟨rfl,fun t ht=>?_,fun i t hi=>⟨fun b hb=>by simp at hb,fun b hb=>?_⟩⟩)
 ·rw [List.mem_singleton.1 ht];exact bad1 _ (.inl rfl)
 ·have:=(List.getElem?_eq_some_iff.1 hi).1
  have:i=0:=by simp at this;omega
  subst this;simp at hb
theorem fit1:Fit p248.first p248.u 1 1 1:=by
 refine⟨by decide,by simp [p248,turn_len],fun y h1 h2=>?_⟩
 have:y=1:=by omega
 subst this
 show (turn (List.replicate 248 0) 0 (fun _=>1) 1).getD 1 0=0
 rw [turn_get _ _ _ _ _ (by simp)]
 simp [List.getD_eq_getElem?_getD]
theorem nofit1:∀a,a<1→¬Fit p248.first p248.u 1 1 a:=by
 intro a ha h
 have:a=0:=by omega
 subst this
 have h:=h.2.2 0 (Nat.le_refl _) (by omega)
 have e:p248.u.getD 0 0=1:=by
  show (turn (List.replicate 248 0) 0 (fun _=>1) 1).getD 0 0=1
  rw [turn_get _ _ _ _ _ (by simp)]
  simp
 rw [e] at h;cases h
theorem take1 {r e:Nat} {p':Pool} {l':List Qr} (h:STake p248 [] r e p' l'):r=36∧e=0:=by
 have h2:STake p248 [] (4*(p248.first+1)) 0 (p248.turned 1 (fun _=>1) 1) (insq (p248.first+1) []):=.fresh (fun q hq=>by simp at hq) 1 fit1 nofit1
 obtain⟨h3,h4,_⟩:=h.det h2
 exact⟨h3,h4⟩
theorem getW_setW (mem:Nat→Nat) (pa v:Nat) (hv:v<2^32):getW (setW mem pa v) pa=v:=by
 have h:∀j,j<4→setW mem pa v (pa+j)=v/256^j%256:=by
  intro j hj
  unfold setW
  simp only [setB,upd]
  rcases (by omega:j=0∨j=1∨j=2∨j=3) with rfl|rfl|rfl|rfl<;>simp
 unfold getW
 rw [h 3 (by decide),h 2 (by decide),h 1 (by decide),show setW mem pa v pa=v/256^0%256 from h 0 (by decide)]
 simp only [Nat.reducePow,Nat.div_one]
 omega
def evs2:List Ev:=[⟨5,8,1⟩,⟨5,9,1⟩,⟨1,32768,(tabW 36 1:Nat)⟩,⟨1,36868,133246⟩]
theorem word1:wordN (page 131072)=133246:=by decide
theorem live_put {S':St} {rb tm e:Nat} (h:PutE 2 ⟨M1,p248,[],[(32768,L1 rb tm)]⟩ 32768 [page 131072] e S') :
  e=0∧∃mem p l,S'=⟨⟨mem,evs2⟩,p,l,[(32768,⟨rb,tm,8,1,[page 131072],[(0,36)]⟩)]⟩∧getW mem 36868=133246∧p.u.length=248:=by
 have hr:root? [(32768,L1 rb tm)] 32768=some (L1 rb tm):=rfl
 rcases h with ⟨he,h,_⟩|⟨he,R,got,mine,p',l',hR,_,ht,rfl⟩
 ·exfalso
  rcases h with ⟨h,_⟩|⟨R,hR,h⟩
  ·rw [hr] at h;cases h
  rw [hr] at hR
  obtain rfl:=Option.some.inj hR
  rcases h with ⟨h,_⟩|⟨_,h|⟨h,_⟩⟩
  ·exact he (h.det may1)
  ·obtain⟨_,i,t,got,mine,p,l,r,p',l',hi,hti,hn,hs⟩:=h
   have:=(List.getElem?_eq_some_iff.1 hi).1
   have:i=0:=by simp at this;omega
   subst this
   rw [List.take_zero] at hti
   generalize hts:([]:List Tr)=ts at hti
   cases hti with
   | nil=>exact he (take1 hs).2
   | skip h hn=>simp at hts
   | one h hn ho hs=>simp at hts
  ·exact he h
 ·rw [hr] at hR
  obtain rfl:=Option.some.inj hR
  refine⟨he,?_⟩
  generalize hts:[page 131072]=ts at ht
  cases ht with
  | nil=>simp at hts
  | @skip ts got mine p l t h hn =>
   exfalso
   have h1:ts=[]:=by
    have:=congrArg List.length hts
    simp at this
    exact this
   subst h1
   simp at hts
   subst hts
   generalize hts:([]:List Tr)=ts at h
   cases h with
   | nil=>rw [show (L1 rb tm).tabs=[] from rfl,needs1] at hn;cases hn
   | skip h hn=>simp at hts
   | one h hn ho hs=>simp at hts
  | @one ts got mine p _ l _ t r h hn ho hs =>
   have h1:ts=[]:=by
    have:=congrArg List.length hts
    simp at this
    exact this
   subst h1
   simp at hts
   subst hts
   generalize hts:([]:List Tr)=ts at h
   cases h with
   | nil =>
    obtain⟨rfl,_⟩:=take1 hs
    refine⟨_,_,_,rfl,?_,?_⟩
    ·show getW (setW _ 36868 (wordN (page 131072))) 36868=133246
     rw [getW_setW _ _ _ (wordN_lt _),word1]
    ·rw [(hs.ones (fun q hq=>by simp at hq) (fun q hq=>by simp at hq)).2.2.2.2]
     simp [p248,turn_len]
   | skip h hn=>simp at hts
   | one h hn ho hs=>simp at hts
def R2 (rb tm:Nat):RootS:=⟨rb,tm,8,1,[page 131072],[(0,36)]⟩
theorem live_put2 {S S':St} {rb tm e:Nat} (hS:S.roots=[(32768,R2 rb tm)]) (h:PutE 2 S 32768 [page 196608] e S'):e=141∧S'=S:=by
 have hr:root? S.roots 32768=some (R2 rb tm):=by rw [hS];rfl
 have hcl:clashB (page 196608) (page 131072)=true:=by decide
 have no:¬MayE 2 (R2 rb tm).blocks [page 196608] 0:=fun h=>by
  have:=(may_pair h).2.1 (page 196608) (by simp) (page 131072) (by simp [R2])
  rw [hcl] at this;cases this
 rcases h with ⟨he,h,hs⟩|⟨he,R,got,mine,p',l',hR,hm,_⟩
 ·refine⟨?_,hs⟩
  rcases h with ⟨h,_⟩|⟨R,hR,h⟩
  ·rw [hr] at h;cases h
  rw [hr] at hR
  obtain rfl:=Option.some.inj hR
  rcases h with ⟨h,_⟩|⟨h,_⟩
  ·rcases h with ⟨_,t,ht,hb⟩|⟨h,_⟩|⟨h,_⟩
   ·rw [List.mem_singleton.1 ht,bad1 _ (.inr rfl)] at hb;cases hb
   ·exact h
   ·exact absurd h he
  ·exact absurd h no
 ·rw [hr] at hR
  obtain rfl:=Option.some.inj hR
  exact absurd hm no
theorem live_find:findR [page 131072] 8191=(0,true):=by decide
theorem SDrop.len {p p':Pool} {l l':List Qr} {t:Int} {e:Nat} (h:SDrop p l t e p' l'):p'.first=p.first∧p'.u.length=p.u.length:=by
 cases h with
 | none=>exact⟨rfl,rfl⟩
 | more=>exact⟨rfl,rfl⟩
 | last=>exact⟨rfl,turn_len _ _ _ _⟩
def evs3:List Ev:=evs2++[⟨1,36868,0⟩,⟨3,2,4099⟩,⟨1,32768,0⟩]
theorem live_cut {mem:Nat→Nat} {p:Pool} {l:List Qr} {S':St} {rb tm e:Nat} (h:CutE ⟨⟨mem,evs2⟩,p,l,[(32768,R2 rb tm)]⟩ 32768 3 [6844] e S') :
  e=0∧S'.M.evs=evs3∧S'.p.u.length=p.u.length∧∃R,S'.roots=[(32768,R)]∧R.blocks=[]:=by
 have hr:root? [(32768,R2 rb tm)] 32768=some (R2 rb tm):=rfl
 have hc:chooseL [page 131072] [6844] []=some [page 131072]:=by decide
 have hb:¬badCut 3 0 0 true:=by unfold badCut;simp
 rcases h with ⟨he,h,_⟩|⟨he,R,out,y,⟨hR,_,hch⟩,hy,rfl⟩
 ·exfalso
  rcases h with ⟨h,_⟩|⟨R,hR,⟨h,_⟩|⟨_,h,_⟩⟩
  ·rw [hr] at h;cases h
  ·exact hb h
  ·rw [hr] at hR
   obtain rfl:=Option.some.inj hR
   rw [show chooseL (R2 rb tm).blocks [6844] []=some [page 131072] from hc] at h
   cases h
 ·rw [hr] at hR
  obtain rfl:=Option.some.inj hR
  rw [show chooseL (R2 rb tm).blocks [6844] []=some [page 131072] from hc] at hch
  obtain rfl:=Option.some.inj hch
  refine⟨he,?_⟩
  generalize hts:[page 131072]=ts at hy
  cases hy with
  | nil=>simp at hts
  | @snoc ts y _ t h hs =>
   have h1:ts=[]:=by
    have:=congrArg List.length hts
    simp at this
    exact this
   subst h1
   simp at hts
   subst hts
   generalize hts:([]:List Tr)=ts at h
   cases h with
   | snoc h hs=>simp at hts
   | nil =>
    have hbl:(cutR (R2 rb tm) (page 131072)).blocks=[]:=rfl
    cases hs with
    | keep h =>
     exfalso
     rw [show (cutR (⟨R2 rb tm,⟨mem,evs2⟩,p,l⟩:Xs).R (page 131072)).blocks=[] from rfl] at h
     exact absurd h (by decide)
    | shut h T e p' l' hT hd =>
     refine⟨rfl,?_,unTab (cutR (R2 rb tm) (page 131072)) 0,rfl,rfl⟩
     show p'.u.length=p.u.length
     exact (SDrop.len hd).2
theorem Acc.free {p:Pool} (h:Acc p []):p.free=p.u.length:=by
 unfold Pool.free
 rw [List.countP_eq_length]
 intro x hx
 obtain⟨i,hi,rfl⟩:=List.getElem_of_mem hx
 have:=h.us i hi
 rw [getD_get hi,if_neg (by simp)] at this
 simpa using this
theorem Inv.bare {fr n:Nat} {tk:List (Nat×Nat)} {S:St} (h:Inv fr n tk S) (hb:∀x∈S.roots,x.2.blocks=[]):tabs S.l=[]∧S.l=[]:=by
 have h0:rootT S.roots=[]:=by
  unfold rootT
  rw [List.flatMap_eq_nil_iff]
  intro x hx
  have hR:=h.root x hx
  cases ht:x.2.tabs with
  | nil=>rfl
  | cons y r =>
   obtain⟨t,ht,_⟩:=(hR.tk y.1).1 (tab_isSome.2 (by rw [ht];simp))
   rw [hb x hx] at ht
   simp at ht
 have h1:tabs S.l=[]:=by
  have:=h.tb
  rw [h0] at this
  exact this.nil_eq.symm
 exact⟨h1,tabs_nil h.ok h1⟩
theorem Inv.allFree {fr n:Nat} {S:St} (h:Inv fr n [] S) (hr:S.roots=[]):S.p.free=S.p.u.length:=by
 have hl:=(h.bare (by rw [hr];simp)).2
 have:=h.acc
 rw [hr,hl] at this
 exact this.free
set_option maxHeartbeats 1000000 in
theorem f10 {w:World} (hG:Gl w):Ret prog 10 #[] w fun v w'=>v=.bool true∧Fr0 w w':=by
 refine F10_of _ _ ?_
 unfold F10;try dsimp only [C_8,Liuviiubb,S_8,Uiuviiubb,Upi,Uui,Uvi,ce_,lb_,li_,ub_,ui_,up_]
 have hsz:=hG.gr.size
 refine Ret.use (f38 (fun _=>(0,0)) hG.gr 256 2 2 2 (by decide) (by decide) (by decide) (by decide) (by decide) (by decide) 0 0) ?_
 rintro _ w2 ⟨I,ro2,rfl,e2,hM,f2⟩
 have hs2:=f2.size
 simp only [sb_,Nat.reduceAdd]
 refine Ret.use (f39 8 248 (by decide)) ?_
 rintro _ w3 (⟨he,_⟩|⟨_,_,_,_,_,b,bu,bd,rfl,hP,f3,l1,l2,l3⟩)
 ·exfalso;apply he;unfold newErr;rw [if_neg (by omega),if_neg (by omega)]
 have hP:PoolAt w3 b bu bd ⟨8,List.replicate 248 0⟩:=hP
 simp only [sb_,Nat.reduceAdd]
 refine ret_eq (f17 0) ?_
 simp only [sb_,Nat.reduceAdd]
 refine BIf_ne (fun h=>absurd rfl h) (fun _=>?_)
 refine ret_eq (f17 0) ?_
 simp only [sb_,Nat.reduceAdd]
 refine BIf_ne (fun h=>absurd rfl h) (fun _=>?_)
 simp only [Option.isNone_some,BIf_false]
 have E3:RExt w2 ro2 (fun x=>if x<w2.heap.size then ro2 x else (12,0)):=fun x hx=>by simp only [if_pos hx]
 have hG3:=hG.fr0 (f2.trans f3)
 have hlow:Low (fun x=>if x<w2.heap.size then ro2 x else (12,0)):=fun x hx=>by
  simp only [if_pos (by omega:x<w2.heap.size)]
  rw [e2 x (by omega)]
 have hM3:MachAt w3 (fun x=>if x<w2.heap.size then ro2 x else (12,0)) I 256 ⟨fun _=>0,[]⟩:=(hM.ext E3).fr0 f3
 refine Ret.use (f40 (fr:=256) hG3 hlow hM3 hP ?_ (n:=2) (by omega) (by simp)) ?_
 ·intro x hx
  have:¬x<w2.heap.size:=by rcases hx with rfl|rfl|rfl<;>omega
  simp only [if_neg this]
 rintro _ w4 ⟨J,ro4,rfl,rfl,rfl,rfl,rfl,e4,hS4,f4⟩
 simp only [sb_,Nat.reduceAdd]
 have hI4:Inv 256 2 [] (S0 248):=Inv.start (by decide) _
 have hS4:Sys w4 ro4 J 256 2 (S0 248):=hS4
 have hn:1≤2∧2≤7:=by decide
 have f04:Fr0 w w4:=f2.trans (f3.trans f4)
 have hs3:=f3.size
 have z4:∀b,b<w.heap.size→(ro4 b).1=0:=fun x hx=>by
  rw [e4 x (by omega)]
  simp only [if_pos (by omega:x<w2.heap.size)]
  rw [e2 x (by omega)]
 have keep:∀{w1 w1':World} {ro ro':Ro},Fr0 w w1→(∀b,b<w.heap.size→(ro b).1=0)→FrR ro w1 w1'→RExt w1 ro ro'→Fr0 w w1'∧∀b,b<w.heap.size→(ro' b).1=0:=fun f z F E =>
  ⟨f.thenS F (fun x hx hs=>hs (z x hx)),fun b hb=>by rw [E b (Nat.lt_of_lt_of_le hb f.size)];exact z b hb⟩
 refine ret_eq (f17 0) ?_
 simp only [sb_,Nat.reduceAdd]
 refine BIf_ne (fun h=>absurd rfl h) (fun _=>?_)
 simp only [Option.isNone_some,BIf_false]
 refine Ret.use (f41 hS4 (by decide) hI4.fresh) ?_
 rintro _ w5 ⟨x,e,S5,ro5,rfl,hr,E5,hS5,F5⟩
 have hI5:=hI4.rootR hr
 obtain⟨rfl,rfl,rb,tm,q5⟩:=live_root hr
 obtain⟨f05,z5⟩:=keep f04 z4 F5 E5
 simp only [sb_,Nat.reduceAdd]
 refine ret_eq (f17 _) ?_
 simp only [sb_,Nat.reduceAdd]
 refine BIf_ne (fun h=>absurd rfl h) (fun _=>?_)
 refine BIf_ne (fun h=>absurd rfl h) (fun _=>?_)
 refine Ret.use (f42 131072) ?_
 rintro _ w6 ⟨rfl,f6⟩
 unfold Tr.v Tr.cells
 simp only [sb_,Nat.reduceAdd]
 refine RunV.build1 E57 (by decide) rfl fun w7 b7 f7 s7=>?_
 simp only [sb_,Nat.reduceAdd]
 have E7:RExt w5 ro5 (ro5.cut w6):=fun x hx=>RExt.cut x (Nat.lt_of_lt_of_le hx f6.size)
 have hS7:Sys w7 (ro5.cut w6) J 256 2 _:=((hS5.ext E7).fr0 f6).fr0 f7
 have f07:=(f05.trans f6).trans f7
 have z7:∀b,b<w.heap.size→((ro5.cut w6) b).1=0:=fun b hb=>by rw [E7 b (Nat.lt_of_lt_of_le hb f05.size)];exact z5 b hb
 have hrd7:Rd w7 (some ⟨w6.heap.size,0,none⟩) (trCells [page 131072]):=fun i v hv=>⟨_,_,rfl,by rw [Nat.zero_add];exact b7.cell.trans hv⟩
 have h7n:∀b,On (some ⟨w6.heap.size,0,none⟩) b→((ro5.cut w6) b).1=0:=fun b hb=>by
  obtain⟨a,ha,hab⟩:=hb
  injection ha with ha
  rw [←hab,←ha]
  exact Ro.cut_new (Nat.le_refl _)
 have h24:=f24 hS7 (hI5.std hn) (by decide) hn 32768 (by omega) hrd7 (fun _=>h7n) (c:=1) (Nat.le_refl 1) (by show 1≤9000000000000;omega) (fun t ht=>by rw [List.mem_singleton.1 ht];show 4096<4294967296;omega) (hI5.putPre hn (by decide))
 refine Ret.use h24 ?_
 intro v w8 h
 obtain⟨e,S8,ro8,h1,hr,E8,hS8,F8⟩:=h
 subst h1
 have hI8:=hI5.putE (by decide) hr
 obtain⟨rfl,mem,p8,l8,q8,hmem,hpl⟩:=live_put (by rw [←q5];exact hr)
 obtain⟨f08,z8⟩:=keep f07 z7 F8 E8
 simp only [sb_,Nat.reduceAdd]
 refine ret_eq (f17 _) ?_
 simp only [sb_,Nat.reduceAdd]
 refine BIf_ne (fun h=>absurd rfl h) (fun _=>?_)
 refine Ret.use (f42 196608) ?_
 rintro _ w9 ⟨rfl,f9⟩
 unfold Tr.v Tr.cells
 simp only [sb_,Nat.reduceAdd]
 refine RunV.build1 E57 (by decide) rfl fun w10 b10 f10 s10=>?_
 simp only [sb_,Nat.reduceAdd]
 have E10:RExt w8 ro8 (ro8.cut w9):=fun x hx=>RExt.cut x (Nat.lt_of_lt_of_le hx f9.size)
 have hS10:Sys w10 (ro8.cut w9) J 256 2 S8:=((hS8.ext E10).fr0 f9).fr0 f10
 have f010:=(f08.trans f9).trans f10
 have z10:∀b,b<w.heap.size→((ro8.cut w9) b).1=0:=fun b hb=>by rw [E10 b (Nat.lt_of_lt_of_le hb f08.size)];exact z8 b hb
 have hrd10:Rd w10 (some ⟨w9.heap.size,0,none⟩) (trCells [page 196608]):=fun i v hv=>⟨_,_,rfl,by rw [Nat.zero_add];exact b10.cell.trans hv⟩
 have h10n:∀b,On (some ⟨w9.heap.size,0,none⟩) b→((ro8.cut w9) b).1=0:=fun b hb=>by
  obtain⟨a,ha,hab⟩:=hb
  injection ha with ha
  rw [←hab,←ha]
  exact Ro.cut_new (Nat.le_refl _)
 have h24:=f24 hS10 (hI8.std hn) (by decide) hn 32768 (by omega) hrd10 (fun _=>h10n) (c:=1) (Nat.le_refl 1) (by show 1≤9000000000000;omega) (fun t ht=>by rw [List.mem_singleton.1 ht];show 4096<4294967296;omega) (hI8.putPre hn (by decide))
 refine Ret.use h24 ?_
 intro v w11 h
 obtain⟨e,S11,ro11,h1,hr,E11,hS11,F11⟩:=h
 subst h1
 have hroots:S8.roots=[(32768,R2 rb tm)]:=by rw [q8];rfl
 obtain⟨h1,h2⟩:=live_put2 hroots hr
 subst h1;subst h2
 obtain⟨f011,z11⟩:=keep f010 z10 F11 E11
 simp only [sb_,Nat.reduceAdd]
 refine ret_eq (f17 _) ?_
 simp only [sb_,Nat.reduceAdd]
 refine BIf_ne (fun h=>absurd rfl h) (fun _=>?_)
 have hMm:S11.M.mem=mem:=by rw [q8]
 have h36:=f36 hS11.mach 36868
 rw [hMm,hmem,show wErr 256 36868=0 from by decide,if_pos rfl] at h36
 refine ret_eq h36 ?_
 simp only [sb_,Nat.reduceAdd]
 have hrt:root? S11.roots 32768=some (R2 rb tm):=by rw [hroots];rfl
 have h43:=f43 hS11 (hI8.std hn) 32768 hrt (hI8.so _ hrt) 8191 (by omega) (i:=0) (t:=page 131072) live_find rfl
 refine Ret.use h43 ?_
 rintro _ w12 ⟨rfl,f12⟩
 unfold Tr.v Tr.cells
 simp only [sb_,Nat.reduceAdd]
 refine New8 (fun w13 n13 f13 s13=>?_)
 refine BIf_ne (fun h=>absurd rfl h) (fun _=>?_)
 simp only [Bool.not_true,BIf_false]
 try simp only [n13.ld_iff,sb_,Nat.reduceAdd]
 refine Ret.use (f42 131072) ?_
 rintro _ w14 ⟨rfl,f14⟩
 have n14:=n13.fr0 f14.of_drew
 unfold Tr.v Tr.cells
 simp only [sb_,Nat.reduceAdd]
 refine⟨⟨n14.cell.trans rfl,n14.cell.trans rfl,n14.cell.trans rfl,n14.cell.trans rfl,n14.cell.trans rfl,n14.cell.trans rfl,n14.cell.trans rfl,n14.cell.trans rfl,trivial⟩,?_⟩
 refine RunP.neqS S57 (fun w=>eq57 (page 131072) (page 131072) w) fun r hr=>?_
 have hr1:r=true:=hr.2 rfl
 subst hr1
 rw [AsB_bool]
 show BIf false _ _
 rw [BIf_false]
 refine RunV.build1 E35 (by decide) rfl fun w15 b15 f15 s15=>?_
 simp only [sb_,Nat.reduceAdd]
 have f1115:Fr0 w11 w15:=(((f12.trans f13).drew.trans f14).trans f15)
 have hS15:Sys w15 ro11 J 256 2 S11:=hS11.fr0 f1115
 have f015:=f011.trans f1115
 have hrd15:Rd w15 (some ⟨w14.heap.size,0,none⟩) (([6844]:List Nat).map fun v=>Value.int .u32 ((v:Nat):Int)):=fun i v hv=>⟨_,_,rfl,by rw [Nat.zero_add];exact b15.cell.trans hv⟩
 have h44:=f44 hS15 (hI8.std hn) (by decide) 32768 (by omega) hI8.so 3 hrd15 (c:=1) (fun v hv=>by rw [List.mem_singleton.1 hv];omega) (by show 1≤100000000000000;omega) (fun R out h=>Nat.le_trans (hI8.choLen hn h) (by decide)) (hI8.cutPre hn (by decide))
 refine Ret.use h44 ?_
 intro v w16 h
 obtain⟨e,S16,ro16,h1,hr,E16,hS16,F16⟩:=h
 subst h1
 have hI16:=hI8.cutE hr
 obtain⟨h1,hev,hpl16,R16,hr16,hb16⟩:=live_cut (by rw [←show R2 rb tm=⟨rb,tm,8,1,[page 131072],[(0,36)]⟩ from rfl] at q8;rw [←q8];exact hr)
 subst h1
 obtain⟨f016,z16⟩:=keep f015 z11 F16 E16
 simp only [sb_,Nat.reduceAdd]
 refine ret_eq (f17 _) ?_
 simp only [sb_,Nat.reduceAdd]
 refine BIf_ne (fun h=>absurd rfl h) (fun _=>?_)
 refine Ret.use (f27 hS16.mach) ?_
 rintro _ w17 ⟨⟨p17,c17,rfl,hrd17⟩,hM17,F17⟩
 have hS17:=hS16.machT (RExt.refl _ _) hM17 F17
 have hI17:=hI16.mach ⟨S16.M.mem,[]⟩
 have F17R:FrR ro16 w16 w17:=F17.R (by decide)
 obtain⟨f017,z17⟩:=keep f016 z16 F17R (RExt.refl _ _)
 rw [hev] at hrd17
 simp only [sb_,Nat.reduceAdd]
 rw [show S16.M.evs.length=7 from by rw [hev];rfl]
 refine BIf_eq (fun _=>?_) (fun h=>absurd rfl h)
 obtain⟨b17,o17,hp17,hc17⟩:=hrd17 20 (.int .i64 3) rfl
 obtain⟨b17',o17',hp17',hc17'⟩:=hrd17 22 (.int .u32 4099) rfl
 rw [hp17] at hp17'
 injection hp17' with hp17'
 injection hp17' with hx1 hx2
 subst hx1;subst hx2
 rw [hp17,NilP_some]
 simp only [at0_mk]
 refine⟨by omega,by omega,_,hc17,AsI_int.2 ?_⟩
 refine BIf_eq (fun _=>?_) (fun h=>absurd rfl h)
 rw [NilP_some]
 simp only [at0_mk]
 refine⟨by omega,by omega,_,hc17',AsI_int.2 ?_⟩
 refine BIf_eq (fun _=>?_) (fun h=>absurd rfl h)
 refine Ret.use (f22 hS17) ?_
 rintro _ w18 ⟨q18,d18,rfl,sl18,f18'⟩
 have hbare:=hI17.bare (fun x hx=>by
  have hx:x∈S16.roots:=hx
  rw [hr16] at hx
  rw [List.mem_singleton.1 hx];exact hb16)
 have htl:(tabs S16.l).length=0:=by rw [show tabs S16.l=[] from hbare.1];rfl
 simp only [sb_,Nat.reduceAdd]
 show BIf ((((tabs S16.l).length:Nat):Int)==0) _ _
 rw [htl]
 refine BIf_eq (fun _=>?_) (fun h=>absurd rfl h)
 have hS18:=hS17.fr0 f18'
 have hrt18:root? S16.roots 32768=some R16:=by rw [hr16];rfl
 have h18:=f18 hS18 32768 (fun R hR=>by have:=hI17.small (by decide) (root_mem hR);omega) (fun R hR _ _=>(hI17.freeH hR).2)
 refine Ret.use h18 ?_
 intro v w19 h
 obtain⟨e,S19,h1,hr,hS19,F19⟩:=h
 subst h1
 have hI19:=hI17.freeR hr
 have hfin:e=0∧S19.roots=[]∧S19.p.u.length=248:=by
  rcases hr with ⟨h,_⟩|⟨R,hR,h⟩
  ·rw [show root? S16.roots 32768=none from h] at hrt18;cases hrt18
  have hR:root? S16.roots 32768=some R:=hR
  rw [hrt18] at hR
  obtain rfl:=Option.some.inj hR
  rcases h with ⟨h,_⟩|⟨_,h0,rfl⟩
  ·exact absurd hb16 h
  ·refine⟨h0,?_,?_⟩
   ·show S16.roots.filter (fun x=>decide (x.1≠32768))=[]
    rw [hr16];rfl
   ·show (pdrop S16.p _ _).u.length=248
    unfold pdrop
    split
    ·show (turn _ _ _ _).length=248
     rw [turn_len,hpl16,hpl]
    ·rw [hpl16,hpl]
 obtain⟨h1,hr0,hl0⟩:=hfin
 subst h1
 obtain⟨f019,_⟩:=keep (f017.trans f18') z17 F19 (RExt.refl _ _)
 simp only [sb_,Nat.reduceAdd]
 refine ret_eq (f17 _) ?_
 simp only [sb_,Nat.reduceAdd]
 refine BIf_eq (fun _=>?_) (fun h=>absurd rfl h)
 refine ret_eq (f20 hS19.ps.pool) ?_
 simp only [sb_,Nat.reduceAdd]
 rw [hI19.allFree hr0,hl0]
 exact⟨by trivial,f019⟩
abbrev ScrT:=List (Op17×List Tr×List Nat)
def opsCells (s:ScrT):List Value:=s.flatMap fun x=>x.1.cells
structure ScrAt (w:World) (B:Nat) (q:Option Addr) (n:Nat) (s:ScrT):Prop where
 rd:Rd w q (opsCells s)
 len:s.length=n
 ok:∀x∈s,OpIn w B x.1 x.2.1 x.2.2
 lt:n≤4611686018427387904
theorem op_len (x:Op17×List Tr×List Nat):x.1.cells.length=17:=rfl
theorem op_ld {w:World} {p:Option Addr} {s:ScrT} (h:Rd w p (opsCells s)) {e N:Int} {i:Nat} (he:e=(i:Int)) {x:Op17×List Tr×List Nat} (hx:s[i]?=some x) (hN:(i:Int)<N)
  {K:Int→Int→Int→Option Addr→Nat→Nat→Option Addr→Nat→Nat→Int→Int→Bool→Bool→Option Addr→Nat→Nat→Int→Int→Int→Int→Bool→Int→Int→Prop}
  (k:K x.1.k x.1.r x.1.sid x.1.lq x.1.ln x.1.lc x.1.vq x.1.vn x.1.vc x.1.ap (x.1.bits:Int) x.1.ng x.1.xn x.1.nq x.1.nn x.1.nc x.1.a0 x.1.a1 x.1.a2 x.1.a3 x.1.a4 x.1.cn x.1.al) :
  NilP p fun a=>0≤e∧e<N∧Ld w (at0 a (e.toNat*17)) fun v0=>AsI .i64 v0 fun i0=>Ld w (at0 (at0 a (e.toNat*17)) 1) fun v1=>AsI .i64 v1 fun i1=>Ld w (at0 (at0 a (e.toNat*17)) 2) fun v2=>AsI .i64 v2 fun i2 =>
   Ld w (at0 (at0 a (e.toNat*17)) 3) fun v3=>AsSl v3 fun p3 n3 c3=>Ld w (at0 (at0 a (e.toNat*17)) 4) fun v4=>AsSl v4 fun p4 n4 c4=>Ld w (at0 (at0 a (e.toNat*17)) 5) fun v5=>AsI .i64 v5 fun i5 =>
   Ld w (at0 (at0 a (e.toNat*17)) 6) fun v6=>AsI .u32 v6 fun i6=>Ld w (at0 (at0 a (e.toNat*17)) 7) fun v7=>AsB v7 fun b7=>Ld w (at0 (at0 a (e.toNat*17)) 8) fun v8=>AsB v8 fun b8 =>
   Ld w (at0 (at0 a (e.toNat*17)) 9) fun v9=>AsSl v9 fun p9 n9 c9=>Ld w (at0 (at0 a (e.toNat*17)) 10) fun v10=>AsI .i64 v10 fun i10=>Ld w (at0 (at0 a (e.toNat*17)) 11) fun v11=>AsI .u32 v11 fun i11 =>
   Ld w (at0 (at0 a (e.toNat*17)) 12) fun v12=>AsI .i64 v12 fun i12=>Ld w (at0 (at0 a (e.toNat*17)) 13) fun v13=>AsI .u32 v13 fun i13=>Ld w (at0 (at0 a (e.toNat*17)) 14) fun v14=>AsB v14 fun b14 =>
   Ld w (at0 (at0 a (e.toNat*17)) 15) fun v15=>AsI .i64 v15 fun i15=>Ld w (at0 (at0 a (e.toNat*17)) 16) fun v16=>AsI .i64 v16 fun i16=>K i0 i1 i2 p3 n3 c3 p4 n4 c4 i5 i6 b7 b8 p9 n9 c9 i10 i11 i12 i13 b14 i15 i16:=by
 subst he
 have hg:∀j v,j<17→x.1.cells[j]?=some v→(opsCells s)[i*17+j]?=some v:=fun j v hj hv=>(flat_get op_len s i j hj x hx).trans hv
 obtain⟨b,o,hp,h0⟩:=h _ _ (hg 0 _ (by decide) rfl)
 have hc:∀j v,j<17→x.1.cells[j]?=some v→w.cell? ⟨b,o+i*17+j,none⟩=some v:=fun j v hj hv=>by
  rw [Nat.add_assoc];exact Rd.cell h hp (hg j v hj hv)
 rw [hp,NilP_some]
 simp only [at0_mk,Int.toNat_natCast]
 refine⟨by omega,hN,?_⟩
 exact⟨_,hc 0 _ (by decide) rfl,AsI_int.2 ⟨_,hc 1 _ (by decide) rfl,AsI_int.2 ⟨_,hc 2 _ (by decide) rfl,AsI_int.2 ⟨_,hc 3 _ (by decide) rfl,AsSl_slice.2 ⟨_,hc 4 _ (by decide) rfl,AsSl_slice.2 ⟨_,hc 5 _ (by decide) rfl,AsI_int.2
  ⟨_,hc 6 _ (by decide) rfl,AsI_int.2 ⟨_,hc 7 _ (by decide) rfl,AsB_bool.2 ⟨_,hc 8 _ (by decide) rfl,AsB_bool.2 ⟨_,hc 9 _ (by decide) rfl,AsSl_slice.2 ⟨_,hc 10 _ (by decide) rfl,AsI_int.2 ⟨_,hc 11 _ (by decide) rfl,AsI_int.2
  ⟨_,hc 12 _ (by decide) rfl,AsI_int.2 ⟨_,hc 13 _ (by decide) rfl,AsI_int.2 ⟨_,hc 14 _ (by decide) rfl,AsB_bool.2 ⟨_,hc 15 _ (by decide) rfl,AsI_int.2 ⟨_,hc 16 _ (by decide) rfl,AsI_int.2 k⟩⟩⟩⟩⟩⟩⟩⟩⟩⟩⟩⟩⟩⟩⟩⟩⟩
theorem LawAt.put {w0 w:World} {ro:Ro} {J:Ids} {n d:Nat} {S:St} {tk:List (Nat×Nat)} (H:LawAt w0 w ro J n S d tk) (a:Nat) (ha:a<2^40) {q:Option Addr} {c:Nat} {l:List Tr} (hl:Rd w q (trCells l)) (hon:l≠[]→∀b,On q b→(ro b).1=0) (hc:l.length≤c) (hll:l.length≤9000000000000) (hwf:∀t∈l,t.wf) :
  Ret prog 24 #[.pointer (some ⟨J.e,0,none⟩),.int .u64 (a:Int),.slice q l.length c] w fun v w'=>∃(e:Nat) (S':St) (ro':Ro),v=.int .i64 (e:Int)∧PutE n S a l e S'∧RExt w ro ro'∧LawAt w0 w' ro' J n S' d tk∧FrR ro w w':=by
 have hI:=H.inv
 refine (f24 H.sys (hI.std H.n1) (by decide) H.n1 a ha hl hon hc hll hwf (hI.putPre H.n1 (by decide))).mono ?_
 rintro v w' ⟨e,S',ro',rfl,hr,E,hS',F⟩
 exact⟨e,S',ro',rfl,hr,E,H.sysT hS' F E (hI.putE (by decide) hr),F⟩
def op13:Op17:=⟨13,0,0,none,0,0,none,0,0,0,0,false,false,none,0,0,0,0,0,0,false,0,0⟩
def worldV (c0 c1 c2 c3 c4 c5 c6 c7 c8:Int):Value:=.agg #[.int .i64 c0,.int .i64 c1,.int .i64 c2,.int .i64 c3,.int .i64 c4,.int .i64 c5,.int .i64 c6,.int .i64 c7,.int .i64 c8]
theorem tr_cell {w:World} {p:Option Addr} {l:List Tr} (h:Rd w p (trCells l)) {i:Nat} {t:Tr} (ht:l[i]?=some t) {j:Nat} (hj:j<8) {k:IntKind} {x:Int} (hx:t.cells[j]?=some (.int k x)) {N:Int} (hN:(i:Int)<N) {K:Int→Prop} (kk:K x) :
  NilP p fun a=>0≤(i:Int)∧(i:Int)<N∧Ld w (at0 (at0 a ((i:Int).toNat*8)) j) fun v=>AsI k v K:=by
 refine h.ld (i:=i*8+j) (v:=.int k x) ((trCells_get hj ht).trans hx) fun b o _ hc=>⟨by omega,hN,?_⟩
 rw [at0_mk,at0_mk,Int.toNat_natCast,Nat.add_assoc]
 exact⟨_,hc,AsI_int.2 kk⟩
set_option maxHeartbeats 1000000 in
/-- az many tables az MiB with pages -/
theorem Inv.tabsLen {n:Nat} {tk:List (Nat×Nat)} {S:St} (h:Inv 256 n tk S):(tabs S.l).length≤1024 :=
 len_lt (rise_nodup (tabs_rise h.ok.rise)) fun z hz=>by
  obtain⟨qq,hq,kk,hk,_,rfl⟩:=mem_tabs.1 hz
  have:=h.acc.rg qq.f (List.mem_append.2 (.inl (List.mem_map.2 ⟨qq,hq,rfl⟩)))
  have:=h.lt
  omega
theorem Ro.cut_eq {ro:Ro} {w:World} {x:Nat} (h:w.heap.size≤x):(ro.cut w) x=(0,0):=by simp only [Ro.cut,if_neg (show ¬x<w.heap.size by omega)]
theorem E70:ElemT prog 70 3 (.int .i64 0) 1 8:=⟨by kernel_rfl,by kernel_rfl,rfl,by decide⟩
theorem i64n_one (l:List Nat):∀u∈i64n l,u.oneCell'=true:=by
 intro u hu
 obtain⟨x,_,rfl⟩:=List.mem_map.1 hu
 rfl
theorem tr_st2 {w:World} {B:Nat} {p:Option Addr} {n c:Nat} {l:List Tr} (h:Sl w B 57 8 p n c (trCells l)) {i:Nat} (hi:i<l.length) (t':Tr) {e N:Int} (he:e=(i:Int)) (hN:(i:Int)<N) {K:World→Prop}
  (k:∀w',Sl w' B 57 8 p n c (trCells (l.set i t'))→Fr (On p) w w'→(∀g o,¬On p g∨l.length*8≤o→w'.cell? ⟨g,o,none⟩=w.cell? ⟨g,o,none⟩)→K w') :
  NilP p fun a=>0≤e∧e<N∧Sh.St w (at0 a (e.toNat*8)) (.int .i64 t'.size) fun w1=>Sh.St w1 (at0 (at0 a (e.toNat*8)) 1) (.int .u32 (t'.va:Int)) fun w2=>Sh.St w2 (at0 (at0 a (e.toNat*8)) 2) (.int .u64 (t'.pa:Int)) fun w3 =>
   Sh.St w3 (at0 (at0 a (e.toNat*8)) 3) (.int .i64 t'.dom) fun w4=>Sh.St w4 (at0 (at0 a (e.toNat*8)) 4) (.int .i64 t'.ap) fun w5=>Sh.St w5 (at0 (at0 a (e.toNat*8)) 5) (.int .u32 (t'.bits:Int)) fun w6 =>
   Sh.St w6 (at0 (at0 a (e.toNat*8)) 6) (.bool t'.ng) fun w7=>Sh.St w7 (at0 (at0 a (e.toNat*8)) 7) (.bool t'.xn) fun w8=>K w8:=by
 subst he
 have hl:=trCells_len l
 have hn:=h.len
 obtain⟨g,sp,rfl,_,_⟩:=h.some_ (by omega)
 rw [NilP_some]
 simp only [at0_mk,Int.toNat_natCast,Nat.zero_add]
 refine⟨by omega,hN,?_⟩
 refine h.st2 rfl (by omega) rfl fun w1 h1 f1 c1=>?_
 refine h1.st2 rfl (by simp;omega) rfl fun w2 h2 f2 c2=>?_
 refine h2.st2 rfl (by simp;omega) rfl fun w3 h3 f3 c3=>?_
 refine h3.st2 rfl (by simp;omega) rfl fun w4 h4 f4 c4=>?_
 refine h4.st2 rfl (by simp;omega) rfl fun w5 h5 f5 c5=>?_
 refine h5.st2 rfl (by simp;omega) rfl fun w6 h6 f6 c6=>?_
 refine h6.st2 rfl (by simp;omega) rfl fun w7 h7 f7 c7=>?_
 refine h7.st2 rfl (by simp;omega) rfl fun w8 h8 f8 c8=>?_
 refine k w8 ?_ (((((((f1.trans f2).trans f3).trans f4).trans f5).trans f6).trans f7).trans f8) fun g' o hg=>?_
 ·rw [set8 _ _ (by omega)] at h8
  rw [trCells_set hi]
  exact h8
 ·have ho:∀j,j<8→g'≠g∨o≠i*8+j:=fun j hj=>hg.elim (fun h=>.inl fun e=>h ⟨_,rfl,e.symm⟩) fun h=>.inr (by omega)
  rw [c8 _ _ (ho 7 (by decide)),c7 _ _ (ho 6 (by decide)),c6 _ _ (ho 5 (by decide)),c5 _ _ (ho 4 (by decide)),c4 _ _ (ho 3 (by decide)),c3 _ _ (ho 2 (by decide)),c2 _ _ (ho 1 (by decide)),c1 _ _ (ho 0 (by decide))]
theorem int_st {w:World} {B:Nat} {e1:TypeId} {k:IntKind} {p:Option Addr} {n c:Nat} {xs:List Value} (h:Sl w B e1 1 p n c xs) {e N:Int} {i:Nat} (hi:i<n) (he:e=(i:Int)) (hN:(i:Int)<N) {v:Int} {K:World→Prop}
  (kk:∀w' xs',Sl w' B e1 1 p n c xs'→Fr (On p) w w'→K w'):NilP p fun a=>0≤e∧e<N∧Sh.St w (at0 a e.toNat) (.int k v) K:=by
 subst he
 have hl:=h.len
 obtain⟨g,sp,rfl,_,_⟩:=h.some_ (by omega)
 rw [NilP_some]
 simp only [at0_mk,Int.toNat_natCast,Nat.zero_add]
 exact⟨by omega,hN,h.st rfl (by omega) rfl fun w' h' f _=>kk w' _ h' f⟩
theorem cellF {T:Nat→Prop} {u v:World} {g o:Nat} {x:Value} (f:Fr T u v) (hn:¬T g) (h:u.cell? ⟨g,o,none⟩=some x):v.cell? ⟨g,o,none⟩=some x:=by
 have r:Rd u (some ⟨g,o,none⟩) [x]:=fun i v hi=>by
  cases i with
  | zero=>simp at hi;subst hi;exact⟨g,o,rfl,h⟩
  | succ i=>simp at hi
 obtain⟨b,o',e,hc⟩:=r.fr f (fun b hb=>by obtain⟨a,ha,rfl⟩:=hb;cases ha;exact hn) 0 x rfl
 cases e
 exact hc
def blks (S:St) (a:Nat):List Tr:=match root? S.roots a with
 | some R=>R.blocks
 | none=>[]
theorem f16g {w0 w:World} {ro:Ro} {J:Ids} {n d:Nat} {S:St} {tk:List (Nat×Nat)} (H:LawAt w0 w ro J n S d tk) (a:Nat) :
  Ret prog 16 #[.pointer (some ⟨J.e,0,none⟩),.int .u64 (a:Int)] w fun v w'=>∃p c,v=.slice p (blks S a).length c∧Sl w' w.heap.size 57 8 p (blks S a).length c (trCells (blks S a))∧Fr0 w w':=by
 refine (f16 H.sys (H.inv.std H.n1) a).mono ?_
 unfold blks
 rintro v w' ⟨f,⟨h,rfl⟩|⟨R',p,c,h,rfl,hsl⟩⟩
 ·rw [h];exact⟨none,0,rfl,Sl.nil _ _ _ _,f⟩
 ·rw [h];exact⟨p,c,rfl,hsl,f⟩
theorem Inv.blksLen {n:Nat} {tk:List (Nat×Nat)} {S:St} (h:Inv 256 n tk S) (hn:1≤n∧n≤7) (a:Nat):(blks S a).length≤100000000:=by
 unfold blks
 cases hr:root? S.roots a with
 | none=>simp
 | some R=>exact (h.std hn).len _ (root_mem hr)
theorem LawAt.frO {w0 w w':World} {ro:Ro} {J:Ids} {n d:Nat} {S:St} {tk:List (Nat×Nat)} (H:LawAt w0 w ro J n S d tk) {T:Nat→Prop} (f:Fr T w w') (hT:∀x,T x→ro x=(0,0)∧w0.heap.size≤x):LawAt w0 w' ro J n S d tk:=by
 obtain⟨p,c,h1,h2,h3⟩:=H.desk.st
 refine⟨H.sys.frO f (fun x h=>by rw [(hT x h).1]) (fun x h7 h=>by have:=(hT x h).2;have:=H.b7;omega),H.inv,H.n1,⟨⟨p,c,h1.fr f fun h=>?_,h2.fr f fun x hx h=>?_,h3⟩,H.desk.rd,H.desk.lo⟩,H.ext,H.fr.newS f fun b h=>(hT b h).2,H.b7⟩
 ·have:=(hT _ h).1;rw [H.desk.rd] at this;cases this
 ·have:=(hT x h).1;rw [(h3 x hx).1] at this;cases this
theorem PutE.keys {n:Nat} {S S':St} {a:Nat} {l:List Tr} {e:Nat} (h:PutE n S a l e S'):keysOf S'.roots=keysOf S.roots:=by
 rcases h with ⟨_,_,rfl⟩|⟨_,R,g,m,p',l',hR,hm,ht,rfl⟩
 ·rfl
 ·unfold keysOf
  have e:∀l:List (Nat×RootS),l.map (fun x=>((x.1:Nat):Int))=(l.map (·.1)).map fun x:Nat=>(x:Int):=fun l=>by rw [List.map_map];rfl
  rw [e,e]
  show (((updR S.roots a _).map (·.1)).map _).mergeSort _=_
  rw [updR_keys]
def tk0 (s:Int):Tr:=⟨s,0,0,0,0,0,false,false⟩
theorem set_all {la:List Tr} {i:Nat} {s:Int} (hi:i<la.length) (h:∀k,k<i→∃t,la[k]?=some t∧t.size=s):∀k,k<i+1→∃t,(la.set i (tk0 s))[k]?=some t∧t.size=s:=fun k hk=>by
 rcases Nat.lt_or_ge k i with h1|h1
 ·rw [List.getElem?_set_ne (by omega)];exact h k h1
 ·obtain rfl:k=i:=by omega
  exact⟨_,List.getElem?_set_self hi,rfl⟩
set_option maxHeartbeats 4000000 in
/-- what is told is a copy -/
theorem f5 {w:World} (hG:Gl w) (c0 c1 c2 c3 c4 c5 c6 c7 c8:Int) (h7:I64 c7) (h8:I64 c8) {q:Option Addr} {m c:Nat} {s:ScrT} (hs:ScrAt w w.heap.size q m s)
  {lq:Option Addr} {lc:Nat} {l:List Tr} (lr:Rd w lq (trCells l)) (lwf:∀t∈l,t.wf) (ls:l.length≤2932031007402) (lz:lq=none→lc=0) (llt:l≠[]→∀b,On lq b→b<w.heap.size) :
  Ret prog 5 #[worldV c0 c1 c2 c3 c4 c5 c6 c7 c8,.slice q m c,.slice lq l.length lc] w fun v w'=>v=.bool true∧Fr0 w w':=by
 refine F5_of _ _ _ _ _ _ _ _ _ _ _ _ _ _ _ _ _ ?_
 unfold F5;try dsimp only [Liiiiiiiii,Liiissiubbsiuiubii,Liuviiubb,S_8,Uib,Uvi,lb_,li_,lp_,ls_,ub_,ui_]
 refine New.mk fun w1 n1 f1 s1=>?_
 try simp only [n1.ld_iff,sb_,Nat.reduceAdd]
 have hsz:=hG.gr.size
 refine Ret.use (f9 (hG.fr0 f1) c0 c1 c2 c3 c4 c5 c6 c7 c8 h7 h8) ?_
 rintro _ w2 ⟨J,ro2,n,d,k,rfl,H2⟩
 simp only [sb_,Nat.reduceAdd]
 simp only [Option.isNone_some,BIf_false]
 refine Ret.use (f10 H2.sys.gl) ?_
 rintro _ w3 ⟨rfl,f3⟩
 have H3:=H2.fr0 f3
 simp only [sb_,Nat.reduceAdd]
 simp only [Bool.not_true,BIf_false]
 refine Loop.by (fun st w'=>∃(i:Nat) (ro:Ro) (S:St) (tk:List (Nat×Nat)),i≤m∧st=[.int .i64 (i:Int)]∧LawAt w1 w' ro J n S d tk) (fun st _=>match st with | [.int _ i]=>m-i.toNat|_=>0) ⟨0,ro2,_,_,by omega,rfl,H3⟩ ?_
 rintro _ w4 ⟨i,ro4,S,tk,hi,rfl,H4⟩
 simp only [sb_,Nat.reduceAdd]
 have hmt:=hs.lt
 refine BIf_cases (fun hlt=>?_) (fun hge=>?_)
 ·obtain⟨x,hx⟩:∃x,s[i]?=some x:=⟨s[i]'(by have:=hs.len;omega),List.getElem?_eq_getElem _⟩
  refine op_ld (hs.rd.fr0 (f1.trans H4.fr)) rfl hx hlt ?_
  have hO:=(hs.ok x (List.mem_of_getElem? hx)).fr0 f1
  have hO:OpIn w1 w1.heap.size x.1 x.2.1 x.2.2:={ hO with lo:=fun hl b hb=>Nat.lt_of_lt_of_le (hO.lo hl b hb) f1.size }
  refine Ret.use (f11 H4 hO) ?_
  rintro _ w5 ⟨y,e,S5,tk5,ro5,rfl,hd,E5,H5,_⟩
  simp only [sb_,Nat.reduceAdd]
  rw [w64 (n:=(i:Int)+1) (by omega) (by omega)]
  exact⟨⟨i+1,ro5,S5,tk5,by omega,rfl,H5⟩,(by first|omega|(simp only [Int.toNat_natCast];omega))⟩
 have C4:=H4.cut
 refine RunV.build0 E57 w4.heap.size (Nat.le_refl _) fun p5 w5 sl5 f5 hon5=>?_
 simp only [sb_,Nat.reduceAdd]
 refine append_from E57 sl5 f5.size (((lr.fr0 f1).fr0 H4.fr).fr0 f5) (trCells_len l) lz (tr_one _) (by simp only [maxLen];omega) (by omega) fun po co w6 slo f6 hon6=>?_
 simp only [Nat.zero_add,List.nil_append] at slo ⊢
 have f46:Fr0 w4 w6:=f5.newS f6 hon5
 have C6:=C4.fr0 f46
 obtain⟨p6,c6',d6,_,_⟩:=C6.desk.st
 have hon:∀x,On po x→w4.heap.size≤x∧x<w6.heap.size:=fun x hx=>slo.lt x hx
 simp only [sb_,Nat.reduceAdd]
 try simp only [d6.ld_iff,sb_,Nat.reduceAdd]
 refine Ret.use (f12k C6.sys C6.inv.rl) ?_
 rintro _ w7 ⟨pl,cl,rfl,sll,f7⟩
 have C7:=C6.fr0 f7
 obtain⟨p7,c7',d7,_,_⟩:=C7.desk.st
 have hll:∀x,On pl x→w6.heap.size≤x∧x<w7.heap.size:=fun x hx=>sll.lt x hx
 have z46:=f46.size
 have z7:=f7.size
 simp only [sb_,Nat.reduceAdd]
 refine Ret.use (f23 sll.rd C7.inv.rl 0 ⟨by decide,by decide⟩) ?_
 rintro _ wz ⟨rfl,hw⟩
 obtain rfl:=hw.symm
 obtain⟨a,ha,haL⟩:=rootAt_lt C7.inv (by decide) 0
 have hra:0<S.roots.length→(keysOf S.roots)[0]?=some (a:Int):=fun hp=>by
  have h0:0<(keysOf S.roots).length:=by rw [keysOf_len];exact hp
  rw [List.getElem?_eq_getElem h0]
  rw [←ha]
  unfold rootAt
  rw [show ((0:Int).emod ((S.roots.length:Int)+1)).toNat=0 from by rw [show (0:Int).emod ((S.roots.length:Int)+1)=0 from Int.zero_emod _];rfl,List.getD_eq_getElem?_getD,List.getElem?_eq_getElem h0]
  rfl
 rw [ha]
 simp only [sb_,Nat.reduceAdd]
 try simp only [d7.ld_iff,sb_,Nat.reduceAdd]
 refine Ret.use (C7.put a haL (slo.rd.fr0 f7) (fun _ b hb=>by rw [Ro.cut_eq (hon b hb).1]) slo.le (by omega) lwf) ?_
 rintro _ w8 ⟨e8,S8,ro8,rfl,hP,E8,H8,F8⟩
 have slo8:=(slo.fr0 f7).fr F8 fun b hb h=>h (by rw [Ro.cut_eq (hon b hb).1])
 have sll8:=sll.fr F8 fun b hb h=>h (by rw [Ro.cut_eq (Nat.le_trans z46 (hll b hb).1)])
 have z8:=F8.size
 have hro:∀x,w4.heap.size≤x→x<w7.heap.size→ro8 x=(0,0):=fun x h1 h2=>(E8 x h2).trans (Ro.cut_eq h1)
 have z14:=H4.fr.size
 simp only [sb_,Nat.reduceAdd]
 refine Loop.by (fun st w'=>∃(i:Nat) (l':List Tr),i≤l.length∧st=[.int .i64 (i:Int),.bool false]∧l'.length=l.length∧(∀k,i≤k→l'[k]?=l[k]?)∧Sl w' w4.heap.size 57 8 po l.length co (trCells l')∧Fr (On po) w8 w')
  (fun st _=>match st with | [.int _ i,_]=>l.length-i.toNat|_=>0) ⟨0,l,by omega,rfl,rfl,fun _ _=>rfl,slo8,Fr.refl _ _⟩ ?_
 rintro _ w9 ⟨i2,l',hi2,rfl,hl',hk',slo9,f9⟩
 have H9:=H8.frO f9 fun x hx=>⟨hro x (hon x hx).1 (by have:=hon x hx;omega),by have:=hon x hx;omega⟩
 simp only [sb_,Nat.reduceAdd]
 refine BIf_cases (fun hlt2=>?_) (fun hge2=>?_)
 ·obtain⟨t,ht⟩:∃t,l[i2]?=some t:=⟨l[i2]'(by omega),List.getElem?_eq_getElem _⟩
  refine tr_ld slo9.rd rfl ((hk' i2 (Nat.le_refl _)).trans ht) hlt2 ?_
  refine tr_ld ((lr.fr0 f1).fr0 H9.fr) rfl ht hlt2 ?_
  refine RunP.neqS S57 (fun w=>eq57 t t w) fun r hr=>?_
  have hr:r=true:=hr.2 rfl
  subst hr
  rw [AsB_bool]
  show BIf false _ _
  rw [BIf_false]
  refine tr_st2 (slo9.fr0 (Fr.refl _ _).drew) (by omega) (tk0 9) rfl hlt2 fun w10 slo10 f10 _=>?_
  rw [w64 (n:=(i2:Int)+1) (by omega) (by omega)]
  exact⟨⟨i2+1,_,by omega,rfl,by rw [List.length_set];exact hl',fun k hk=>by rw [List.getElem?_set_ne (by omega)];exact hk' k (by omega),slo10,f9.trans f10.of_drew⟩,(by first|omega|(simp only [Int.toNat_natCast];omega))⟩
 have sll9:=sll8.fr f9 fun b hb h=>by have:=hll b hb;have:=hon b h;omega
 have z9:=f9.size
 have D9:=H9.cut
 have hK:=hP.keys
 have hbl:=D9.inv.blksLen D9.n1 a
 have htl:=D9.inv.tabsLen
 obtain⟨p9,c9',d9,_,_⟩:=D9.desk.st
 try simp only [d9.ld_iff,sb_,Nat.reduceAdd]
 refine Ret.use (f16g D9 a) ?_
 rintro _ w10 ⟨pa,ca,rfl,sla,f10⟩
 have D10:=D9.fr0 f10
 obtain⟨p10,c10',d10,_,_⟩:=D10.desk.st
 have z10:=f10.size
 have hpa:∀x,On pa x→w9.heap.size≤x∧x<w10.heap.size:=fun x hx=>sla.lt x hx
 simp only [sb_,Nat.reduceAdd]
 try simp only [d10.ld_iff,sb_,Nat.reduceAdd]
 refine Ret.use (f16g D10 a) ?_
 rintro _ w11 ⟨pb,cb,rfl,slb,f11'⟩
 have D11:=D10.fr0 f11'
 obtain⟨p11,c11',d11,_,_⟩:=D11.desk.st
 have z11:=f11'.size
 have hpb:∀x,On pb x→w10.heap.size≤x∧x<w11.heap.size:=fun x hx=>slb.lt x hx
 simp only [sb_,Nat.reduceAdd]
 try simp only [d11.ld_iff,sb_,Nat.reduceAdd]
 refine Ret.use (f22 D11.sys) ?_
 rintro _ w12 ⟨px,cx,rfl,slx,f12'⟩
 have D12:=D11.fr0 f12'
 obtain⟨p12,c12',d12,_,_⟩:=D12.desk.st
 have z12:=f12'.size
 have hpx:∀x,On px x→w11.heap.size≤x∧x<w12.heap.size:=fun x hx=>slx.lt x hx
 simp only [sb_,Nat.reduceAdd]
 try simp only [d12.ld_iff,sb_,Nat.reduceAdd]
 refine Ret.use (f22 D12.sys) ?_
 rintro _ w13 ⟨py,cy,rfl,sly,f13⟩
 have z13:=f13.size
 have hpy:∀x,On py x→w12.heap.size≤x∧x<w13.heap.size:=fun x hx=>sly.lt x hx
 have sla:=sla.fr0 (f11'.trans (f12'.trans f13))
 have slb:=slb.fr0 (f12'.trans f13)
 have slx:=slx.fr0 f13
 simp only [sb_,Nat.reduceAdd]
 refine Ret.use (f15 sla.rd slb.rd (by omega)) ?_
 rintro _ w14 ⟨rfl,f14⟩
 simp only [sb_,Nat.reduceAdd]
 simp only [Bool.not_true,BIf_false]
 have hi64:∀l:List Nat,i64n l=(l.map fun x=>((x:Nat):Int)).map (Value.int .i64):=fun l=>by unfold i64n;rw [List.map_map];rfl
 have e1:=f25 (w:=w14) (c:=cx) (d:=cy) (l:=(tabs S8.l).map fun x=>((x:Nat):Int)) (by rw [←hi64];exact slx.rd.fr0 f14) (by rw [←hi64];exact sly.rd.fr0 f14) (by rw [List.length_map];omega)
 rw [List.length_map] at e1
 refine Ret.use e1 ?_
 rintro _ w15 ⟨rfl,f15'⟩
 simp only [sb_,Nat.reduceAdd]
 simp only [Bool.not_true,BIf_false]
 have f1315:=f14.trans f15'
 have z15:=f1315.size
 have sla:=sla.fr0 f1315
 have slb:=slb.fr0 f1315
 have slx:=slx.fr0 f1315
 have sly:=sly.fr0 f1315
 refine RunV.build0 E57 w15.heap.size (Nat.le_refl _) fun p16 w16 sl16 f16' hon16=>?_
 simp only [sb_,Nat.reduceAdd]
 refine append_src E57 sl16 f16'.size (sla.fr0 f16').src (tr_one _) (by simp only [maxLen];omega) (by omega) fun pw cw w17 slw f17' _=>?_
 simp only [Nat.zero_add,List.nil_append] at slw ⊢
 have f1517:Fr0 w15 w17:=f16'.newS f17' hon16
 have z17:=f1517.size
 have hpw:∀x,On pw x→w15.heap.size≤x∧x<w17.heap.size:=fun x hx=>slw.lt x hx
 simp only [sb_,Nat.reduceAdd]
 refine RunV.build0 E70 w17.heap.size (Nat.le_refl _) fun p18 w18 sl18 f18' hon18=>?_
 simp only [sb_,Nat.reduceAdd]
 refine append_src E70 sl18 f18'.size ((slx.fr0 f1517).fr0 f18').src (i64n_one _) (by simp only [maxLen];omega) (by omega) fun ph ch w19 slh f19' _=>?_
 simp only [Nat.zero_add,List.nil_append] at slh ⊢
 have f1719:Fr0 w17 w19:=f18'.newS f19' hon18
 have z19:=f1719.size
 have hph:∀x,On ph x→w17.heap.size≤x∧x<w19.heap.size:=fun x hx=>slh.lt x hx
 have f1519:=f1517.trans f1719
 have f919:Fr0 w9 w19:=f10.trans (f11'.trans (f12'.trans (f13.trans (f1315.trans f1519))))
 have D19:=D9.fr0 f919
 have slw:=slw.fr0 f1719
 have sla:=sla.fr0 f1519
 have slb:=slb.fr0 f1519
 have slx:=slx.fr0 f1519
 have sly:=sly.fr0 f1519
 have sll:=sll9.fr0 f919
 clear e1 f1719 f1519 f1517 f1315
 generalize hBl:blks S8 a=Bl at *
 generalize hTb:tabs S8.l=Tb at *
 simp only [sb_,Nat.reduceAdd]
 refine RunV.build1 E57 (by decide) (by rfl) fun w20 n20 f20 s20=>?_
 simp only [sb_,Nat.reduceAdd]
 refine append_keep E57 (sla.fr0 f20) (by have:=f20.size;omega) (news:=(tk0 11).cells) (m:=1) (fun j u hu=>by rw [Nat.zero_add];exact n20.cell.trans hu) rfl (tr_cells_one _) (by simp only [maxLen];omega) (by omega) fun pu cu w21 slu sla f21 hon21=>?_
 have z20:=f20.size
 have z21:=f21.size
 simp only [sb_,Nat.reduceAdd]
 refine RunV.build1 E57 (by decide) (by rfl) fun w22 n22 f22' s22=>?_
 simp only [sb_,Nat.reduceAdd]
 have z22:=f22'.size
 refine append_keep E57 (((slb.fr0 f20).fr f21 fun x hx h=>by have:=hpa x h;have:=hpb x hx;omega).fr0 f22') (by omega) (news:=(tk0 12).cells) (m:=1) (fun j u hu=>by rw [Nat.zero_add];exact n22.cell.trans hu) rfl (tr_cells_one _) (by simp only [maxLen];omega) (by omega) fun pv cv w23 slv slb f23' hon23=>?_
 have z23:=f23'.size
 have sla:=(sla.fr0 f22').fr f23' fun x hx h=>by have:=hpa x hx;have:=hpb x h;omega
 have hpu:∀x,On pu x→¬On pb x:=fun x hx h=>by
  have:=hpb x h
  rcases hon21 x hx with h|h
  ·have:=hpa x h;omega
  ·omega
 have hpv:∀x,On pv x→¬On pa x:=fun x hx h=>by
  have:=hpa x h
  rcases hon23 x hx with h|h
  ·have:=hpb x h;omega
  ·omega
 have slu:=(slu.fr0 f22').fr f23' hpu
 have ix:∀s:Int,(trCells Bl++(tk0 s).cells)[Bl.length*8]?=some (.int .i64 s):=fun s=>by
  rw [List.getElem?_append_right (by rw [trCells_len];exact Nat.le_refl _),trCells_len,Nat.sub_self];rfl
 obtain⟨ub,spu,rfl,_,_⟩:=slu.some_ (Nat.succ_pos _)
 obtain⟨vb,spv,rfl,_,_⟩:=slv.some_ (Nat.succ_pos _)
 have hu0:(w9.heap.size≤ub∧ub<w10.heap.size)∨w19.heap.size≤ub:=by
  rcases hon21 ub ⟨_,rfl,rfl⟩ with h|h
  ·have:=hpa _ h;omega
  ·omega
 have hv0:(w10.heap.size≤vb∧vb<w11.heap.size)∨w19.heap.size≤vb:=by
  rcases hon23 vb ⟨_,rfl,rfl⟩ with h|h
  ·have:=hpb _ h;omega
  ·omega
 have hub:=hpu ub ⟨_,rfl,rfl⟩
 have hvb:=hpv vb ⟨_,rfl,rfl⟩
 have cu23:=slu.rd.at_ (ix 11)
 have cv23:=slv.rd.at_ (ix 12)
 have F23:Fr (fun x=>On pl x∨(w9.heap.size≤x∧x<w13.heap.size)∨w19.heap.size≤x) w19 w23 :=
  ((f20.mono fun _ _ h=>h.elim).trans (f21.mono fun x _ h=>.inr (.inl (by have:=hpa x h;omega)))).trans ((f22'.mono fun _ _ h=>h.elim).trans (f23'.mono fun x _ h=>.inr (.inl (by have:=hpb x h;omega))))
 clear n20 n22 s20 s22 hon21 hon23 ix slu slv
 simp only [sb_,Nat.reduceAdd]
 refine Loop.by (fun st w'=>∃(i:Nat) (la lb:List Tr),i≤Bl.length∧st=[.int .i64 (i:Int)]∧la.length=Bl.length∧lb.length=Bl.length∧(∀k,k<i→∃t,la[k]?=some t∧t.size=13)∧(∀k,k<i→∃t,lb[k]?=some t∧t.size=14) ∧
   Sl w' w9.heap.size 57 8 pa Bl.length ca (trCells la)∧Sl w' w10.heap.size 57 8 pb Bl.length cb (trCells lb)∧w'.cell? ⟨ub,Bl.length*8,none⟩=some (.int .i64 11)∧w'.cell? ⟨vb,Bl.length*8,none⟩=some (.int .i64 12)∧Fr (fun x=>On pa x∨On pb x) w23 w')
  (fun st _=>match st with | [.int _ i]=>Bl.length-i.toNat|_=>0) ⟨0,Bl,Bl,by omega,rfl,rfl,rfl,fun k hk=>by omega,fun k hk=>by omega,sla,slb,cu23,cv23,Fr.refl _ _⟩ ?_
 rintro _ w24 ⟨i3,la,lb,hi3,rfl,hla,hlb,ka,kb,sla24,slb24,cu24,cv24,f24⟩
 simp only [sb_,Nat.reduceAdd]
 refine BIf_cases (fun hlt3=>?_) (fun hge3=>?_)
 ·refine tr_st2 sla24 (by omega) (tk0 13) rfl hlt3 fun w25 sla25 f25' c25=>?_
  refine tr_st2 (slb24.fr f25' fun x hx h=>by have:=hpa x h;have:=hpb x hx;omega) (by omega) (tk0 14) rfl hlt3 fun w26 slb26 f26' c26=>?_
  rw [w64 (n:=(i3:Int)+1) (by omega) (by omega)]
  refine⟨⟨i3+1,_,_,by omega,rfl,by rw [List.length_set];exact hla,by rw [List.length_set];exact hlb,set_all (by omega) ka,set_all (by omega) kb,sla25.fr f26' fun x hx h=>by have:=hpa x hx;have:=hpb x h;omega,slb26,(c26 _ _ (.inl hub)).trans ((c25 _ _ (.inr (by rw [hla];exact Nat.le_refl _))).trans cu24),(c26 _ _ (.inr (by rw [hlb];exact Nat.le_refl _))).trans ((c25 _ _ (.inl hvb)).trans cv24),f24.trans ((f25'.mono fun _ _ h=>.inl h).trans (f26'.mono fun _ _ h=>.inr h))⟩,(by first|omega|(simp only [Int.toNat_natCast];omega))⟩
 obtain rfl:i3=Bl.length:=by omega
 have F24:=F23.trans (f24.mono fun x _ h=>h.elim (fun h=>.inr (.inl (by have:=hpa x h;omega))) fun h=>.inr (.inl (by have:=hpb x h;omega)))
 have hab:∀x,w11.heap.size≤x→¬(On pa x∨On pb x):=fun x hx h=>h.elim (fun h=>by have:=hpa x h;omega) fun h=>by have:=hpb x h;omega
 have habn:∀x,x<w9.heap.size→¬(On pa x∨On pb x):=fun x hx h=>h.elim (fun h=>by have:=hpa x h;omega) fun h=>by have:=hpb x h;omega
 have F1923:Fr (fun x=>On pa x∨On pb x) w19 w23:=((f20.mono fun _ _ h=>h.elim).trans (f21.mono fun x _ h=>.inl h)).trans ((f22'.mono fun _ _ h=>h.elim).trans (f23'.mono fun x _ h=>.inr h))
 have F1924:=F1923.trans f24
 have slx:=slx.fr F1924 fun x hx=>hab x (hpx x hx).1
 have sly:=sly.fr F1924 fun x hx=>hab x (by have:=hpy x hx;omega)
 have sll:=sll.fr F1924 fun x hx=>habn x (by have:=hll x hx;omega)
 refine Loop.by (fun st w'=>∃(j:Nat) (xs ys:List Value),j≤Tb.length∧st=[.int .i64 (j:Int)]∧Sl w' w11.heap.size 3 1 px Tb.length cx xs∧Sl w' w12.heap.size 3 1 py Tb.length cy ys∧Fr (fun x=>On px x∨On py x) w24 w')
  (fun st _=>match st with | [.int _ i]=>Tb.length-i.toNat|_=>0) ⟨0,_,_,by omega,rfl,slx,sly,Fr.refl _ _⟩ ?_
 rintro _ w25 ⟨j,xs,ys,hj,rfl,slx25,sly25,f25'⟩
 simp only [sb_,Nat.reduceAdd]
 refine BIf_cases (fun hlt3=>?_) (fun hge4=>?_)
 ·refine int_st slx25 (by omega) rfl hlt3 fun w26 xs' sx g26=>?_
  refine int_st (sly25.fr g26 fun x hx h=>by have:=hpx x h;have:=hpy x hx;omega) (by omega) rfl hlt3 fun w27 ys' sy g27=>?_
  rw [w64 (n:=(j:Int)+1) (by omega) (by omega)]
  exact⟨⟨j+1,_,_,by omega,rfl,sx.fr g27 fun x hx h=>by have:=hpx x hx;have:=hpy x h;omega,sy,f25'.trans ((g26.mono fun _ _ h=>.inl h).trans (g27.mono fun _ _ h=>.inr h))⟩,(by first|omega|(simp only [Int.toNat_natCast];omega))⟩
 have hxyn:∀x,x<w11.heap.size→¬(On px x∨On py x):=fun x hx h=>h.elim (fun h=>by have:=hpx x h;omega) fun h=>by have:=hpy x h;omega
 have F25:=F24.trans (f25'.mono fun x _ h=>h.elim (fun h=>.inr (.inl (by have:=hpx x h;omega))) fun h=>.inr (.inl (by have:=hpy x h;omega)))
 have sla25:=sla24.fr f25' fun x hx=>hxyn x (by have:=hpa x hx;omega)
 have slb25:=slb24.fr f25' fun x hx=>hxyn x (hpb x hx).2
 have sll:=sll.fr f25' fun x hx=>hxyn x (by have:=hll x hx;omega)
 have hubl:(w9.heap.size≤ub∧ub<w10.heap.size)∨w19.heap.size≤ub:=hu0
 have hvbl:(w10.heap.size≤vb∧vb<w11.heap.size)∨w19.heap.size≤vb:=hv0
 have cu25:=cellF f25' (fun h=>h.elim (fun h=>by have:=hpx _ h;omega) fun h=>by have:=hpy _ h;omega) cu24
 have cv25:=cellF f25' (fun h=>h.elim (fun h=>by have:=hpx _ h;omega) fun h=>by have:=hpy _ h;omega) cv24
 refine Loop.by (fun st w'=>∃(j:Nat) (xs:List Value),j≤S.roots.length∧st=[.int .i64 (j:Int)]∧Sl w' w6.heap.size 30 1 pl S.roots.length cl xs∧Fr (On pl) w25 w')
  (fun st _=>match st with | [.int _ i]=>S.roots.length-i.toNat|_=>0) ⟨0,_,by omega,rfl,sll,Fr.refl _ _⟩ ?_
 rintro _ w26 ⟨j2,zs,hj2,rfl,sll26,f26'⟩
 have hrl:=C7.inv.rl
 simp only [sb_,Nat.reduceAdd]
 refine BIf_cases (fun hlt3=>?_) (fun hge5=>?_)
 ·refine int_st sll26 (by omega) rfl hlt3 fun w27 xs' sx g27=>?_
  rw [w64 (n:=(j2:Int)+1) (by omega) (by omega)]
  exact⟨⟨j2+1,_,by omega,rfl,sx,f26'.trans g27⟩,(by first|omega|(simp only [Int.toNat_natCast];omega))⟩
 have F26:=F25.trans (f26'.mono fun x _ h=>.inl h)
 have sla26:=sla25.fr f26' fun x hx h=>by have:=hpa x hx;have:=hll x h;omega
 have slb26:=slb25.fr f26' fun x hx h=>by have:=hpb x hx;have:=hll x h;omega
 have cu26:=cellF f26' (fun h=>by have:=hll _ h;omega) cu25
 have cv26:=cellF f26' (fun h=>by have:=hll _ h;omega) cv25
 have hT2:∀x,w15.heap.size≤x→x<w19.heap.size→¬(On pl x∨(w9.heap.size≤x∧x<w13.heap.size)∨w19.heap.size≤x):=fun x h1 h2 h=>by
  rcases h with h|h|h
  ·have:=hll x h;omega
  ·omega
  ·omega
 have D26:=D19.frO F26 fun x hx=>by
  rcases hx with h|h|h
  ·have:=hll x h
   refine⟨?_,by omega⟩
   rw [RExt.cut x (by omega)]
   exact hro x (by omega) (by omega)
  ·exact⟨Ro.cut_eq (by omega),by omega⟩
  ·exact⟨Ro.cut_eq (by omega),by omega⟩
 have slw:=slw.fr F26 fun x hx=>hT2 x (hpw x hx).1 (by have:=hpw x hx;omega)
 have slh:=slh.fr F26 fun x hx=>hT2 x (by have:=hph x hx;omega) (hph x hx).2
 refine Loop.by (fun st w'=>∃j:Nat,j≤Bl.length∧st=[.int .i64 (j:Int),.bool false]∧w'=w26) (fun st _=>match st with | [.int _ i,_]=>Bl.length-i.toNat|_=>0) ⟨0,by omega,rfl,rfl⟩ ?_
 rintro _ _ ⟨j3,hj3,rfl,hw⟩
 obtain rfl:=hw.symm
 simp only [sb_,Nat.reduceAdd]
 refine BIf_cases (fun hlt3=>?_) (fun hge6=>?_)
 ·obtain⟨t,ht,hts⟩:=ka j3 (by omega)
  obtain⟨t2,ht2,hts2⟩:=kb j3 (by omega)
  refine tr_cell sla26.rd ht (j:=0) (by decide) (x:=t.size) rfl hlt3 ?_
  refine BIf_ne (fun h=>absurd hts h) (fun _=>?_)
  refine tr_cell slb26.rd ht2 (j:=0) (by decide) (x:=t2.size) rfl hlt3 ?_
  refine BIf_ne (fun h=>absurd hts2 h) (fun _=>?_)
  rw [w64 (n:=(j3:Int)+1) (by omega) (by omega)]
  exact⟨⟨j3+1,by omega,rfl,by trivial⟩,(by first|omega|(simp only [Int.toNat_natCast];omega))⟩
 simp only [Int.toNat_natCast,Nat.add_zero]
 refine⟨by omega,by omega,_,cu26,AsI_int.2 ?_⟩
 refine BIf_eq (fun _=>?_) (fun h=>absurd rfl h)
 refine⟨by omega,by omega,_,cv26,AsI_int.2 ?_⟩
 refine BIf_eq (fun _=>?_) (fun h=>absurd rfl h)
 obtain⟨p26,c26',d26,_,_⟩:=D26.desk.st
 try simp only [d26.ld_iff,sb_,Nat.reduceAdd]
 refine Ret.use (f16g D26 a) ?_
 rw [hBl]
 rintro _ w27 ⟨pr,cr,rfl,slr,g27⟩
 have D27:=D26.fr0 g27
 obtain⟨p27,c27',d27,_,_⟩:=D27.desk.st
 simp only [sb_,Nat.reduceAdd]
 refine Ret.use (f15 slr.rd (slw.fr0 g27).rd (by omega)) ?_
 rintro _ w28 ⟨rfl,g28⟩
 have D28:=D27.fr0 g28
 obtain⟨p28,c28',d28,_,_⟩:=D28.desk.st
 simp only [sb_,Nat.reduceAdd]
 simp only [BIf_true]
 try simp only [d28.ld_iff,sb_,Nat.reduceAdd]
 refine Ret.use (f22 D28.sys) ?_
 rw [hTb]
 rintro _ w29 ⟨pq,cq,rfl,slq,g29⟩
 have D29:=D28.fr0 g29
 simp only [sb_,Nat.reduceAdd]
 have e2:=f25 (w:=w29) (c:=cq) (d:=ch) (l:=Tb.map fun x=>((x:Nat):Int)) (by rw [←hi64];exact slq.rd) (by rw [←hi64];exact ((slh.fr0 g27).fr0 g28).fr0 g29 |>.rd) (by rw [List.length_map];omega)
 rw [List.length_map] at e2
 refine Ret.use e2 ?_
 rintro _ w30 ⟨rfl,g30⟩
 have D30:=D29.fr0 g30
 obtain⟨p30,c30',d30,_,_⟩:=D30.desk.st
 simp only [sb_,Nat.reduceAdd]
 simp only [BIf_true]
 refine BIf_eq (fun _=>⟨by trivial,f1.trans D30.fr⟩) (fun hne=>?_)
 try simp only [d30.ld_iff,sb_,Nat.reduceAdd]
 refine Ret.use (f12k D30.sys D30.inv.rl) ?_
 rintro _ w31 ⟨pz,cz,rfl,slz,g31⟩
 have hln:S8.roots.length=S.roots.length:=by rw [←keysOf_len,hK,keysOf_len]
 simp only [sb_,Nat.reduceAdd]
 have hz:=slz.rd
 rw [hK] at hz
 refine hz.ld (i:=0) (v:=.int .u64 (a:Int)) (by rw [List.getElem?_map,hra (by omega)];rfl) fun b o _ hc=>⟨by omega,by omega,?_⟩
 exact⟨_,hc,AsI_int.2 ⟨by simp,f1.trans (D30.fr0 g31).fr⟩⟩
end Go.Proofs.YtmgjicnipgdjhaaGreatDoor
namespace Go.Sh
open Go.ChangeShapes Go.WideShapes Go.ChangeAt Go.WideElems Go.RowKit
section
variable {H:Type} {enc:TypeId×Value→H} {P:Program}
theorem Fr0.below {w w':World} (h:Fr0 w w'):Below w.heap.size w w':=⟨h.os,h.tape,h.output,h.size,fun b hb=>h.block b hb fun h=>h⟩
theorem trodAll_stays (hl:laidOutB P=true) {W W':World} (hb:Below W.heap.size W W'):∀{ts:List TypeId} {vs:List Value} {ds:List (DataW H)} {ps:List MemPlace},(∀t∈ts,P.readableRec t=true∧t<P.types.size) →
  DataW.TrodAll enc P W 0 (fun _=>true) true ts vs ds ps→(∀x∈ps,x.block<W.heap.size)→DataW.TrodAll enc P W' 0 (fun b=>decide (b<W.heap.size)) true ts vs ds ps
 | [],vs,ds,ps,_,h,_=>by
  obtain⟨rfl,rfl,rfl⟩:=trodAll_nil h
  exact trodAll_mk0
 | t :: ts,vs,ds,ps,hr,h,hlt=>by
  obtain⟨v0,vs0,d0,ds0,p0,q0,rfl,rfl,rfl,h0,r0⟩:=trodAll_cons h
  refine trodAll_cons_mk (Below.trod hl (hr t (by simp)).1 (hr t (by simp)).2 h0 hb fun x hx=>hlt x (by simp [hx])) ?_
  exact trodAll_stays hl hb (fun t ht=>hr t (by simp [ht])) r0 fun x hx=>hlt x (by simp [hx])
theorem post_law {s:ChangeSpec} {f:Func} {W W':World} {args:Array Value} {ds:List (DataW H)} {before:List MemPlace} {t:TypeId} (hv:s.vars=[]) (hfn:s.fn H ds={ results:=[.lit (.bool true)],args:=ds }) (hrt:f.resultTypes=#[t]) (ht:P.underlying t=some .bool)
  (hl:laidOutB P=true) (hr:∀t∈f.params.toList,P.readableRec t=true∧t<P.types.size) (hW:DataW.Whole enc P f.params.toList s.vars false W args.toList ds [] before) (hf:Fr0 W W') :
  s.post enc P f false true false false W args (.bool true) W':=by
 have hlt:=hW.lt
 have hW2:=hW
 obtain⟨p,q,hA,hV,rfl,_,_⟩:=hW2
 rw [hv] at hV
 obtain⟨_,rfl⟩:=trodVars_none hV
 have hds:s.fn H (ds++[])={ results:=[.lit (.bool true)],args:=ds }:=by rw [List.append_nil];exact hfn
 refine⟨ds,[],p++[],[],p,[],hW,?_,?_,?_,World.keptBut_mono (fun x hx=>hx.elim) (hf.below.frame fun _=>False),fun h=>by cases h⟩
 ·rw [hds,hrt]
  exact trodAll_mk1 (shut_bool ht _)
 ·rw [hds]
  exact trodAll_stays hl hf.below hr hA fun x hx=>hlt x (by simp [hx])
 ·rw [hds,hv];rfl
end
end Go.Sh
