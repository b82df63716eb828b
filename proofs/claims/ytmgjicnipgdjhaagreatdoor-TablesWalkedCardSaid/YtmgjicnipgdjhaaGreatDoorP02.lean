import Derived.Test.YtmgjicnipgdjhaaGreatDoorP01
import Derived.Deep.OwnRows
import Derived.Laws.MakeOwn
import Derived.Laws.OwnMore
import Derived.Laws.StructEq
import Derived.ChangeKeysEq
import Derived.Maps.RangeRun
set_option linter.unusedVariables false
set_option linter.unusedSimpArgs false
namespace Go.Proofs.YtmgjicnipgdjhaaGreatDoor
open Go Go.Sh Go.Fr
open Go.IntKind (i64 u64 u32)
structure Pool where
 first:Nat
 u:List Nat
def Pool.free (p:Pool):Nat:=p.u.countP (·=0)
structure Pool.Ok (p:Pool):Prop where
 le:p.first+p.u.length≤268435456
 n:p.u.length≤1048576
 u:∀x∈p.u,x≤255
def y_b (p:Pool) (bu bd:Nat):List Value :=
 [.int .i64 p.first,.int .i64 p.u.length,.slice (some ⟨bu,0,none⟩) p.u.length p.u.length,.slice (some ⟨bd,0,none⟩) ((p.u.length+63)/64) ((p.u.length+63)/64),.int .i64 p.free]
def u8s (u:List Nat):List Value:=u.map fun n=>Value.int .u8 (n:Nat)
def e_j (u:List Nat):List Value:=u.map fun n=>Value.int .u64 (n:Nat)
structure PoolAt (w:World) (b bu bd:Nat) (p:Pool):Prop where
 st:Has w b (y_b p bu bd)
 us:Has w bu (u8s p.u)
 ws:∃ws,Bits p.u ws∧Has w bd (e_j ws)
 ne:b≠bu∧b≠bd∧bu≠bd
 ok:p.Ok
theorem PoolAt.qt {w w':World} {b bu bd:Nat} {p:Pool} (h:PoolAt w b bu bd p) (q:Qt w w'):PoolAt w' b bu bd p :=
 ⟨h.st.qt q,h.us.qt q,let ⟨ws,h1,h2⟩:=h.ws;⟨ws,h1,h2.qt q⟩,h.ne,h.ok⟩
theorem PoolAt.fr {S:Nat→Prop} {w w':World} {b bu bd:Nat} {p:Pool} (h:PoolAt w b bu bd p) (q:Fr S w w') (h1:¬S b) (h2:¬S bu) (h3:¬S bd):PoolAt w' b bu bd p :=
 ⟨h.st.fr q h1,h.us.fr q h2,let ⟨ws,h1,h2⟩:=h.ws;⟨ws,h1,h2.fr q h3⟩,h.ne,h.ok⟩
structure Tz (w:World):Prop where
 size:3<w.heap.size
 cell:∀k,k<64→w.cell? ⟨3,k,none⟩=some (.int .u8 (Lib.deBruijn64tab.getD k 0:Nat))
theorem Tz.of_block {w w':World} (h:Tz w) (h0:w'.heap[3]?=w.heap[3]?):Tz w':=by
 have hs:3<w'.heap.size:=by
  rcases Nat.lt_or_ge 3 w'.heap.size with h1|h1
  ·exact h1
  ·rw [Array.getElem?_eq_none (by omega),Array.getElem?_eq_getElem h.size] at h0;cases h0
 exact⟨hs,fun k hk=>by rw [←h.cell k hk];simp [World.cell?,h0]⟩
theorem Tz.qt {w w':World} (h:Tz w) (q:Qt w w'):Tz w':=h.of_block (by rw [q.heap])
theorem Tz.fr {S:Nat→Prop} {w w':World} (h:Tz w) (q:Fr S w w') (h0:¬S 3):Tz w':=h.of_block (q.block 3 h.size h0)
theorem t_f {ws:List Nat} {k:Nat} (h:k<ws.length):(e_j ws)[k]?=some (.int .u64 (ws[k]:Nat)):=by simp [e_j,h]
theorem Q_h {ws:List Nat} {k:Nat} (h:k<ws.length):(u8s ws)[k]?=some (.int .u8 (ws[k]:Nat)):=by simp [u8s,h]
theorem tz_num (x:Nat) (h0:x≠0) (h:x<2^64) :
  W_ u64 (u64.wrap (Q_ u64 (x:Int) (u64.wrap ((0:Int)-(x:Int)))*(285870213051353865:Int))) (58:Int)=((2^Lib.ctz 64 x*285870213051353865%18446744073709551616/288230376151711744:Nat):Int):=by
 have h1:u64.wrap ((0:Int)-(x:Int))=((2^64-x:Nat):Int):=by
  rw [IntKind.wrap_u64];omega
 obtain⟨h2,h3⟩:=Lib.lowest_bit 64 x h0 h;rw [h1,b_e h (by omega),h2];have h4:u64.wrap (((2^Lib.ctz 64 x:Nat):Int)*(285870213051353865:Int))=((2^Lib.ctz 64 x*285870213051353865%18446744073709551616:Nat):Int):=by
  generalize 2^Lib.ctz 64 x=y;rw [IntKind.wrap_u64];omega
 rw [h4,show (58:Int)=((58:Nat):Int) from rfl,J_a (by decide),Nat.shiftRight_eq_div_pow]
theorem f160 {w:World} (hT:Tz w) (x:Nat) (h:x<2^64):Ret prog 160 #[.int .u64 (x:Int)] w fun v w'=>v=.int .i64 (Lib.ctz 64 x:Nat)∧Qt w w':=by
 refine F160_of ?_;unfold F160;by_cases h0:x=0
 ·subst h0;exact⟨by simp [Lib.ctz],Qt.refl w⟩
 ·have hne:((x:Int)==(0:Int))=false:=by simpa using h0
  rw [hne,E_,tz_num x h0 h];obtain⟨_,hk⟩:=Lib.lowest_bit 64 x h0 h;obtain⟨h1,h2⟩:=Lib.deBruijn64_at _ hk;generalize 2^Lib.ctz 64 x*285870213051353865%18446744073709551616/288230376151711744=i at *;refine⟨by omega,by omega,?_⟩;rw [H_,Int.toNat_natCast,Nat.mul_one,Nat.zero_add];refine⟨_,hT.cell i h1,?_⟩;simp only [h2,AsI_int];rw [w64 (by omega) (by omega)];exact⟨rfl,Qt.refl w⟩
theorem f93 {w:World} {b bu bd:Nat} {p:Pool} (hP:PoolAt w b bu bd p) (hT:Tz w) (i:Nat) (hi:i≤2^40) (busy:Bool) :
  Ret prog 93 #[.pointer (some ⟨b,0,none⟩),.int .i64 (i:Int),.bool busy] w fun v w'=>v=.int .i64 (next p.u busy i:Nat)∧Qt w w':=by
 have hn:=hP.ok.n;refine F93_of ?_;unfold F93;try dsimp only [Uii,ce_,li_,ls_,ui_]
 refine Loop.by (fun s w'=>∃k:Nat,s=[.int .i64 0,.int .i64 (k:Int)]∧k≤2^41∧next p.u busy k=next p.u busy i∧Qt w w')
  (fun s _=>match s with | [_,.int _ k]=>p.u.length-k.toNat|_=>0) ⟨i,rfl,by omega,rfl,Qt.refl w⟩ ?_
 rintro _ w1 ⟨k,rfl,hk,hnx,hq⟩;have hP1:=hP.qt hq;simp only [UnC_cons,UnN_nil,AsI_int,H_,Nat.zero_add];refine hP1.st.ld rfl ?_;simp only [AsI_int];by_cases hlt:k<p.u.length
 ·have hd:decide ((k:Int)<(p.u.length:Int))=true:=by simpa using hlt
  rw [hd,K_];refine hP1.st.ld rfl ?_;simp only [AsSl_slice,G_];obtain⟨ws,hb,hws⟩:=hP1.ws;have hkw:k/64<ws.length:=by rw [hb.len];omega
  have e1:i64.wrap ((k:Int).tdiv 64)=((k/64:Nat):Int):=by rw [IntWalk.i64_quo _ _ ⟨by omega,by omega,by omega⟩];omega
  have e2:(k:Int).tmod 64=((k%64:Nat):Int):=by rw [IntWalk.rem_in _ _ (by omega)];omega
  rw [e1,e2];refine⟨by omega,by have:=hb.len;omega,?_⟩;simp only [Int.toNat_natCast,Nat.mul_one,H_,Nat.zero_add];refine hws.ld (t_f hkw) ?_;simp only [AsI_int];have hwl:=hb.lt _ hkw;refine Join.at (fun s w'=>s=[.int .u64 ((if busy then ws[k/64] else 2^64-1-ws[k/64]:Nat):Int)]∧w'=w1) ?_ ?_
  ·cases busy with
   | true=>refine⟨?_,?_⟩<;>simp
   | false=>rw [Bool.not_false,K_,notI_u64 hwl];refine⟨?_,?_⟩<;>simp
  ·rintro _ _ ⟨rfl,rfl⟩;simp only [UnC_cons,UnN_nil,AsI_int];obtain⟨hWl,hz,hnz⟩:=J_k hb hlt hkw _ rfl (busy:=busy);generalize (if busy=true then ws[k/64] else 2^64-1-ws[k/64])=W at *;refine NN.mk (by omega) ?_;rw [J_a (by show k%64≤64;omega)];have hsl:W >>> (k%64)<2^64:=Nat.lt_of_le_of_lt (Nat.shiftRight_le _ _) hWl;by_cases h0:W >>> (k%64)=0
   ·have hz':=hz h0;have hd2:(((W >>> (k%64):Nat):Int) != (0:Int))=false:=by rw [h0];rfl
    rw [hd2,E_];have e3:i64.wrap (i64.wrap (((k/64:Nat):Int)+1)*64)=(((k/64+1)*64:Nat):Int):=by
     rw [w64 (n:=((k/64:Nat):Int)+1) (by omega) (by omega),w64 (by omega) (by omega)];omega
    rw [e3];refine⟨⟨_,rfl,by omega,by rw [←hz'];exact hnx,hq⟩,?_⟩;simp only [Int.toNat_natCast];omega
   ·obtain⟨h1,h2⟩:=hnz h0;have hd2:(((W >>> (k%64):Nat):Int) != (0:Int))=true:=bne_iff_ne.2 (by omega);rw [hd2,K_];refine hP1.st.drew.ld rfl ?_;simp only [AsI_int];refine Ret.use (f160 ((hT.qt hq).qt (Qt.refl _).drew) _ hsl) ?_;rintro v w2 ⟨rfl,hq2⟩;simp only [AsI_int];refine⟨?_,?_,hq.trans hq2.of_drew⟩
    ·rw [(hP1.st.qt hq2.of_drew).cell];rfl
    ·rw [←hnx,h1,w64 (by omega) (by omega)]
     congr 1
     generalize Lib.ctz 64 (W >>> (k%64))=c at *;rw [Nat.min_def];split<;>split<;>omega
 ·have hd:decide ((k:Int)<(p.u.length:Int))=false:=by simpa using hlt
  rw [hd,E_];refine hP1.st.ld rfl ?_;simp only [AsI_int];exact⟨by rw [←hnx,X_e (by omega)],hq⟩
end Go.Proofs.YtmgjicnipgdjhaaGreatDoor
namespace Go.Fr
theorem H_h (u:List Nat) (i n:Nat) (h:i<u.length) :
  (u.set i n).countP (·=0)+(if u[i]=0 then 1 else 0)=u.countP (·=0)+(if n=0 then 1 else 0):=by
 induction u generalizing i with
 | nil=>simp at h
 | cons x r ih =>
  cases i with
  | zero=>simp only [List.set_cons_zero,List.countP_cons,List.getElem_cons_zero,decide_eq_true_eq];omega
  | succ i =>
   have:=ih i (by simpa using h);simp only [List.set_cons_succ,List.countP_cons,List.getElem_cons_succ,decide_eq_true_eq] at *;omega
theorem Y_e (u:List Nat) (i n j:Nat) (h:i<u.length):(u.set i n).getD j 0=if i=j then n else u.getD j 0:=by
 simp only [List.getD,List.getElem?_set];by_cases e:i=j
 ·subst e;simp [h]
 ·simp [e]
theorem Bits.same {u v ws:List Nat} (hb:Bits u ws) (hl:v.length=u.length) (h:∀j,decide (0<v.getD j 0)=decide (0<u.getD j 0)):Bits v ws :=
 ⟨by rw [hb.len,hl],hb.lt,fun k j hk hj=>by rw [hb.bit k j hk hj,h]⟩
theorem A_c (s j:Nat):(1 <<< s).testBit j=decide (s=j):=by
 rw [Nat.shiftLeft_eq,Nat.one_mul,Nat.testBit_two_pow]
theorem Y_c {s:Nat} (h:s<64):1 <<< s<2^64:=by
 rw [Nat.shiftLeft_eq,Nat.one_mul];exact Nat.pow_lt_pow_right (by decide) h
theorem Bits.setPos {u ws:List Nat} (hb:Bits u ws) {i n:Nat} (hi:i<u.length) (hk:i/64<ws.length) (hn:0<n) :
  Bits (u.set i n) (ws.set (i/64) (ws[i/64] ||| 1 <<< (i%64))):=by
 refine⟨by simp [hb.len],fun k h=>?_,fun k j h hj=>?_⟩
 ·rw [List.getElem_set];have h0:=hb.lt k (by simpa using h);split
  ·exact Nat.or_lt_two_pow (hb.lt _ hk) (Y_c (by omega))
  ·exact h0
 ·rw [List.getElem_set,Y_e _ _ _ _ hi];have hk':k<ws.length:=by simpa using h
  have h0:=hb.bit k j hk' hj;split
  ·rename_i e;subst e;rw [Nat.testBit_or,h0,A_c];by_cases e2:i%64=j
   ·rw [if_pos (by omega)];simp [e2,hn]
   ·rw [if_neg (by omega)];simp [e2]
  ·rename_i e;rw [h0,if_neg (by omega)]
theorem Bits.setZero {u ws:List Nat} (hb:Bits u ws) {i:Nat} (hi:i<u.length) (hk:i/64<ws.length) :
  Bits (u.set i 0) (ws.set (i/64) (ws[i/64] &&& (2^64-1-1 <<< (i%64)))):=by
 have hs:1 <<< (i%64)<2^64:=Y_c (by omega);refine⟨by simp [hb.len],fun k h=>?_,fun k j h hj=>?_⟩
 ·rw [List.getElem_set];have h0:=hb.lt k (by simpa using h);split
  ·exact Nat.lt_of_le_of_lt Nat.and_le_left (hb.lt _ hk)
  ·exact h0
 ·rw [List.getElem_set,Y_e _ _ _ _ hi];have hk':k<ws.length:=by simpa using h
  have h0:=hb.bit k j hk' hj;split
  ·rename_i e;subst e;rw [Nat.testBit_and,h0,show 2^64-1-1 <<< (i%64)=2^64-(1 <<< (i%64)+1) from by omega,Nat.testBit_two_pow_sub_succ hs,A_c];by_cases e2:i%64=j
   ·rw [if_pos (by omega)];simp [e2]
   ·rw [if_neg (by omega)];simp [e2,hj]
  ·rename_i e;rw [h0,if_neg (by omega)]
end Go.Fr
namespace Go.Proofs.YtmgjicnipgdjhaaGreatDoor
open Go Go.Sh Go.Fr
open Go.IntKind (i64 u64 u32)
def Own (b bu bd:Nat) (x:Nat):Prop:=x=b∨x=bu∨x=bd
def Y_h (first n:Nat) (bu bd:Nat) (free:Nat):List Value :=
 [.int .i64 first,.int .i64 n,.slice (some ⟨bu,0,none⟩) n n,.slice (some ⟨bd,0,none⟩) ((n+63)/64) ((n+63)/64),.int .i64 free]
structure Mid (w0 w:World) (b bu bd:Nat) (p:Pool) (u:List Nat) (free:Nat):Prop where
 st:Has w b (Y_h p.first p.u.length bu bd free)
 us:Has w bu (u8s p.u)
 ws:∃ws,Bits u ws∧Has w bd (e_j ws)
 fr:Fr (Own b bu bd) w0 w
theorem v_h {ws:List Nat} {k x:Nat}:(e_j ws).set k (.int .u64 (x:Nat))=e_j (ws.set k x):=by simp [e_j,List.map_set]
theorem u8s_set {ws:List Nat} {k x:Nat}:(u8s ws).set k (.int .u8 (x:Nat))=u8s (ws.set k x):=by simp [u8s,List.map_set]
theorem w_h {ws:List Nat}:(e_j ws).length=ws.length:=by simp [e_j]
theorem u8s_len {ws:List Nat}:(u8s ws).length=ws.length:=by simp [u8s]
theorem f94 {w:World} {b bu bd:Nat} {p:Pool} (hP:PoolAt w b bu bd p) (i n:Nat) (hi:i<p.u.length) (hn:n≤255) :
  Ret prog 94 #[.pointer (some ⟨b,0,none⟩),.int .i64 (i:Int),.int .u8 (n:Int)] w fun v w'=>v=.tuple #[]∧PoolAt w' b bu bd ⟨p.first,p.u.set i n⟩∧Fr (Own b bu bd) w w':=by
 have hN:=hP.ok.n;obtain⟨ne1,ne2,ne3⟩:=hP.ne;have e1:i64.wrap ((i:Int).tdiv 64)=((i/64:Nat):Int):=by rw [IntWalk.i64_quo _ _ ⟨by omega,by omega,by omega⟩];omega
 have e2:(i:Int).tmod 64=((i%64:Nat):Int):=by rw [IntWalk.rem_in _ _ (by omega)];omega
 have hsh:l_ .u64 (1:Int) ((i%64:Nat):Int)=((1 <<< (i%64):Nat):Int):=B_d (a:=1) (by omega) (Y_c (by omega));have hsl:1 <<< (i%64)<2^64:=Y_c (by omega);have hc:=H_h p.u i n hi;have hle:p.u.countP (·=0)≤p.u.length:=List.countP_le_length;have hle2:(p.u.set i n).countP (·=0)≤p.u.length:=by have:=List.countP_le_length (l:=p.u.set i n) (p:=fun x=>decide (x=0));simpa using this
 refine F94_of ?_;unfold F94;try dsimp only [li_,ls_]
 simp only [H_,Nat.zero_add,e1,e2,hsh];have h0:Mid w w b bu bd p p.u p.free:=⟨hP.st,hP.us,hP.ws,Fr.refl _ _⟩;refine Join.at (fun s w'=>s=[]∧Mid w w' b bu bd p (if p.u[i]=0∧0<n then p.u.set i n else p.u) (if p.u[i]=0∧0<n then p.free-1 else p.free)) ?_ ?_
 ·refine hP.st.ld rfl ?_;simp only [AsSl_slice,G_];refine⟨by omega,by omega,?_⟩;simp only [H_,Int.toNat_natCast,Nat.mul_one,Nat.zero_add];refine hP.us.ld (Q_h hi) ?_;simp only [AsI_int];by_cases hz:p.u[i]=0
  ·have hb1:(((p.u[i]:Nat):Int)==(0:Int))=true:=beq_iff_eq.2 (by omega);rw [hb1,K_];by_cases hn0:0<n
   ·rw [if_pos ⟨hz,hn0⟩,if_pos ⟨hz,hn0⟩,decide_eq_true (show (n:Int)>0 by omega),K_];refine hP.st.ld rfl ?_;simp only [AsI_int];have hfree:1≤p.free:=by unfold Pool.free;rw [if_pos hz,if_neg (by omega)] at hc;omega
    have e3:i64.wrap ((p.free:Int)-1)=((p.free-1:Nat):Int):=by rw [w64 (by unfold Pool.free;omega) (by unfold Pool.free;omega)];omega
    rw [e3];refine hP.st.st (by simp [y_b]) rfl fun w1 hw1 hf1 _=>?_;obtain⟨ws,hb,hws⟩:=hP.ws;have hkw:i/64<ws.length:=by rw [hb.len];omega
    have hws1:=hws.fr hf1 (Ne.symm ne2);have hus1:=hP.us.fr hf1 (Ne.symm ne1);refine hw1.drew.ld rfl ?_;simp only [AsSl_slice,G_];refine⟨by omega,by have:=hb.len;omega,?_⟩;simp only [H_,Int.toNat_natCast,Nat.mul_one,Nat.zero_add];refine hws1.drew.ld (t_f hkw) ?_;simp only [AsI_int];refine NN.mk (by omega) ?_;refine⟨by omega,by have:=hb.len;omega,?_⟩;rw [d_h (hb.lt _ hkw) hsl];refine hws1.drew.st (by rw [w_h];exact hkw) rfl fun w2 hw2 hf2 _=>?_;rw [v_h] at hw2;have hf2':=hf2.of_drew;exact⟨by trivial,hw1.fr hf2' ne2,hus1.fr hf2' ne3,⟨_,hb.setPos hi hkw hn0,hw2⟩,
     (hf1.mono fun _ _ h=>.inl h).trans (hf2'.mono fun _ _ h=>.inr (.inr h))⟩
   ·rw [if_neg (by omega),if_neg (by omega),decide_eq_false (show ¬(n:Int)>0 by omega),E_];exact⟨by trivial,h0⟩
  ·have hb1:(((p.u[i]:Nat):Int)==(0:Int))=false:=beq_eq_false_iff_ne.2 (by omega);rw [hb1,E_,if_neg (by omega),if_neg (by omega)];exact⟨by trivial,h0⟩
 ·rintro _ w1 ⟨rfl,m1⟩;simp only [UnN_nil];refine Join.at (fun s w'=>s=[]∧Mid w w' b bu bd p (p.u.set i n) ((p.u.set i n).countP (·=0))) ?_ ?_
  ·refine m1.st.ld rfl ?_;simp only [AsSl_slice,G_];refine⟨by omega,by omega,?_⟩;simp only [H_,Int.toNat_natCast,Nat.mul_one,Nat.zero_add];refine m1.us.ld (Q_h hi) ?_;simp only [AsI_int];by_cases hz:p.u[i]=0
   ·rw [decide_eq_false (show ¬((p.u[i]:Nat):Int)>0 by omega),E_];rw [if_pos hz] at hc;by_cases hn0:0<n
    ·rw [if_neg (by omega)] at hc;rw [if_pos ⟨hz,hn0⟩,if_pos ⟨hz,hn0⟩] at m1;have:(p.u.set i n).countP (·=0)=p.free-1:=by unfold Pool.free;omega
     rw [this];exact⟨by trivial,m1⟩
    ·rw [if_pos (by omega)] at hc;rw [if_neg (by omega),if_neg (by omega)] at m1;have h1:(p.u.set i n).countP (·=0)=p.free:=by unfold Pool.free;omega
     have h2:p.u.set i n=p.u:=by
      have:n=p.u[i]:=by omega
      rw [this];exact List.set_getElem_self hi
     rw [h1,h2];exact⟨by trivial,m1⟩
   ·rw [decide_eq_true (show ((p.u[i]:Nat):Int)>0 by omega),K_];rw [if_neg hz] at hc;rw [if_neg (by omega),if_neg (by omega)] at m1;by_cases hn0:n=0
    ·rw [if_pos hn0] at hc;have hb1:((n:Int)==(0:Int))=true:=beq_iff_eq.2 (by omega);rw [hb1,K_];refine m1.st.ld rfl ?_;simp only [AsI_int];have e3:i64.wrap ((p.free:Int)+1)=(((p.u.set i n).countP (·=0):Nat):Int):=by
      rw [w64 (by unfold Pool.free;omega) (by unfold Pool.free;omega)];unfold Pool.free;omega
     rw [e3];refine m1.st.st (by simp [Y_h]) rfl fun w2 hw1 hf1 _=>?_;obtain⟨ws,hb,hws⟩:=m1.ws;have hkw:i/64<ws.length:=by rw [hb.len];omega
     have hws1:=hws.fr hf1 (Ne.symm ne2);have hus1:=m1.us.fr hf1 (Ne.symm ne1);refine hw1.drew.ld rfl ?_;simp only [AsSl_slice,G_];refine⟨by omega,by have:=hb.len;omega,?_⟩;simp only [H_,Int.toNat_natCast,Nat.mul_one,Nat.zero_add];refine hws1.drew.ld (t_f hkw) ?_;simp only [AsI_int];refine NN.mk (by omega) ?_;refine⟨by omega,by have:=hb.len;omega,?_⟩;rw [K_f (hb.lt _ hkw) hsl];refine hws1.drew.st (by rw [w_h];exact hkw) rfl fun w3 hw2 hf2 _=>?_;rw [v_h] at hw2;have hf2':=hf2.of_drew;subst hn0;exact⟨by trivial,hw1.fr hf2' ne2,hus1.fr hf2' ne3,⟨_,hb.setZero hi hkw,hw2⟩,
      m1.fr.trans ((hf1.mono fun _ _ h=>.inl h).trans (hf2'.mono fun _ _ h=>.inr (.inr h)))⟩
    ·rw [if_neg hn0] at hc;have hb1:((n:Int)==(0:Int))=false:=beq_eq_false_iff_ne.2 (by omega);rw [hb1,E_];have h1:(p.u.set i n).countP (·=0)=p.free:=by unfold Pool.free;omega
     rw [h1];obtain⟨ws,hb,hws⟩:=m1.ws;refine⟨by trivial,m1.st,m1.us,⟨ws,hb.same (by simp) fun j=>?_,hws⟩,m1.fr⟩;rw [Y_e _ _ _ _ hi];split
     ·rename_i e;subst e;rw [r_ hi];simp;omega
     ·rfl
  ·rintro _ w2 ⟨rfl,m2⟩;simp only [UnN_nil];refine m2.st.ld rfl ?_;simp only [AsSl_slice,G_];refine⟨by omega,by omega,?_⟩;simp only [H_,Int.toNat_natCast,Nat.mul_one,Nat.zero_add];refine m2.us.st (by rw [u8s_len];exact hi) rfl fun w3 hw3 hf3 _=>?_;rw [u8s_set] at hw3;obtain⟨ws,hb,hws⟩:=m2.ws;refine⟨by trivial,⟨?_,hw3,⟨ws,hb,hws.fr hf3 (Ne.symm ne3)⟩,hP.ne,⟨by simpa using hP.ok.le,by simpa using hP.ok.n,fun x hx=>?_⟩⟩,m2.fr.trans (hf3.mono fun _ _ h=>.inr (.inl h))⟩
   ·have:=m2.st.fr hf3 ne1;simpa [Y_h,y_b,Pool.free] using this
   ·rcases List.mem_or_eq_of_mem_set hx with h|h
    ·exact hP.ok.u x h
    ·omega
end Go.Proofs.YtmgjicnipgdjhaaGreatDoor
namespace Go.Proofs.YtmgjicnipgdjhaaGreatDoor
open Go Go.Sh
def isOne (v:Value):Bool:=match v with | .int .i64 x=>decide (x=1)|_=>false
def w_i (x:Nat):Bool:=[1,2,4,8,16,32,64,128,256,512,1024,2048,4096].contains x
set_option maxRecDepth 100000 in
theorem f159_all (w:World):∀x:Nat,x<4097→F159 (x:Int) w fun v _=>isOne v=w_i x:=by
 unfold F159;dsimp only;clear w;decide +kernel
end Go.Proofs.YtmgjicnipgdjhaaGreatDoor
namespace Go.Proofs.YtmgjicnipgdjhaaGreatDoor
open Go Go.Sh Go.Fr
theorem f92 {w:World} (a:Nat) (h:a<4097):Ret prog 92 #[.int .u64 (a:Int)] w fun v w'=>(∃c:Int,v=.int .i64 c∧(c != 1)=!w_i a)∧w'=w:=by
 have h68:Ret prog 159 #[.int .u64 (a:Int)] w fun v w'=>(∃c:Int,v=.int .i64 c∧(c != 1)=!w_i a)∧w'=w:=by
  refine F159_of ?_;have:=f159_all w a h;unfold F159 at this ⊢;dsimp only [isOne] at this;refine⟨⟨_,rfl,?_⟩,rfl⟩;rw [←this];rw [bne,Bool.not_inj_iff];rw [Bool.eq_iff_iff];simp
 refine F92_of ?_;unfold F92;refine Ret.use h68 ?_;rintro v w' ⟨⟨c,rfl,hc⟩,rfl⟩;simp only [AsI_int];exact⟨⟨c,rfl,hc⟩,by trivial⟩
theorem f20 {w:World} {b bu bd:Nat} {p:Pool} (hP:PoolAt w b bu bd p) :
  Ret prog 20 #[.pointer (some ⟨b,0,none⟩)] w fun v w'=>v=.int .i64 (p.free:Nat)∧w'=w:=by
 refine F20_of ?_;unfold F20;try dsimp only [li_]
 simp only [H_,Nat.zero_add];refine hP.st.ld rfl ?_;simp only [AsI_int];exact⟨by trivial,by trivial⟩
theorem f21 {w:World} {b bu bd:Nat} {p:Pool} (hP:PoolAt w b bu bd p) :
  Ret prog 21 #[.pointer (some ⟨b,0,none⟩)] w fun v w'=>v=.agg #[.int .i64 p.first,.int .i64 p.u.length]∧Fr (fun _=>False) w w':=by
 refine F21_of ?_;unfold F21;try dsimp only [li_]
 simp only [H_,Nat.zero_add];refine New.mk fun w1 hn hf hs=>?_;have hst:=hP.st.fr hf (fun h=>h);refine hst.drew.ld rfl ?_;simp only [AsI_int];refine hst.drew.ld rfl ?_;simp only [AsI_int];refine hn.drew.st (by simp) rfl fun w2 hn2 hf2 _=>?_;simp only [H_,Nat.zero_add];refine hn2.st (by simp) rfl fun w3 hn3 hf3 _=>?_;refine hn3.ld rfl ?_;simp only [AsI_int];refine hn3.ld rfl ?_;simp only [AsI_int];refine⟨by trivial,?_⟩;have h2:Fr (fun x=>x=w.heap.size) w w3:=((hf.mono fun _ _ h=>h.elim).trans hf2.of_drew).trans hf3;exact h2.mono fun x hx h=>by omega
def Pool.run (p:Pool) (first n:Int):Nat×Nat :=
 if n<1 then (0,41) else if first<p.first∨first≥p.first+p.u.length∨n>p.first+p.u.length-first then (0,40)
 else if (next p.u false (first-p.first).toNat:Int)<first-p.first+n then (0,43) else ((first-p.first).toNat,0)
theorem f95 {w:World} {b bu bd:Nat} {p:Pool} (hP:PoolAt w b bu bd p) (hT:Tz w) (first n:Int) (hf:-9223372036854775808≤first∧first≤9223372036854775807) (hn:n≤9223372036854775807) :
  Ret prog 95 #[.pointer (some ⟨b,0,none⟩),.int .i64 first,.int .i64 n] w fun v w'=>v=.tuple #[.int .i64 ((p.run first n).1:Nat),.int .i64 ((p.run first n).2:Nat)]∧Qt w w':=by
 have hN:=hP.ok.n;have hL:=hP.ok.le;refine F95_of ?_;unfold F95;try dsimp only [li_]
 simp only [H_,Nat.zero_add];by_cases h0:n<1
 ·rw [decide_eq_true h0,K_];exact⟨by simp [Pool.run,h0],Qt.refl w⟩
 rw [decide_eq_false h0,E_];refine hP.st.drew.ld rfl ?_;simp only [AsI_int];by_cases h1:first<p.first
 ·rw [decide_eq_true h1,K_];exact⟨by simp [Pool.run,h0,h1],(Qt.refl w).drew⟩
 rw [decide_eq_false h1,E_];refine hP.st.drew.ld rfl ?_;simp only [AsI_int];refine hP.st.drew.ld rfl ?_;simp only [AsI_int];rw [w64 (n:=(p.first:Int)+(p.u.length:Int)) (by omega) (by omega)];by_cases h2:first≥(p.first:Int)+p.u.length
 ·rw [decide_eq_true h2,K_];exact⟨by simp [Pool.run,h0,h2],(Qt.refl w).drew⟩
 rw [decide_eq_false h2,E_];refine hP.st.drew.ld rfl ?_;simp only [AsI_int];refine hP.st.drew.ld rfl ?_;simp only [AsI_int];rw [w64 (n:=(p.first:Int)+(p.u.length:Int)) (by omega) (by omega),w64 (n:=(p.first:Int)+(p.u.length:Int)-first) (by omega) (by omega)];by_cases h3:n>(p.first:Int)+p.u.length-first
 ·rw [decide_eq_true h3,K_];exact⟨by simp [Pool.run,h0,h3],(Qt.refl w).drew⟩
 rw [decide_eq_false h3,E_];refine hP.st.drew.ld rfl ?_;simp only [AsI_int];obtain⟨k,hk⟩:∃k:Nat,first-(p.first:Int)=k:=⟨(first-p.first).toNat,by omega⟩
 rw [w64 (n:=first-(p.first:Int)) (by omega) (by omega),hk,w64 (n:=(k:Int)+n) (by omega) (by omega)];refine Ret.use (f93 (hP.qt (Qt.refl w).drew) (hT.qt (Qt.refl w).drew) k (by omega) false) ?_;rintro v w1 ⟨rfl,hq⟩;simp only [AsI_int];have hr:p.run first n=if (next p.u false k:Int)<(k:Int)+n then (0,43) else (k,0):=by
  simp only [Pool.run,if_neg h0,if_neg (show ¬(first<p.first∨first≥p.first+p.u.length∨n>p.first+p.u.length-first) by omega),hk,Int.toNat_natCast]
 by_cases h4:(next p.u false k:Int)<(k:Int)+n
 ·rw [decide_eq_true h4,K_,hr,if_pos h4];exact⟨rfl,hq.of_drew⟩
 ·rw [decide_eq_false h4,E_,hr,if_neg h4];exact⟨rfl,hq.of_drew⟩
end Go.Proofs.YtmgjicnipgdjhaaGreatDoor
namespace Go.Sh
theorem Has.made (w:World) (cells:Array Value) (t:TypeId):Has (w.alloc (.cells cells t)) w.heap.size cells.toList:=⟨t,by show (w.heap.push _)[w.heap.size]?=_;simp⟩
theorem Fr.made (w:World) (o:Obj):Fr (fun _=>False) w (w.alloc o):=⟨rfl,rfl,rfl,by simp,fun b hb _=>by show (w.heap.push _)[b]?=_;rw [Array.getElem?_push,if_neg (by omega)]⟩
theorem L_d (z:Value) (n:Nat):(madeCells #[z] n).toList=List.replicate n z:=by
 unfold madeCells
 apply List.ext_getElem (by simp)
 intro j h1 h2;simp [Nat.mod_one]
theorem RunV.make {P:Program} (t e:TypeId) (z:Value) (bytes n:Nat) {w:World} {K:Value→World→Prop} (ht:P.underlying t=some (.slice e)) (hi:(P.info? e).map (fun i=>(i.zero,i.size,i.bytes))=some (some z,1,bytes)) (hz:z.cells=#[z])
  (hb:bytes*n≤281474976710656) (hn:n≤9223372036854775807)
  (k:∀w',Has w' w.heap.size (List.replicate n z)→Fr (fun _=>False) w w'→w'.heap.size=w.heap.size+1→K (.slice (some ⟨w.heap.size,0,none⟩) n n) w') :
  RunV P (Instr.makeSlice t (.int .i64 n) (.int .i64 n)) w K:=by
 refine⟨_,_,run_make_row' t e z bytes ht hi hz .i64 .i64 n hb hn w,k _ ?_ (Fr.made w _) (by simp)⟩;have:=Has.made w (madeCells #[z] n) e
 rwa [L_d] at this
structure ElemT (P:Program) (t e:TypeId) (z:Value) (size bytes:Nat):Prop where
 und:P.underlying t=some (.slice e)
 info:(P.info? e).map (fun i=>(i.zero,i.size,i.bytes))=some (some z,size,bytes)
 zs:z.cells.size=size
 pos:0<size
theorem c_k (l:List Value):∀(n:Nat) (pre:List Value) (cs:List Value),pre.length=n→l.length≤cs.length →
  ((l.zipIdx n).foldl (fun cs (c,j)=>cs.setIfInBounds j c) (pre++cs).toArray:Array Value)=(pre++l++cs.drop l.length).toArray:=by
 induction l with
 | nil=>intro n pre cs _ _;simp
 | cons x r ih =>
  intro n pre cs hp hl;cases cs with
  | nil=>simp at hl
  | cons y t =>
   simp only [List.zipIdx_cons,List.foldl_cons];have:((pre++y :: t).toArray.setIfInBounds n x:Array Value)=((pre++[x])++t).toArray:=by
    apply Array.ext'
    simp [←hp]
   rw [this,ih (n+1) (pre++[x]) t (by simp [hp]) (by simpa using hl)];simp
theorem RunV.build1 {P:Program} {t e:TypeId} {z:Value} {size bytes:Nat} (E:ElemT P t e z size bytes) (hsz:size≤16777216) {w:World} {K:Value→World→Prop} {v:Value} (hv:v.cells.size=size)
  (k:∀w',Has w' w.heap.size v.cells.toList→Fr (fun _=>False) w w'→w'.heap.size=w.heap.size+1→K (.slice (some ⟨w.heap.size,0,none⟩) 1 1) w') :
  RunV P (Instr.buildSlice t 1 #[(0,v)]) w K:=by
 have hi:=E.info;cases hinf:P.info? e with
 | none=>rw [hinf] at hi;cases hi
 | some i =>
  rw [hinf] at hi;simp only [Option.map_some,Option.some.injEq,Prod.mk.injEq] at hi;obtain⟨hz,hs,hb⟩:=hi;refine⟨_,w.alloc (.cells v.cells e),?_,k _ (Has.made w v.cells e) (Fr.made w _) (by simp)⟩;have h0:size≠0:=by have:=E.pos;omega
  have hle:¬(size>2^24):=by omega
  have hfill:(v.cells.zipIdx.foldl (fun cs (c,j)=>cs.setIfInBounds (0*size+j) c) ((Array.range size).map (fun x=>z.cells[x%z.cells.size]!)):Array Value)=v.cells:=by
   have:=c_k v.cells.toList 0 [] ((List.range size).map (fun x=>z.cells[x%z.cells.size]!)) rfl (by simp [hv]);simp only [List.nil_append] at this;rw [←Array.foldl_toList,Array.toList_zipIdx];have e2:(Array.range size).map (fun x=>z.cells[x%z.cells.size]!)=((List.range size).map (fun x=>z.cells[x%z.cells.size]!)).toArray:=by
    apply Array.ext';simp
   rw [e2];simp only [Nat.zero_mul,Nat.zero_add];rw [this]
   apply Array.ext'
   simp [hv]
  simp only [Instr.buildSlice,Sem.run_bind,N_ E.und,Result.andThen_ok,o_ (show k_c P e=some size by simp [k_c,hinf,hs]),Nat.one_mul,if_neg hle,if_neg h0,
   M_b (show d_e P e=some z by simp [d_e,hinf,hz]),Sem.run_pure,Instr.fill]
  rw [if_neg (by simp [hv])];simp only [hfill];simp [newRow]
end Go.Sh
namespace Go.Proofs.YtmgjicnipgdjhaaGreatDoor
open Go Go.Sh Go.Fr
open Go.IntKind (i64 u64 u32)
theorem und66:prog.underlying 143=some (.slice 5):=by kernel_rfl
theorem inf5:(prog.info? 5).map (fun i=>(i.zero,i.size,i.bytes))=some (some (.int .u8 0),1,1):=by kernel_rfl
theorem und81:prog.underlying 43=some (.slice 30):=by kernel_rfl
theorem inf101:(prog.info? 30).map (fun i=>(i.zero,i.size,i.bytes))=some (some (.int .u64 0),1,8):=by kernel_rfl
def I_b (first n:Nat):Pool:=⟨first,List.replicate n 0⟩
theorem Bits.zero (n:Nat):Bits (List.replicate n 0) (List.replicate ((n+63)/64) 0):=by
 refine⟨by simp,fun k h=>by simp,fun k j h hj=>?_⟩;rw [List.getElem_replicate,Nat.zero_testBit];have:(List.replicate n 0).getD (64*k+j) 0=0:=by
  simp only [List.getD,List.getElem?_replicate];split<;>rfl
 rw [this];rfl
theorem f_f {first n:Nat} (h1:n≤1048576) (h2:first+n≤268435456):(I_b first n).Ok :=
 ⟨by simpa [I_b] using h2,by simpa [I_b] using h1,fun x hx=>by simp [I_b] at hx;omega⟩
theorem t_g (first n:Nat):(I_b first n).free=n:=by simp [I_b,Pool.free,List.countP_replicate]
def newErr (first n:Int):Nat:=if n<0∨n>1048576 then 41 else if first<0∨first>268435456-n then 40 else 0
theorem f39 {w:World} (first n:Int) (hf:-9223372036854775808≤first∧first≤9223372036854775807) :
  Ret prog 39 #[.int .i64 first,.int .i64 n] w fun v w' =>
   (newErr first n≠0∧v=.tuple #[.pointer none,.int .i64 (newErr first n:Nat)]∧Qt w w') ∨
   (newErr first n=0∧0≤first∧0≤n∧n≤1048576∧first+n≤268435456∧∃b bu bd,v=.tuple #[.pointer (some ⟨b,0,none⟩),.int .i64 0]∧PoolAt w' b bu bd (I_b first.toNat n.toNat)∧Fr (fun _=>False) w w' ∧
    w.heap.size≤b∧w.heap.size≤bu∧w.heap.size≤bd):=by
 refine F39_of ?_;unfold F39;by_cases h1:n<0
 ·rw [decide_eq_true h1,K_];exact .inl ⟨by simp [newErr,h1],by simp [newErr,h1],Qt.refl w⟩
 rw [decide_eq_false h1,E_];by_cases h2:n>1048576
 ·rw [decide_eq_true h2,K_];exact .inl ⟨by simp [newErr,h2],by simp [newErr,h2],Qt.refl w⟩
 rw [decide_eq_false h2,E_];have hg:¬(n<0∨n>1048576):=by omega
 by_cases h3:first<0
 ·rw [decide_eq_true h3,K_];exact .inl ⟨by simp [newErr,if_neg hg,h3],by simp [newErr,if_neg hg,h3],Qt.refl w⟩
 rw [decide_eq_false h3,E_,w64 (n:=(268435456:Int)-n) (by omega) (by omega)];by_cases h4:first>268435456-n
 ·rw [decide_eq_true h4,K_];exact .inl ⟨by simp [newErr,if_neg hg,h4],by simp [newErr,if_neg hg,h4],Qt.refl w⟩
 rw [decide_eq_false h4,E_];obtain⟨k,rfl⟩:∃k:Nat,n=k:=⟨n.toNat,by omega⟩;obtain⟨a,rfl⟩:∃k:Nat,first=k:=⟨first.toNat,by omega⟩
 have e1:i64.wrap ((i64.wrap ((k:Int)+63)).tdiv 64)=(((k+63)/64:Nat):Int):=by
  rw [w64 (n:=(k:Int)+63) (by omega) (by omega),IntWalk.i64_quo _ _ ⟨by omega,by omega,by omega⟩];omega
 simp only [e1];have hzero:newErr (a:Int) (k:Int)=0:=by simp only [newErr,if_neg hg];rw [if_neg (by omega)]
 have hcells:∀bu bd:Nat,[Value.int .i64 (a:Int),.int .i64 (k:Int),.slice (some ⟨bu,0,none⟩) k k,.slice (some ⟨bd,0,none⟩) ((k+63)/64) ((k+63)/64),.int .i64 (k:Int)]=y_b (I_b a k) bu bd:=by
  intro bu bd;simp [y_b,t_g];simp [I_b]
 have hu8:u8s (I_b a k).u=List.replicate k (.int .u8 0):=by simp [u8s,I_b]
 have hu64:e_j (List.replicate ((k+63)/64) 0)=List.replicate ((k+63)/64) (.int .u64 0):=by simp [e_j]
 refine⟨?_,?_⟩
 ·refine RunV.make 143 5 _ 1 k und66 inf5 rfl (by omega) (by omega) fun w1 hu hf1 hs1=>?_;simp only [AsSl_slice];refine RunV.make 43 30 _ 8 ((k+63)/64) und81 inf101 rfl (by omega) (by omega) fun w2 hd hf2 hs2=>?_;simp only [AsSl_slice];refine New.mk fun w3 hp hf3 hs3=>?_;have hu2:=(hu.fr hf2 (fun h=>h)).fr hf3 (fun h=>h);have hd2:=hd.fr hf3 (fun h=>h);refine .inr ⟨hzero,by omega,by omega,by omega,by omega,w2.heap.size,w.drew.heap.size,w1.heap.size,rfl,⟨?_,?_,⟨_,Bits.zero k,?_⟩,?_,?_⟩,((hf1.trans hf2).trans hf3).of_drew,?_,?_,?_⟩
  ·rw [Int.toNat_natCast,Int.toNat_natCast,←hcells];exact hp
  ·rw [Int.toNat_natCast,Int.toNat_natCast,hu8];exact hu2
  ·rw [hu64];exact hd2
  ·have h5:w.drew.heap.size=w.heap.size:=rfl;omega
  ·simp only [Int.toNat_natCast];exact f_f (by omega) (by omega)
  ·have h5:w.drew.heap.size=w.heap.size:=rfl;omega
  ·exact Nat.le_refl _
  ·have h5:w.drew.heap.size=w.heap.size:=rfl;omega
 ·refine RunV.make 43 30 _ 8 ((k+63)/64) und81 inf101 rfl (by omega) (by omega) fun w1 hd hf1 hs1=>?_;simp only [AsSl_slice];refine RunV.make 143 5 _ 1 k und66 inf5 rfl (by omega) (by omega) fun w2 hu hf2 hs2=>?_;simp only [AsSl_slice];refine New.mk fun w3 hp hf3 hs3=>?_;have hd2:=(hd.fr hf2 (fun h=>h)).fr hf3 (fun h=>h);have hu2:=hu.fr hf3 (fun h=>h);refine .inr ⟨hzero,by omega,by omega,by omega,by omega,w2.heap.size,w1.heap.size,w.drew.heap.size,rfl,⟨?_,?_,⟨_,Bits.zero k,?_⟩,?_,?_⟩,((hf1.trans hf2).trans hf3).of_drew,?_,?_,?_⟩
  ·rw [Int.toNat_natCast,Int.toNat_natCast,←hcells];exact hp
  ·rw [Int.toNat_natCast,Int.toNat_natCast,hu8];exact hu2
  ·rw [hu64];exact hd2
  ·have h5:w.drew.heap.size=w.heap.size:=rfl;omega
  ·simp only [Int.toNat_natCast];exact f_f (by omega) (by omega)
  ·have h5:w.drew.heap.size=w.heap.size:=rfl;omega
  ·have h5:w.drew.heap.size=w.heap.size:=rfl;omega
  ·exact Nat.le_refl _
def turn (u:List Nat) (k:Nat) (f:Nat→Nat):Nat→List Nat
 | 0=>u
 | j+1=>(turn u k f j).set (k+j) (f (u.getD (k+j) 0))
theorem e_ (u:List Nat) (k:Nat) (f:Nat→Nat):∀j,(turn u k f j).length=u.length
 | 0=>rfl
 | j+1=>by simp [turn,e_ u k f j]
theorem O_b (u:List Nat) (k:Nat) (f:Nat→Nat) (x:Nat):∀j,k+j≤u.length→(turn u k f j).getD x 0=if k≤x∧x<k+j then f (u.getD x 0) else u.getD x 0
 | 0,_=>by rw [if_neg (by omega)];rfl
 | j+1,h=>by
  rw [turn,Y_e _ _ _ _ (by rw [e_];omega),O_b u k f x j (by omega)];by_cases e:k+j=x
  ·subst e;rw [if_pos rfl,if_pos (by omega)]
  ·rw [if_neg e];by_cases h2:k≤x∧x<k+j
   ·rw [if_pos h2,if_pos (by omega)]
   ·rw [if_neg h2,if_neg (by omega)]
theorem run_ok {p:Pool} {first n:Int} (h:(p.run first n).2=0):1≤n∧(p.first:Int)≤first∧first+n≤p.first+p.u.length∧(p.run first n).1=(first-p.first).toNat ∧
  (∀x,(first-p.first).toNat≤x→x<(first-p.first).toNat+n.toNat→0<p.u.getD x 0):=by
 unfold Pool.run at *;split at h
 ·cases h
 rename_i h0;split at h
 ·cases h
 rename_i h1;split at h
 ·cases h
 rename_i h2;rw [if_neg h0,if_neg h1,if_neg h2];refine⟨by omega,by omega,by omega,rfl,fun x hx hx2=>?_⟩;obtain⟨s1,s2,s3,s4⟩:=H_b p.u false (first-p.first).toNat;have hlt:x<p.u.length:=by omega
 have:=s4 x hx (by omega) hlt;rw [r_ hlt];have h3:¬p.u[x]=0:=by simpa using this
 omega
def Pool.turned (p:Pool) (k:Nat) (f:Nat→Nat) (j:Nat):Pool:=⟨p.first,turn p.u k f j⟩
theorem f47 {w:World} {b bu bd:Nat} {p:Pool} (hP:PoolAt w b bu bd p) (hT:Tz w) (hd:¬Own b bu bd 3) (first n:Int) (hf:-9223372036854775808≤first∧first≤9223372036854775807) (hn:n≤9223372036854775807) :
  Ret prog 47 #[.pointer (some ⟨b,0,none⟩),.int .i64 first,.int .i64 n] w fun v w' =>
   ((p.run first n).2≠0∧v=.tuple #[.int .i64 0,.int .i64 ((p.run first n).2:Nat)]∧Qt w w') ∨
   ((p.run first n).2=0∧v=.tuple #[.int .i64 (((p.turned (first-p.first).toNat (· - 1) n.toNat).free:Int)-p.free),.int .i64 0]∧PoolAt w' b bu bd (p.turned (first-p.first).toNat (· - 1) n.toNat)∧Fr (Own b bu bd) w w'):=by
 have hN:=hP.ok.n;have hL:=hP.ok.le;refine F47_of ?_;unfold F47;try dsimp only [Uii,li_,ls_,ui_]
 refine Ret.use (f95 hP hT first n hf hn) ?_;rintro v w1 ⟨rfl,hq⟩;simp only [F_,UnC_cons,AsI_int,UnN_nil];by_cases h0:(p.run first n).2=0
 ·have hb:(((p.run first n).2:Int) != (0:Int))=false:=by rw [h0];rfl
  rw [hb,E_];obtain⟨r1,r2,r3,r4,r5⟩:=run_ok h0;obtain⟨k,hk⟩:∃k:Nat,first-(p.first:Int)=k:=⟨(first-p.first).toNat,by omega⟩
  obtain⟨m,rfl⟩:∃m:Nat,n=m:=⟨n.toNat,by omega⟩;have hkN:(first-(p.first:Int)).toNat=k:=by omega
  have hmN:((m:Int)).toNat=m:=rfl;simp only [hkN,hmN] at r4 r5 ⊢;rw [r4];have hP1:=hP.qt hq;simp only [H_,Nat.zero_add];refine hP1.st.ld rfl ?_;simp only [AsI_int];refine Loop.by (fun s w'=>∃j:Nat,s=[.int .i64 (j:Int)]∧j≤m∧PoolAt w' b bu bd (p.turned k (· - 1) j)∧Fr (Own b bu bd) w w') (fun s _=>match s with | [.int _ j]=>m-j.toNat|_=>0)
   ⟨0,rfl,by omega,hP1,hq.fr⟩ ?_
  rintro _ w2 ⟨j,rfl,hj,hP2,hf2⟩;simp only [UnC_cons,AsI_int,UnN_nil];have hlen:(p.turned k (· - 1) j).u.length=p.u.length:=e_ _ _ _ _;by_cases hjm:j<m
  ·rw [decide_eq_true (show (j:Int)<(m:Int) by omega),K_];refine hP2.st.ld rfl ?_;simp only [AsSl_slice,G_];have hkj:k+j<p.u.length:=by rw [hlen] at *;omega
   have hkj2:k+j<(p.turned k (· - 1) j).u.length:=by omega
   rw [w64 (n:=(k:Int)+(j:Int)) (by omega) (by omega),show (k:Int)+(j:Int)=((k+j:Nat):Int) from by omega];refine⟨by omega,by omega,?_⟩;simp only [H_,Int.toNat_natCast,Nat.mul_one,Nat.zero_add];refine hP2.us.ld (Q_h hkj2) ?_;simp only [AsI_int];have hval:(p.turned k (· - 1) j).u[k+j]=p.u.getD (k+j) 0:=by
    rw [←r_ hkj2];show (turn p.u k (· - 1) j).getD (k+j) 0=_;rw [O_b _ _ _ _ _ (by omega),if_neg (by omega)]
   have hpos:=r5 (k+j) (by omega) (by omega);have hle:p.u.getD (k+j) 0≤255:=by rw [r_ hkj];exact hP.ok.u _ (List.getElem_mem hkj)
   rw [hval,wu8 (by omega) (by omega),show ((p.u.getD (k+j) 0:Nat):Int)-1=((p.u.getD (k+j) 0-1:Nat):Int) from by omega];refine Ret.use (f94 hP2 (k+j) (p.u.getD (k+j) 0-1) hkj2 (by omega)) ?_;rintro v w3 ⟨rfl,hP3,hf3⟩;simp only [F_,UnN_nil];rw [w64 (n:=(j:Int)+1) (by omega) (by omega)];exact⟨⟨j+1,rfl,by omega,hP3,hf2.trans hf3⟩,by show m-((j:Int)+1).toNat<m-(j:Int).toNat;omega⟩
  ·rw [decide_eq_false (show ¬(j:Int)<(m:Int) by omega),E_];obtain rfl:j=m:=by omega
   refine hP2.st.ld rfl ?_;simp only [AsI_int];have c1:p.free≤p.u.length:=List.countP_le_length;have c2:(p.turned k (· - 1) j).free≤p.u.length:=by rw [←hlen];exact List.countP_le_length
   rw [w64 (by omega) (by omega)];exact .inr ⟨h0,by trivial,hP2,hf2⟩
 ·have hb:(((p.run first n).2:Int) != (0:Int))=true:=bne_iff_ne.2 (by omega);rw [hb,K_];exact .inl ⟨h0,by trivial,hq⟩
end Go.Proofs.YtmgjicnipgdjhaaGreatDoor
namespace Go.Fr
def up (m al:Nat):Nat:=(m+al-1)/al*al
theorem up_le {m al:Nat} (h:0<al):m≤up m al∧up m al<m+al:=by
 unfold up;have h1:=Nat.div_add_mod (m+al-1) al;have h2:=Nat.mod_lt (m+al-1) h;rw [Nat.mul_comm] at h1;generalize (m+al-1)/al*al=q at *;omega
theorem up_mod (m al:Nat):up m al%al=0:=by unfold up;exact Nat.mul_mod_left _ _
theorem up_least {m al x:Nat} (h:0<al) (hx:x%al=0) (hm:m≤x):up m al≤x:=by
 unfold up;obtain⟨t,rfl⟩:∃t,x=t*al:=⟨x/al,by rw [Nat.div_mul_cancel (Nat.dvd_of_mod_eq_zero hx)]⟩
 apply Nat.mul_le_mul_right
 have:(m+al-1)/al<t+1:=by
  rw [Nat.div_lt_iff_lt_mul h,Nat.add_mul,Nat.one_mul];omega
 omega
def Fit (first:Nat) (u:List Nat) (n al a:Nat):Prop:=(first+a)%al=0∧a+n≤u.length∧∀x,a≤x→x<a+n→u.getD x 0=0
theorem b_k {u:List Nat} {x:Nat} (h:u.getD x 0=0) (hx:x<u.length):decide (0<u[x])=false:=by
 rw [r_ hx] at h;simp [h]
theorem e_k {first n al at0:Nat} {u:List Nat} (hn:1≤n) (hal:0<al) (hno:∀a,a<at0→¬Fit first u n al a) (hat:at0≤u.length) :
  let at1:=next u false at0
  let at2:=up (first+at1) al-first
  at0≤at1∧at1≤at2∧first+at2=up (first+at1) al∧(∀a,a<at2→¬Fit first u n al a) ∧
  ((at2≥u.length∨n>u.length-at2)→∀a,¬Fit first u n al a) ∧
  (at2<u.length→n≤u.length-at2→(next u true at2<at2+n→next u true at2<u.length∧at2≤next u true at2∧∀a,a<next u true at2+1→¬Fit first u n al a) ∧
   (at2+n≤next u true at2→Fit first u n al at2)):=by
 intro at1 at2;obtain⟨s1,s2,s3,s4⟩:=H_b u false at0;have hup:=up_le (m:=first+at1) hal;have h01:at0≤at1:=s2 hat;have h12:at1≤at2:=by omega
 have hf:first+at2=up (first+at1) al:=by omega
 have hlt:∀a,a<at2→¬Fit first u n al a:=by
  intro a ha hfit;by_cases h1:a<at0
  ·exact hno a h1 hfit
  ·have hal1:a<u.length:=by have:=hfit.2.1;omega
   have h2:at1≤a:=by
    rcases Nat.lt_or_ge a at1 with h|h
    ·exact absurd (b_k (hfit.2.2 a (Nat.le_refl _) (by omega)) hal1) (s4 a (by omega) h hal1)
    ·exact h
   have:=up_least hal hfit.1 (show first+at1≤first+a by omega);omega
 refine⟨h01,h12,hf,hlt,fun h a hfit=>?_,fun h1 h2=>⟨fun h3=>?_,fun h3=>?_⟩⟩
 ·have:=hfit.2.1;exact hlt a (by omega) hfit
 ·obtain⟨t1,t2,t3,t4⟩:=H_b u true at2;have h4:=t2 (by omega);refine⟨by omega,h4,fun a ha hfit=>?_⟩;by_cases h5:a<at2
  ·exact hlt a h5 hfit
  ·have hb:next u true at2<u.length:=by omega
   have:=t3 hb;rw [b_k (hfit.2.2 _ (by omega) (by omega)) hb] at this;cases this
 ·obtain⟨t1,t2,t3,t4⟩:=H_b u true at2;refine⟨by rw [hf];exact up_mod _ _,by omega,fun x hx1 hx2=>?_⟩;have hx:x<u.length:=by omega
  have:=t4 x hx1 (by omega) hx;rw [r_ hx];have h5:¬0<u[x]:=by simpa using this
  omega
end Go.Fr
namespace Go.Proofs.YtmgjicnipgdjhaaGreatDoor
open Go Go.Sh Go.Fr
open Go.IntKind (i64 u64 u32)
def v_a (n al:Int):Prop:=n<1∨al<1∨al>4096∨w_i al.toNat=false
def TakeR (p:Pool) (n al:Int) (b bu bd:Nat) (w:World) (v:Value) (w':World):Prop :=
 (v_a n al∧v=.tuple #[.int .i64 0,.int .i64 41]∧Qt w w') ∨
 (¬v_a n al∧(∀a,¬Fit p.first p.u n.toNat al.toNat a)∧v=.tuple #[.int .i64 0,.int .i64 42]∧Qt w w') ∨
 (¬v_a n al∧∃a,Fit p.first p.u n.toNat al.toNat a∧(∀a',a'<a→¬Fit p.first p.u n.toNat al.toNat a')∧v=.tuple #[.int .i64 (p.first+a:Nat),.int .i64 0] ∧
  PoolAt w' b bu bd (p.turned a (fun _=>1) n.toNat)∧Fr (Own b bu bd) w w')
theorem f46 {w:World} {b bu bd:Nat} {p:Pool} (hP:PoolAt w b bu bd p) (hT:Tz w) (hd:¬Own b bu bd 3) (n al:Int) (hn:n≤9223372036854775807) :
  Ret prog 46 #[.pointer (some ⟨b,0,none⟩),.int .i64 n,.int .i64 al] w (TakeR p n al b bu bd w):=by
 have hN:=hP.ok.n;have hL:=hP.ok.le;refine F46_of ?_;unfold F46;try dsimp only [O_f,li_,ui_]
 by_cases h1:n<1
 ·rw [decide_eq_true h1,K_];exact .inl ⟨.inl h1,rfl,Qt.refl w⟩
 rw [decide_eq_false h1,E_];by_cases h2:al<1
 ·rw [decide_eq_true h2,K_];exact .inl ⟨.inr (.inl h2),rfl,Qt.refl w⟩
 rw [decide_eq_false h2,E_];by_cases h3:al>4096
 ·rw [decide_eq_true h3,K_];exact .inl ⟨.inr (.inr (.inl h3)),rfl,Qt.refl w⟩
 rw [decide_eq_false h3,E_,b_a (n:=al) (by omega) (by omega)];obtain⟨l,rfl⟩:∃l:Nat,al=l:=⟨al.toNat,by omega⟩;obtain⟨m,rfl⟩:∃m:Nat,n=m:=⟨n.toNat,by omega⟩;refine Ret.use (f92 l (by omega)) ?_;rintro _ w1 ⟨⟨c,rfl,hc⟩,hw⟩;obtain rfl:=hw.symm;simp only [AsI_int];rw [hc];cases h4:w_i l with
 | false =>
  rw [Bool.not_false,K_];exact .inl ⟨.inr (.inr (.inr h4)),rfl,Qt.refl _⟩
 | true =>
 have hgood:¬v_a (m:Int) (l:Int):=by
  rintro (h|h|h|h)
  ·omega
  ·omega
  ·omega
  ·rw [Int.toNat_natCast,h4] at h;cases h
 rw [Bool.not_true,E_];simp only [H_,Nat.zero_add];have hl:0<l:=by omega
 have hl2:l≤4096:=by omega
 refine Loop.by (fun s w'=>∃a:Nat,s=[.int .i64 (a:Int),.int .i64 0,.int .i64 0]∧a≤p.u.length∧(∀a',a'<a→¬Fit p.first p.u m l a')∧Qt w w')
  (fun s _=>match s with | [.int _ a,_,_]=>p.u.length+1-a.toNat|_=>0) ⟨0,rfl,by omega,fun a' h=>by omega,Qt.refl w⟩ ?_
 rintro _ w2 ⟨a,rfl,ha,hno,hq⟩;simp only [UnC_cons,AsI_int,UnN_nil];obtain⟨r1,r2,r3,r4,r5,r6⟩:=e_k (first:=p.first) (n:=m) (al:=l) (by omega) hl hno ha;refine Ret.use (f93 (hP.qt hq) (hT.qt hq) a (by omega) false) ?_;rintro _ w3 ⟨rfl,hq3⟩;have hq:=hq.trans hq3;have hP3:=hP.qt hq;have ha1:next p.u false a≤p.u.length:=(H_b p.u false a).1;generalize next p.u false a=a1 at *;simp only [AsI_int];refine hP3.st.ld rfl ?_;simp only [AsI_int];refine NZ.mk (by omega) ?_;refine hP3.st.ld rfl ?_;simp only [AsI_int];refine hP3.st.ld rfl ?_;simp only [AsI_int];have hup:=up_le (m:=p.first+a1) hl;have e1:i64.wrap (i64.wrap ((i64.wrap (i64.wrap (i64.wrap ((p.first:Int)+(a1:Int))+(l:Int))-1)).tdiv (l:Int))*(l:Int))=((up (p.first+a1) l:Nat):Int):=by
  have hdiv:(((p.first:Int)+(a1:Int)+(l:Int)-1)/(l:Int))=(((p.first+a1+l-1)/l:Nat):Int):=by
   rw [Int.natCast_ediv];congr 1;omega
  have hle:(p.first+a1+l-1)/l≤p.first+a1+l-1:=Nat.div_le_self _ _
  rw [w64 (n:=(p.first:Int)+(a1:Int)) (by omega) (by omega),w64 (n:=(p.first:Int)+(a1:Int)+(l:Int)) (by omega) (by omega),
   w64 (n:=(p.first:Int)+(a1:Int)+(l:Int)-1) (by omega) (by omega),IntWalk.i64_quo _ _ ⟨by omega,by omega,by omega⟩,hdiv,
   show (((p.first+a1+l-1)/l:Nat):Int)*(l:Int)=((up (p.first+a1) l:Nat):Int) from by unfold up;push_cast;rfl]
  exact w64 (by omega) (by omega)
 simp only [e1];have e2:i64.wrap (((up (p.first+a1) l:Nat):Int)-(p.first:Int))=((up (p.first+a1) l-p.first:Nat):Int):=by rw [w64 (by omega) (by omega)];omega
 simp only [e2];clear e1 e2;generalize up (p.first+a1) l-p.first=a2 at *
 rw [←r3];by_cases h5:a2≥p.u.length
 ·rw [decide_eq_true (show (a2:Int)≥(p.u.length:Int) by omega),K_];exact .inr (.inl ⟨hgood,r5 (.inl h5),rfl,hq⟩)
 rw [decide_eq_false (show ¬(a2:Int)≥(p.u.length:Int) by omega),E_];refine hP3.st.ld rfl ?_;simp only [AsI_int];rw [w64 (n:=(p.u.length:Int)-(a2:Int)) (by omega) (by omega)];by_cases h6:m>p.u.length-a2
 ·rw [decide_eq_true (show (m:Int)>(p.u.length:Int)-(a2:Int) by omega),K_];exact .inr (.inl ⟨hgood,r5 (.inr h6),rfl,hq⟩)
 rw [decide_eq_false (show ¬(m:Int)>(p.u.length:Int)-(a2:Int) by omega),E_];obtain⟨r7,r8⟩:=r6 (by omega) (by omega);refine Ret.use (f93 hP3 (hT.qt hq) a2 (by omega) true) ?_;rintro _ w4 ⟨rfl,hq4⟩;have hq4:=hq.trans hq4;generalize next p.u true a2=bz at *;simp only [AsI_int];rw [w64 (n:=(a2:Int)+(m:Int)) (by omega) (by omega)];by_cases h7:bz<a2+m
 ·rw [decide_eq_true (show (bz:Int)<(a2:Int)+(m:Int) by omega),K_];obtain⟨r9,r10,r11⟩:=r7 h7;rw [w64 (n:=(bz:Int)+1) (by omega) (by omega)];refine⟨⟨bz+1,rfl,by omega,r11,hq4⟩,?_⟩;show p.u.length+1-((bz:Int)+1).toNat<p.u.length+1-(a:Int).toNat;omega
 rw [decide_eq_false (show ¬(bz:Int)<(a2:Int)+(m:Int) by omega),E_];refine Loop.by (fun s w'=>∃i:Nat,s=[.int .i64 (i:Int)]∧i≤m∧PoolAt w' b bu bd (p.turned a2 (fun _=>1) i)∧Fr (Own b bu bd) w w') (fun s _=>match s with | [.int _ i]=>m-i.toNat|_=>0)
  ⟨0,rfl,by omega,hP.qt hq4,hq4.fr⟩ ?_
 rintro _ w5 ⟨i,rfl,hi,hP5,hf5⟩;simp only [UnC_cons,AsI_int,UnN_nil];have hlen:(p.turned a2 (fun _=>1) i).u.length=p.u.length:=e_ _ _ _ _;by_cases him:i<m
 ·rw [decide_eq_true (show (i:Int)<(m:Int) by omega),K_,w64 (n:=(a2:Int)+(i:Int)) (by omega) (by omega),show (a2:Int)+(i:Int)=((a2+i:Nat):Int) from by omega];refine Ret.use (f94 hP5 (a2+i) 1 (by omega) (by omega)) ?_;rintro v w6 ⟨rfl,hP6,hf6⟩;simp only [F_,UnN_nil];rw [w64 (n:=(i:Int)+1) (by omega) (by omega)];exact⟨⟨i+1,rfl,by omega,hP6,hf5.trans hf6⟩,by show m-((i:Int)+1).toNat<m-(i:Int).toNat;omega⟩
 ·rw [decide_eq_false (show ¬(i:Int)<(m:Int) by omega),E_];obtain rfl:i=m:=by omega
  exact .inr (.inr ⟨hgood,a2,r8 (by omega),r4,rfl,hP5,hf5⟩)
end Go.Proofs.YtmgjicnipgdjhaaGreatDoor
namespace Go.Sh
variable {P:Program}
theorem P_ {w:World} {a:Addr} {K:Value→Prop}:Ld w.drew a K↔Ld w a K:=Iff.rfl
theorem R_c {p:Prop} [Decidable p] {x y:Prop} (h:p) (k:x):BIf (decide p) x y:=by rw [decide_eq_true h];exact k
theorem D_a {p:Prop} [Decidable p] {x y:Prop} (h:¬p) (k:y):BIf (decide p) x y:=by rw [decide_eq_false h];exact k
theorem C_ {p:Prop} [Decidable p] {x y:Prop} (h:p→x) (k:¬p→y):BIf (decide p) x y:=by
 by_cases hp:p
 ·exact R_c hp (h hp)
 ·exact D_a hp (k hp)
theorem O_ {a b:Int} {x y:Prop} (h:a=b→x) (k:a≠b→y):BIf (a==b) x y:=by
 by_cases hp:a=b
 ·rw [beq_iff_eq.2 hp];exact h hp
 ·rw [beq_eq_false_iff_ne.2 hp];exact k hp
theorem b_ {a b:Int} {x y:Prop} (h:a≠b→x) (k:a=b→y):BIf (a != b) x y:=by
 by_cases hp:a=b
 ·rw [bne_eq_false_iff_eq.2 hp];exact k hp
 ·rw [bne_iff_ne.2 hp];exact h hp
theorem BIf_not {b:Bool} {x y:Prop}:BIf (!b) x y↔BIf b y x:=by cases b<;>exact Iff.rfl
theorem w_ {b:Bool} {x y:Prop} (h:b=true→x) (k:b=false→y):BIf b x y:=by
 cases b
 ·exact k rfl
 ·exact h rfl
def Rd (w:World) (p:Option Addr) (xs:List Value):Prop:=∀i v,xs[i]?=some v→∃b o,p=some ⟨b,o,none⟩∧w.cell? ⟨b,o+i,none⟩=some v
theorem Rd.nil (w:World) (p:Option Addr):Rd w p []:=fun i v h=>by simp at h
theorem Rd.qt {w w':World} {p:Option Addr} {xs:List Value} (h:Rd w p xs) (q:Qt w w'):Rd w' p xs:=fun i v hv=>by
 obtain⟨b,o,hp,hc⟩:=h i v hv;exact⟨b,o,hp,by rw [←hc];simp [World.cell?,q.heap]⟩
def On (p:Option Addr) (b:Nat):Prop:=∃a,p=some a∧a.block=b
theorem p_h {w:World} {a:Addr} {v:Value} (h:w.cell? a=some v):a.block<w.heap.size:=by
 rcases Nat.lt_or_ge a.block w.heap.size with h1|h1
 ·exact h1
 ·simp [World.cell?,Array.getElem?_eq_none h1] at h
theorem cell_fr {S:Nat→Prop} {w w':World} {a:Addr} {v:Value} (h:w.cell? a=some v) (f:Fr S w w') (hS:¬S a.block):w'.cell? a=some v:=by
 rw [←h];simp only [World.cell?,f.block _ (p_h h) hS]
theorem Rd.fr {S:Nat→Prop} {w w':World} {p:Option Addr} {xs:List Value} (h:Rd w p xs) (f:Fr S w w') (hS:∀b,On p b→¬S b):Rd w' p xs:=fun i v hv=>by
 obtain⟨b,o,hp,hc⟩:=h i v hv;exact⟨b,o,hp,cell_fr hc f (hS _ ⟨_,hp,rfl⟩)⟩
theorem Rd.ld {w:World} {p:Option Addr} {xs:List Value} (h:Rd w p xs) {i:Nat} {v:Value} (hv:xs[i]?=some v) {K:Addr→Prop} (k:∀b o,p=some ⟨b,o,none⟩→w.cell? ⟨b,o+i,none⟩=some v→K ⟨b,o,none⟩):NilP p K:=by
 obtain⟨b,o,rfl,hc⟩:=h i v hv;exact k b o rfl hc
theorem Rd.int {w:World} {p:Option Addr} {n:Nat} {l:List Int} {k:IntKind} (h:Rd w p (l.map (Value.int k))) (hn:l.length=n) {i:Int} (h0:0≤i) {x:Int} (hi:l[i.toNat]?=some x) {K:Int→Prop} (hK:K x) :
  NilP p fun a=>(0:Int)≤i∧i<(n:Int)∧Ld w (at0 a (i.toNat*1)) fun v=>AsI k v K:=by
 refine h.ld (i:=i.toNat) (v:=.int k x) (by simp [hi]) fun b o _ hc=>⟨h0,?_,?_⟩
 ·have:=(List.getElem?_eq_some_iff.1 hi).1;omega
 ·rw [H_,Nat.mul_one];exact⟨_,hc,AsI_int.2 hK⟩
def Sl (w:World) (B:Nat) (e:TypeId) (size:Nat) (p:Option Addr) (n c:Nat) (xs:List Value):Prop:=w.ownsRow B e size (.slice p n c) n xs
theorem Sl.nil (w:World) (B:Nat) (e:TypeId) (size:Nat):Sl w B e size none 0 0 []:=World.ownsRow_nil w B e size
section sl
variable {w w':World} {B:Nat} {e:TypeId} {size n c:Nat} {p:Option Addr} {xs:List Value}
theorem Sl.len (h:Sl w B e size p n c xs):xs.length=n*size:=h.1
theorem Sl.some_ (h:Sl w B e size p n c xs) (hn:0<n):∃g sp,p=some ⟨g,0,none⟩∧B≤g∧Has w g (xs++sp):=by
 rcases h.2 with ⟨_,h0⟩|⟨g,cap,cur,hv,hb,hg,hnc,hcm,hcs,ht⟩
 ·omega
 ·injection hv with h1 h2 h3
  refine⟨g,cur.toList.drop (n*size),h1,hb,e,?_⟩;rw [←ht,List.take_append_drop];simpa using hg
theorem Sl.cases (h:Sl w B e size p n c xs):(p=none∧n=0∧c=0∧xs=[])∨∃g sp,p=some ⟨g,0,none⟩∧B≤g∧Has w g (xs++sp)∧n≤c∧(xs++sp).length=c*size:=by
 rcases h.2 with ⟨h0,h1⟩|⟨g,cap,cur,hv,hb,hg,hnc,hcm,hcs,ht⟩
 ·injection h0 with h0 h2 h3;subst h1;refine .inl ⟨h0,rfl,h3,?_⟩;have:=h.1;simp at this;exact this
 ·injection hv with h1 h2 h3
  refine .inr ⟨g,cur.toList.drop (n*size),h1,hb,⟨e,?_⟩,by omega,?_⟩
  ·rw [←ht,List.take_append_drop];simpa using hg
  ·rw [←ht,List.take_append_drop];simp [hcs,h3]
theorem Sl.rd (h:Sl w B e size p n c xs):Rd w p xs:=fun i v hv=>by
 rcases h.cases with ⟨_,_,_,rfl⟩|⟨g,sp,hp,_,hh,_,_⟩
 ·simp at hv
 ·refine⟨g,0,hp,?_⟩;rw [Nat.zero_add,hh.cell,List.getElem?_append_left (List.getElem?_eq_some_iff.1 hv).1,hv]
theorem Sl.lt (h:Sl w B e size p n c xs):∀b,On p b→B≤b∧b<w.heap.size:=by
 rintro b ⟨a,rfl,rfl⟩;rcases h.cases with ⟨h,_⟩|⟨g,sp,hp,hb,hh,_,_⟩
 ·cases h
 ·injection hp with hp;subst hp;exact⟨hb,hh.lt⟩
theorem Sl.qt (h:Sl w B e size p n c xs) (q:Qt w w'):Sl w' B e size p n c xs:=by
 refine⟨h.1,?_⟩;rw [q.heap];exact h.2
theorem Sl.fr {S:Nat→Prop} (h:Sl w B e size p n c xs) (f:Fr S w w') (hS:∀b,On p b→¬S b):Sl w' B e size p n c xs:=by
 have hl:=h.lt;refine⟨h.1,?_⟩;rcases h.2 with h0|⟨g,cap,cur,hv,hb,hg,hr⟩
 ·exact .inl h0
 ·injection hv with h1 h2 h3
  refine .inr ⟨g,cap,cur,by rw [h1,h3],hb,?_,hr⟩;rw [f.block _ (hl g ⟨_,h1,rfl⟩).2 (hS g ⟨_,h1,rfl⟩)];exact hg
theorem Sl.mono {B':Nat} (h:Sl w B e size p n c xs) (hB:B'≤B):Sl w B' e size p n c xs:=by
 refine⟨h.1,?_⟩;rcases h.2 with h0|⟨g,cap,cur,hv,hb,hr⟩
 ·exact .inl h0
 ·exact .inr ⟨g,cap,cur,hv,Nat.le_trans hB hb,hr⟩
theorem On.own {b:Nat}:some b=(Value.slice p n c).ownBlock↔On p b:=by
 cases p with
 | none=>simp [Value.ownBlock,On]
 | some a=>simp [Value.ownBlock,On];exact eq_comm
theorem Fr.own {S:Nat→Prop} {w0:World} (f:Fr S w0 w) (g:Fr (On p) w w') (h:∀b,On p b→b<w0.heap.size→S b):Fr S w0 w' :=
 ⟨g.os.trans f.os,g.output.trans f.output,g.tape.trans f.tape,Nat.le_trans f.size g.size,fun b hb hn =>
  (g.block b (Nat.lt_of_lt_of_le hb f.size) fun ho=>hn (h b ho hb)).trans (f.block b hb hn)⟩
end sl
abbrev Fr0 (w w':World):Prop:=Fr (fun _=>False) w w'
theorem Has.fr0 {w w':World} {b:Nat} {l:List Value} (h:Has w b l) (f:Fr0 w w'):Has w' b l:=h.fr f fun h=>h
theorem Rd.fr0 {w w':World} {p:Option Addr} {xs:List Value} (h:Rd w p xs) (f:Fr0 w w'):Rd w' p xs:=h.fr f fun _ _ h=>h
theorem Sl.fr0 {w w':World} {B:Nat} {e:TypeId} {size n c:Nat} {p:Option Addr} {xs:List Value} (h:Sl w B e size p n c xs) (f:Fr0 w w'):Sl w' B e size p n c xs:=h.fr f fun _ _ h=>h
theorem J_b {t e ty:TypeId} {z:Value} {size bytes:Nat} (E:ElemT P t e z size bytes) {w:World} {K:Value→World→Prop} {B:Nat}
  {p:Option Addr} {n c:Nat} {xs:List Value} (h:Sl w B e size p n c xs) (hB:B≤w.heap.size)
  {b o m c':Nat} {news:List Value} (hx:∀j u,news[j]?=some u→w.cell? ⟨b,o+j,none⟩=some u) (hl:news.length=m*size) (h1:∀u∈news,u.oneCell'=true)
  (h63:n+m≤maxLen) (hbytes:(n+m)*bytes≤140737488355328)
  (k:∀p' c' w',Sl w' B e size p' (n+m) c' (xs++news)→Fr (On p) w w'→(∀b,On p' b→On p b∨w.heap.size≤b)→K (.slice p' (n+m) c') w') :
  RunV P (Builtin.append_ #[t,t] ty #[.slice p n c,.slice (some ⟨b,o,none⟩) m c']) w K:=by
 have hi:=E.info;cases hinf:P.info? e with
 | none=>rw [hinf] at hi;cases hi
 | some i =>
  rw [hinf] at hi;simp only [Option.map_some,Option.some.injEq,Prod.mk.injEq] at hi;obtain⟨hz,hs,hb⟩:=hi;have hcell:∀j u,news[j]?=some u→w.cell? ((⟨b,o,none⟩:Addr).add j)=some u:=by
   intro j u hj;rw [←n_a,H_];exact hx j u hj
  obtain⟨v',w',hrun,how,hgr,hiff⟩:=run_append_own w B t ty e i z size bytes E.und hinf hz hs hb E.zs E.pos (.slice p n c) n xs h ⟨b,o,none⟩ m c' news hl hcell h1 h63 hbytes hB;obtain⟨p',c1,rfl⟩:∃p' c1,v'=.slice p' (n+m) c1:=by
   rcases how.2 with ⟨h0,h1⟩|⟨g,cap,cur,h0,_⟩
   ·exact⟨none,0,by rw [h0,h1]⟩
   ·exact⟨_,_,h0⟩
  refine⟨_,w',hrun,k p' c1 w' how ⟨hgr.os,hgr.output,hgr.tape,hgr.size,fun k hk hn=>hgr.block k hk fun h'=>hn (On.own.1 h')⟩ fun b' hb'=>?_⟩;rcases Nat.lt_or_ge b' w.heap.size with hlt|hge
  ·left
   obtain⟨a',rfl,rfl⟩:=hb';rcases h.2 with ⟨h0,hn0⟩|⟨g,cap,cur,hv,hbg,hg,hnc,hcm,hcs,htake⟩
   ·injection h0 with h0 h2 h3;subst h0 h2 h3
    by_cases hm:m=0
    ·subst hm;have:=hiff.2 ⟨rfl,rfl⟩;injection this with this;cases this
    ·subst hs hb;have hr:=run_append_nil (P:=P) w t ty e i z E.und hinf hz ⟨b,o,none⟩ m c' news hl hcell (by omega) (by simp only [maxLen] at h63;omega) (by have hb:=hbytes;simp only [Nat.zero_add] at hb;omega);rw [hrun] at hr;injection hr with h1 h2
     injection h1 with h1
     injection h1 with h1
     rw [h1] at hlt;exact absurd hlt (by show ¬w.heap.size<w.heap.size;omega)
   ·injection hv with h1 h2 h3;subst h1 h3
    subst hs hb;by_cases hroom:n+m≤c
    ·have hfit:n*i.size+news.length≤cur.size:=by rw [hl,hcs,←Nat.add_mul];exact Nat.mul_le_mul_right _ hroom
     have hr:=run_append_room (P:=P) (ty:=ty) w t e i E.und hinf g n c cur hg ⟨b,o,none⟩ m c' news hl hcell (by assumption) hroom hfit;rw [hrun] at hr;injection hr with h1 h2
     injection h1 with h1
     injection h1 with h1
     exact⟨_,rfl,by rw [h1]⟩
    ·have holds:∀j u,xs[j]?=some u→w.cell? ((⟨g,0,none⟩:Addr).add j)=some u:=World.ownsRow.cells h (g:=g) rfl;have hr:=run_append_grow (P:=P) w t ty e i z E.und hinf hz ⟨g,0,none⟩ n c xs h.1 holds ⟨b,o,none⟩ m c' news hl hcell (by omega) (by simp only [maxLen] at h63;omega) (growslice_fits (by omega) hbytes);rw [hrun] at hr;injection hr with h1 h2
     injection h1 with h1
     injection h1 with h1
     rw [h1] at hlt;exact absurd hlt (by show ¬w.heap.size<w.heap.size;omega)
  ·exact .inr hge
theorem l_c {t e:TypeId} {z:Value} {size bytes:Nat} (E:ElemT P t e z size bytes) (hsz:size≤16777216) {w:World} {K:Value→World→Prop} {B:Nat}
  {p:Option Addr} {n c:Nat} {xs:List Value} (h:Sl w B e size p n c xs) (hB:B≤w.heap.size) {v:Value} (hv:v.cells.size=size) (h1:∀u∈v.cells.toList,u.oneCell'=true)
  (h63:n+1≤maxLen) (hbytes:(n+1)*bytes≤140737488355328)
  (k:∀p' c' w',Sl w' B e size p' (n+1) c' (xs++v.cells.toList)→Fr (On p) w w'→(∀b,On p' b→On p b∨w.heap.size≤b)→K (.slice p' (n+1) c') w') :
  RunV P (Instr.buildSlice t 1 #[(0,v)]) w fun v1 w1=>t_ v1 fun q m d=>RunV P (Builtin.append_ #[t,t] t #[.slice p n c,.slice q m d]) w1 K:=by
 refine RunV.build1 E hsz hv fun w1 hw1 hf1 hs1=>?_;rw [AsSl_slice];have hp:∀b,On p b→¬(fun _:Nat=>False) b:=fun _ _ h=>h;refine J_b E (h.fr hf1 hp) (Nat.le_trans hB hf1.size) (news:=v.cells.toList) (fun j u hj=>by rw [Nat.zero_add,hw1.cell];exact hj) (by simp [hv]) h1 h63 hbytes fun p' c' w' h2 hf2 hon=>?_;refine k p' c' w' h2 ⟨hf2.os.trans hf1.os,hf2.output.trans hf1.output,hf2.tape.trans hf1.tape,Nat.le_trans hf1.size hf2.size,fun b hb hn=>(hf2.block b (Nat.lt_of_lt_of_le hb hf1.size) hn).trans (hf1.block b hb fun h=>h)⟩ fun b hb=>?_;rcases hon b hb with h|h
 ·exact .inl h
 ·exact .inr (by omega)
/-- the usual rewriting rules, in one -/
theorem sb_:(∀{w:World} {a:Addr} {K:Value→Prop},Ld w.drew a K↔Ld w a K)∧(∀{b o n:Nat},at0 ⟨b,o,none⟩ n=⟨b,o+n,none⟩)∧(∀{a:Value} {l:List Value},(a :: l)[0]?=some a)∧(∀{a:Value} {l:List Value} {n:Nat},(a :: l)[n+1]?=l[n]?) ∧
  (∀{a b:Value},(some a=some b)=(a=b))∧(∀{p:Value→Prop} {a:Value},(∃x,a=x∧p x)↔p a)∧(∀{k:IntKind} {x:Int} {K:Int→Prop},AsI k (.int k x) K↔K x)∧(∀{x:Bool} {K:Bool→Prop},AsB (.bool x) K↔K x) ∧
  (∀{x:Option Addr} {K:Option Addr→Prop},AsP (.pointer x) K↔K x)∧(∀{a:Option Addr} {n c:Nat} {K:Option Addr→Nat→Nat→Prop},t_ (.slice a n c) K↔K a n c)∧(∀{x:Option Nat} {K:Option Nat→Prop},AsM (.map x) K↔K x) ∧
  (∀{l:List Value} {K:List Value→Prop},I_ (.tuple l.toArray) K↔K l)∧(∀{l:List Value} {K:List Value→Prop},V_ (.agg l.toArray) K↔K l)∧(∀{v:Value} {s:List Value} {K:Value→List Value→Prop},UnC (v :: s) K↔K v s)∧(∀{K:Prop},UnN [] K↔K) ∧
  (∀{a:Addr} {K:Addr→Prop},NilP (some a) K↔K a)∧(∀n:Nat,0+n=n)∧(∀n:Nat,n*1=n) :=
 ⟨P_,H_,List.getElem?_cons_zero,List.getElem?_cons_succ,Option.some.injEq _ _,exists_eq_left',AsI_int,AsB_bool,AsP_pointer,AsSl_slice,AsM_map,F_,AsAgg_agg,UnC_cons,UnN_nil,G_,Nat.zero_add,Nat.mul_one⟩
end Go.Sh
namespace Go.Fr
end Go.Fr
namespace Go.Proofs.YtmgjicnipgdjhaaGreatDoor
open Go Go.Sh Go.Fr
theorem E55:ElemT prog 47 68 (.agg #[.int .i64 0,.int .i64 0]) 2 16:=⟨by kernel_rfl,by kernel_rfl,rfl,by decide⟩
theorem E38:ElemT prog 70 3 (.int .i64 0) 1 8:=⟨by kernel_rfl,by kernel_rfl,rfl,by decide⟩
end Go.Proofs.YtmgjicnipgdjhaaGreatDoor
namespace Go.Sh
variable {P:Program}
theorem i_a {p:Option Addr} {c size:Nat}:S_ p 0 c size=p:=by
 unfold S_;split
 ·rfl
 ·rw [Nat.zero_mul];cases p<;>rfl
def SrcOk (w:World) (size:Nat) (q:Option Addr) (m c:Nat) (news:List Value):Prop :=
 news.length=m*size∧((q=none∧m=0∧c=0)∨∃b o,q=some ⟨b,o,none⟩∧∀j u,news[j]?=some u→w.cell? ⟨b,o+j,none⟩=some u)
section
variable {w w':World} {B:Nat} {e:TypeId} {size n c:Nat} {p:Option Addr} {xs:List Value}
theorem Sl.src (h:Sl w B e size p n c xs):SrcOk w size p n c xs:=by
 refine⟨h.len,?_⟩;rcases h.cases with ⟨h1,h2,h3,_⟩|⟨g,sp,hp,_,hh,_⟩
 ·exact .inl ⟨h1,h2,h3⟩
 ·refine .inr ⟨g,0,hp,fun j u hj=>?_⟩;rw [Nat.zero_add,hh.cell,List.getElem?_append_left (List.getElem?_eq_some_iff.1 hj).1,hj]
theorem Sl.src_sub (h:Sl w B e size p n c xs) {lo hi:Nat} (hlo:lo≤hi) (hhi:hi≤n):SrcOk w size (S_ p lo c size) (hi-lo) (c-lo) ((xs.drop (lo*size)).take ((hi-lo)*size)):=by
 have hlen:=h.len;have h1:hi*size≤n*size:=Nat.mul_le_mul_right _ hhi;have h2:(hi-lo)*size=hi*size-lo*size:=Nat.sub_mul _ _ _;refine⟨by simp [hlen,h2];omega,?_⟩;rcases h.cases with ⟨rfl,rfl,rfl,_⟩|⟨g,sp,rfl,_,hh,hnc,_⟩
 ·exact .inl ⟨by unfold S_;split<;>rfl,by omega,by omega⟩
 ·by_cases hc:c=lo
  ·refine .inr ⟨g,0,by unfold S_;rw [if_pos hc],fun j u hj=>?_⟩;have:hi-lo=0:=by omega
   rw [this] at hj;simp at hj
  ·refine .inr ⟨g,lo*size,by unfold S_;rw [if_neg hc];simp [H_],fun j u hj=>?_⟩;rw [List.getElem?_take] at hj;split at hj
   ·rw [List.getElem?_drop] at hj;rw [hh.cell,List.getElem?_append_left (List.getElem?_eq_some_iff.1 hj).1,hj]
   ·cases hj
theorem Sl.pre (h:Sl w B e size p n c xs) {i:Nat} (hi:i≤n):Sl w B e size p i c (xs.take (i*size)):=by
 have h1:i*size≤n*size:=Nat.mul_le_mul_right _ hi;refine⟨by rw [List.length_take,h.len];omega,?_⟩;rcases h.2 with ⟨h0,h2⟩|⟨g,cap,cur,hv,hb,hg,hnc,hcm,hcs,ht⟩
 ·injection h0 with h0 _ h3;subst h0 h3;exact .inl ⟨by rw [show i=0 by omega],by omega⟩
 ·injection hv with h1 h2 h3;subst h1 h3
  refine .inr ⟨g,c,cur,rfl,hb,hg,by omega,hcm,hcs,?_⟩;rw [←ht,List.take_take,Nat.min_eq_left (by assumption)]
theorem Sl.set (h:Sl w B e size p n c xs) {g i:Nat} (hp:p=some ⟨g,0,none⟩) {v:Value} (hi:i<xs.length):Sl (w.setCell ⟨g,i,none⟩ v) B e size p n c (xs.set i v):=by
 refine⟨by simp [h.len],?_⟩;rcases h.2 with ⟨h0,h2⟩|⟨g',cap,cur,hv,hb,hg,hnc,hcm,hcs,ht⟩
 ·injection h0 with h0;rw [h0] at hp;cases hp
 ·injection hv with h1 h2 h3
  rw [h1] at hp;injection hp with hp;injection hp with hp;subst hp
  refine .inr ⟨g',cap,cur.setIfInBounds i v,by rw [h1,h3],hb,?_,hnc,hcm,by simpa using hcs,?_⟩
  ·simp only [World.setCell,Array.getElem?_modify,hg];simp
  ·rw [←ht,Array.toList_setIfInBounds];rw [List.take_set]
theorem Sl.st (h:Sl w B e size p n c xs) {g i:Nat} (hp:p=some ⟨g,0,none⟩) {v:Value} (hi:i<xs.length) (h1:v.oneCell'=true) {K:World→Prop}
  (k:∀w',Sl w' B e size p n c (xs.set i v)→Fr (On p) w w'→w'.heap.size=w.heap.size→K w'):St w ⟨g,i,none⟩ v K:=by
 obtain⟨b,o,hb,hc⟩:=h.rd i _ (List.getElem?_eq_getElem hi);rw [hp] at hb;injection hb with hb;injection hb with hb1 hb2;subst hb1 hb2
 rw [Nat.zero_add] at hc;have hfz:w.frozen? ⟨g,i,none⟩=false:=by
  rcases h.cases with ⟨h0,_⟩|⟨g',sp,h0,_,hh,_⟩
  ·rw [h0] at hp;cases hp
  ·rw [h0] at hp;injection hp with hp;injection hp with hp;subst hp;exact hh.frozen
 refine⟨⟨_,hc⟩,hfz,h1,k _ (h.set hp hi) ⟨rfl,rfl,rfl,by rw [P_b];exact Nat.le_refl _,fun b _ hn=>I_e _ _ _ _ fun e=>hn ?_⟩ (P_b _ _ _)⟩;exact⟨_,hp,e.symm⟩
end
theorem Sl.le {w:World} {B:Nat} {e:TypeId} {size n c:Nat} {p:Option Addr} {xs:List Value} (h:Sl w B e size p n c xs):n≤c:=by
 rcases h.cases with ⟨_,h1,h2,_⟩|⟨g,sp,_,_,_,h,_⟩<;>omega
theorem F_b {t e ty:TypeId} {z:Value} {size bytes:Nat} (E:ElemT P t e z size bytes) {w:World} {K:Value→World→Prop} {B:Nat}
  {p:Option Addr} {n c:Nat} {xs:List Value} (h:Sl w B e size p n c xs) (hB:B≤w.heap.size)
  {q:Option Addr} {m c':Nat} {news:List Value} (hs:SrcOk w size q m c' news) (h1:∀u∈news,u.oneCell'=true)
  (h63:n+m≤maxLen) (hbytes:(n+m)*bytes≤140737488355328)
  (k:∀p' c' w',Sl w' B e size p' (n+m) c' (xs++news)→Fr (On p) w w'→(∀b,On p' b→On p b∨w.heap.size≤b)→K (.slice p' (n+m) c') w') :
  RunV P (Builtin.append_ #[t,t] ty #[.slice p n c,.slice q m c']) w K:=by
 rcases hs.2 with ⟨rfl,rfl,rfl⟩|⟨b,o,rfl,hx⟩
 ·have hn:news=[]:=by have:=hs.1;simpa using this
  subst hn;have hi:=E.info;cases hinf:P.info? e with
  | none=>rw [hinf] at hi;cases hi
  | some i =>
   rw [hinf] at hi;simp only [Option.map_some,Option.some.injEq,Prod.mk.injEq] at hi;refine⟨_,_,run_append_owned_none (ty:=ty) w B t e i size E.und hinf (.slice p n c) n xs h,?_⟩;have:=k p c w (by simpa using h) (Fr.refl _ _) (fun b hb=>.inl hb);simpa using this
 ·exact J_b E h hB hx hs.1 h1 h63 hbytes k
theorem make_sl {t e:TypeId} {z:Value} {size bytes:Nat} (E:ElemT P t e z size bytes) {w:World} {K:Value→World→Prop} (B:Nat) (hB:B≤w.heap.size) (c:Nat) (hc:c≤maxLen) (hbytes:bytes*c≤281474976710656)
  (k:∀p w',Sl w' B e size p 0 c []→Fr0 w w'→(∀b,On p b→w.heap.size≤b)→K (.slice p 0 c) w') :
  RunV P (Instr.makeSlice t (.int .i64 0) (.int .i64 (c:Int))) w K:=by
 have hi:=E.info;cases hinf:P.info? e with
 | none=>rw [hinf] at hi;cases hi
 | some i =>
  rw [hinf] at hi;simp only [Option.map_some,Option.some.injEq,Prod.mk.injEq] at hi;obtain⟨hz,hs,hb⟩:=hi;obtain⟨w',hrun,how,hgr⟩:=run_make_own (P:=P) w B t e i z size E.und hinf hz hs .i64 .i64 c (by rw [hb];exact hbytes) hc hB;refine⟨_,w',hrun,k _ w' how ⟨hgr.os,hgr.output,hgr.tape,hgr.size,fun b hb _=>hgr.block b hb (by simp)⟩ ?_⟩;rintro b ⟨a,ha,rfl⟩;injection ha with ha;subst ha;exact Nat.le_refl _
theorem k_b {α:Type} {g:α→List Value} {size:Nat} (hg:∀x,(g x).length=size) (l:List α):(l.flatMap g).length=l.length*size:=by
 induction l with
 | nil=>simp
 | cons x r ih=>simp [List.flatMap_cons,ih,hg,Nat.add_mul,Nat.add_comm]
theorem l_b {α:Type} {g:α→List Value} {size:Nat} (hg:∀x,(g x).length=size):∀(l:List α) (i j:Nat),j<size→∀x,l[i]?=some x→(l.flatMap g)[i*size+j]?=(g x)[j]?
 | [],i,j,_,x,hx=>by simp at hx
 | y :: r,0,j,hj,x,hx=>by
  simp at hx;subst hx;rw [List.flatMap_cons,Nat.zero_mul,Nat.zero_add,List.getElem?_append_left (by rw [hg];exact hj)]
 | y :: r,i+1,j,hj,x,hx=>by
  simp only [List.getElem?_cons_succ] at hx;rw [List.flatMap_cons,List.getElem?_append_right (by rw [hg,Nat.add_mul];omega),hg];rw [show (i+1)*size+j-size=i*size+j by rw [Nat.add_mul];omega];exact l_b hg r i j hj x hx
theorem H_g {α:Type} {g:α→List Value} {size:Nat} (hg:∀x,(g x).length=size) {v:Value}:∀(l:List α) (i j:Nat),j<size→∀x y,l[i]?=some x→g y=(g x).set j v→(l.flatMap g).set (i*size+j) v=(l.set i y).flatMap g
 | [],i,j,_,x,y,hx,_=>by simp at hx
 | a :: r,0,j,hj,x,y,hx,hy=>by
  simp at hx;subst hx;rw [List.flatMap_cons,Nat.zero_mul,Nat.zero_add,List.set_append_left _ _ (by rw [hg];exact hj),List.set_cons_zero,List.flatMap_cons,hy]
 | a :: r,i+1,j,hj,x,y,hx,hy=>by
  simp only [List.getElem?_cons_succ] at hx;rw [List.flatMap_cons,List.set_append_right _ _ (by rw [hg,Nat.add_mul];omega),hg];rw [show (i+1)*size+j-size=i*size+j by rw [Nat.add_mul];omega];rw [H_g hg r i j hj x y hx hy,List.set_cons_succ,List.flatMap_cons]
theorem H_c {α:Type} {g:α→List Value} {size:Nat} (hg:∀x,(g x).length=size):∀(l:List α) (i:Nat),(l.flatMap g).take (i*size)=(l.take i).flatMap g
 | [],i=>by simp
 | a :: r,0=>by simp
 | a :: r,i+1=>by
  rw [List.flatMap_cons,List.take_append,hg,List.take_succ_cons,List.flatMap_cons,List.take_of_length_le (by rw [hg,Nat.add_mul];omega)];rw [show (i+1)*size-size=i*size by rw [Nat.add_mul];omega,H_c hg r i]
theorem I_c {α:Type} {g:α→List Value} {size:Nat} (hg:∀x,(g x).length=size):∀(l:List α) (i:Nat),(l.flatMap g).drop (i*size)=(l.drop i).flatMap g
 | [],i=>by simp
 | a :: r,0=>by simp
 | a :: r,i+1=>by
  rw [List.flatMap_cons,List.drop_append,hg,List.drop_succ_cons,List.drop_of_length_le (by rw [hg,Nat.add_mul];omega)];rw [show (i+1)*size-size=i*size by rw [Nat.add_mul];omega,I_c hg r i,List.nil_append]
end Go.Sh
namespace Go.Proofs.YtmgjicnipgdjhaaGreatDoor
open Go Go.Sh Go.Fr
structure Qr where
 f:Nat
 u:Nat→Bool
def Qr.set (q:Qr) (k:Nat) (v:Bool):Qr:=⟨q.f,fun j=>if j=k then v else q.u j⟩
def Qr.new (f:Nat):Qr:=⟨f,fun k=>decide (k=0)⟩
def Qr.tabs (q:Qr) (k:Nat):List Nat:=((List.range k).filter q.u).map fun k=>4*q.f+k
def tabs (l:List Qr):List Nat:=l.flatMap fun q=>q.tabs 4
def F_d (q:Qr):List Value:=[.int .i64 ((q.f:Nat):Int),.bool (q.u 0),.bool (q.u 1),.bool (q.u 2),.bool (q.u 3)]
def k_ (l:List Qr):List Value:=l.flatMap F_d
def i_h (l:List Nat):List Value:=l.map fun n=>Value.int .i64 ((n:Nat):Int)
structure SlabOk (l:List Qr):Prop where
 lt:∀q∈l,q.f<268435456
 rise:l.Pairwise fun a b=>a.f<b.f
 any:∀q∈l,∃k,k<4∧q.u k=true
structure SlabAt (w:World) (s b:Nat) (g:Option Addr) (c:Nat) (l:List Qr):Prop where
 st:Has w s [.pointer (some ⟨b,0,none⟩),.slice g l.length c]
 sl:Sl w 0 222 5 g l.length c (k_ l)
 ne:¬On g s
 ok:SlabOk l
theorem E78:ElemT prog 217 222 (.agg #[.int .i64 0,.bool false,.bool false,.bool false,.bool false]) 5 16:=⟨by kernel_rfl,by kernel_rfl,rfl,by decide⟩
theorem SlabAt.fr {S:Nat→Prop} {w w':World} {s b c:Nat} {g:Option Addr} {l:List Qr} (h:SlabAt w s b g c l) (f:Fr S w w') (h1:¬S s) (h2:∀x,On g x→¬S x):SlabAt w' s b g c l :=
 ⟨h.st.fr f h1,h.sl.fr f h2,h.ne,h.ok⟩
theorem SlabAt.fr0 {w w':World} {s b c:Nat} {g:Option Addr} {l:List Qr} (h:SlabAt w s b g c l) (f:Fr0 w w'):SlabAt w' s b g c l:=h.fr f (fun h=>h) fun _ _ h=>h
theorem SlabAt.qt {w w':World} {s b c:Nat} {g:Option Addr} {l:List Qr} (h:SlabAt w s b g c l) (f:Qt w w'):SlabAt w' s b g c l:=h.fr0 f.fr
theorem S_f (q:Qr):(F_d q).length=5:=rfl
theorem E_d {l:List Qr} {i:Nat} {q:Qr} (h:l[i]?=some q) (sp:List Value) (j:Nat) (hj:j<5):(k_ l++sp)[i*5+j]?=(F_d q)[j]?:=by
 rw [List.getElem?_append_left (by rw [k_,k_b S_f];have:=(List.getElem?_eq_some_iff.1 h).1;omega)];exact l_b S_f l i j hj q h
theorem b_f {l:List Qr} {i:Nat} {q:Qr} (h:l[i]?=some q) (sp:List Value):(k_ l++sp)[i*5]?=some (.int .i64 ((q.f:Nat):Int)):=E_d h sp 0 (by decide)
theorem q_getk {l:List Qr} {i:Nat} {q:Qr} (h:l[i]?=some q) (sp:List Value) (k:Nat) (hk:k<4):(k_ l++sp)[i*5+1+k]?=some (.bool (q.u k)):=by
 rw [Nat.add_assoc,E_d h sp (1+k) (by omega)];rcases k with _|_|_|_|k
 ·rfl
 ·rfl
 ·rfl
 ·rfl
 ·omega
theorem E_i:∀{l:List Qr} {m N:Nat},(∀q∈l,m≤q.f∧q.f<N)→l.Pairwise (fun a b=>a.f<b.f)→l.length≤N-m
 | [],m,N,_,_=>by simp
 | q :: r,m,N,h,hp=>by
  have h1:=h q (by simp);obtain⟨h2,h3⟩:=List.pairwise_cons.1 hp;have:=E_i (l:=r) (m:=q.f+1) (N:=N) (fun x hx=>⟨h2 x hx,(h x (by simp [hx])).2⟩) h3;simp only [List.length_cons];omega
theorem SlabOk.len {l:List Qr} (h:SlabOk l):l.length≤268435456:=E_i (fun q hq=>⟨Nat.zero_le _,h.lt q hq⟩) h.rise
theorem f119 {w:World} {s b c:Nat} {g:Option Addr} {l:List Qr} (hS:SlabAt w s b g c l) :
  Ret prog 119 #[.pointer (some ⟨s,0,none⟩)] w fun v w'=>∃q d,v=.slice q l.length d∧Sl w' w.heap.size 3 1 q l.length d (i_h (l.map Qr.f))∧Fr0 w w':=by
 have hN:=hS.ok.len;refine F119_of ?_;unfold F119;try dsimp only [i_i,S_5,Uis,lb_,li_,ls_,ui_,us_]
 simp only [H_,Nat.zero_add];refine hS.st.ld rfl ?_;rw [AsSl_slice];refine Loop.by (fun s w'=>∃(i:Nat) (q:Option Addr) (d:Nat),s=[.int .i64 (i:Int),.slice q i d]∧i≤l.length∧Sl w' w.heap.size 3 1 q i d (i_h ((l.take i).map Qr.f))∧Fr0 w w')
  (fun s _=>match s with | [.int _ k,_]=>l.length-k.toNat|_=>0)
  ⟨0,none,0,rfl,by omega,Sl.nil _ _ _ _,Fr.refl _ _⟩ ?_
 rintro _ w1 ⟨i,q,d,rfl,hi,hsl,hf⟩;simp only [UnC_cons,UnN_nil,AsI_int,AsSl_slice];refine C_ (fun hlt=>?_) (fun hge=>?_)
 ·have hil:i<l.length:=by omega
  obtain⟨x,hx⟩:∃x,l[i]?=some x:=⟨_,List.getElem?_eq_getElem hil⟩;have hxm:x∈l:=List.mem_of_getElem? hx;obtain⟨gb,sp,rfl,_,hh⟩:=(hS.sl.fr0 hf).some_ (by omega);simp only [G_,H_,Nat.zero_add,Int.toNat_natCast];refine⟨by omega,by omega,?_⟩;refine hh.ld (b_f hx sp) ?_;rw [AsI_int];refine hh.ld (E_d hx sp 1 (by decide)) ?_;rw [AsB_bool];refine hh.ld (E_d hx sp 2 (by decide)) ?_;rw [AsB_bool];refine hh.ld (E_d hx sp 3 (by decide)) ?_;rw [AsB_bool];refine hh.ld (E_d hx sp 4 (by decide)) ?_;rw [AsB_bool];refine New.mk fun w2 n2 f2 s2=>?_;simp only [H_,Nat.zero_add];refine n2.st (by simp) rfl fun w3 n3 f3 s3=>?_;refine n3.st (by simp) rfl fun w4 n4 f4 s4=>?_;refine n4.st (by simp) rfl fun w5 n5 f5 s5=>?_;refine n5.st (by simp) rfl fun w6 n6 f6 s6=>?_;refine n6.st (by simp) rfl fun w7 n7 f7 s7=>?_;refine n7.ld rfl ?_;rw [AsI_int];have hf7:Fr0 w1 w7:=(((((f2.mono fun _ _ h=>h.elim).trans f3).trans f4).trans f5).trans f6 |>.trans f7).mono fun x hx h=>by omega
  refine l_c E38 (by decide) (hsl.fr0 hf7) (by have:=hf.size;have:=hf7.size;omega) rfl (by intro u hu;simp [Value.cells] at hu;subst hu;rfl) (by simp only [maxLen];omega) (by omega) ?_;intro p' c' w8 hsl8 hf8 hon8;rw [AsSl_slice,w64 (n:=(i:Int)+1) (by omega) (by omega)];refine⟨⟨i+1,p',c',rfl,by omega,?_,(hf.trans hf7).own hf8 (fun b hb hlt=>by have:=(hsl.lt b hb).1;omega)⟩,?_⟩
  ·have e:i_h ((l.take (i+1)).map Qr.f)=i_h ((l.take i).map Qr.f)++[.int .i64 ((x.f:Nat):Int)]:=by
    rw [List.take_add_one,hx];simp [i_h]
   rw [e];exact hsl8
  ·show l.length-((i:Int)+1).toNat<l.length-(i:Int).toNat;omega
 ·obtain rfl:i=l.length:=by omega
  rw [List.take_length] at hsl;exact⟨q,d,rfl,hsl,hf⟩
theorem Qr.tabs_len (q:Qr) (k:Nat):(q.tabs k).length≤k:=by
 unfold Qr.tabs;rw [List.length_map];have:=List.length_filter_le q.u (List.range k);simpa using this
theorem tabs_len:∀(l:List Qr),(tabs l).length≤4*l.length
 | []=>by simp [tabs]
 | q :: r=>by
  have h1:=tabs_len r;have h2:=q.tabs_len 4;simp only [tabs,List.flatMap_cons,List.length_append,List.length_cons] at *;omega
theorem Qr.tabs_succ (q:Qr) (k:Nat):q.tabs (k+1)=q.tabs k++(if q.u k then [4*q.f+k] else []):=by
 unfold Qr.tabs;rw [List.range_succ,List.filter_append,List.map_append]
 congr 1
 by_cases h:q.u k<;>simp [h]
theorem g_g {l:List Qr} {i:Nat} {x:Qr} (h:l[i]?=some x):tabs (l.take (i+1))=tabs (l.take i)++x.tabs 4:=by
 rw [List.take_add_one,h];simp [tabs,List.flatMap_append]
theorem f59 {w:World} {s b c:Nat} {g:Option Addr} {l:List Qr} (hS:SlabAt w s b g c l) :
  Ret prog 59 #[.pointer (some ⟨s,0,none⟩)] w fun v w'=>∃q d,v=.slice q (tabs l).length d∧Sl w' w.heap.size 3 1 q (tabs l).length d (i_h (tabs l))∧Fr0 w w':=by
 have hN:=hS.ok.len;refine F59_of ?_;unfold F59;try dsimp only [Lbbbb,i_i,S_5,Uis,lb_,li_,ls_,ui_,us_]
 simp only [H_,Nat.zero_add];refine hS.st.ld rfl ?_;rw [AsSl_slice];refine Loop.by (fun s w'=>∃(i:Nat) (q:Option Addr) (d:Nat),s=[.int .i64 (i:Int),.slice q (tabs (l.take i)).length d]∧i≤l.length∧Sl w' w.heap.size 3 1 q (tabs (l.take i)).length d (i_h (tabs (l.take i)))∧Fr0 w w')
  (fun s _=>match s with | [.int _ k,_]=>l.length-k.toNat|_=>0)
  ⟨0,none,0,rfl,by omega,Sl.nil _ _ _ _,Fr.refl _ _⟩ ?_
 rintro _ w1 ⟨i,q,d,rfl,hi,hsl,hf⟩;simp only [UnC_cons,UnN_nil,AsI_int,AsSl_slice];refine C_ (fun hlt=>?_) (fun hge=>?_)
 ·have hil:i<l.length:=by omega
  obtain⟨x,hx⟩:∃x,l[i]?=some x:=⟨_,List.getElem?_eq_getElem hil⟩;have hxm:x∈l:=List.mem_of_getElem? hx;have hxf:=hS.ok.lt x hxm;obtain⟨gb,sp,rfl,_,hh⟩:=(hS.sl.fr0 hf).some_ (by omega);simp only [G_,H_,Nat.zero_add,Int.toNat_natCast];refine⟨by omega,by omega,?_⟩;refine hh.ld (b_f hx sp) ?_;rw [AsI_int];refine hh.ld (E_d hx sp 1 (by decide)) ?_;rw [AsB_bool];refine hh.ld (E_d hx sp 2 (by decide)) ?_;rw [AsB_bool];refine hh.ld (E_d hx sp 3 (by decide)) ?_;rw [AsB_bool];refine hh.ld (E_d hx sp 4 (by decide)) ?_;rw [AsB_bool];refine New.mk fun w2 n2 f2 s2=>?_;simp only [H_,Nat.zero_add];refine n2.st (by simp) rfl fun w3 n3 f3 s3=>?_;refine n3.st (by simp) rfl fun w4 n4 f4 s4=>?_;refine n4.st (by simp) rfl fun w5 n5 f5 s5=>?_;refine n5.st (by simp) rfl fun w6 n6 f6 s6=>?_;refine n6.st (by simp) rfl fun w7 n7 f7 s7=>?_
  replace n7:Has w7 w1.heap.size (F_d x):=n7
  refine n7.ld rfl ?_;rw [AsB_bool];refine n7.ld rfl ?_;rw [AsB_bool];refine n7.ld rfl ?_;rw [AsB_bool];refine n7.ld rfl ?_;rw [AsB_bool];have hf7:Fr0 w1 w7:=(((((f2.mono fun _ _ h=>h.elim).trans f3).trans f4).trans f5).trans f6 |>.trans f7).mono fun x hx h=>by omega
  have hsz7:w1.heap.size<w7.heap.size:=by omega
  have htl:=tabs_len (l.take i);rw [List.length_take,Nat.min_eq_left (by omega)] at htl;refine Loop.by (fun s w'=>∃(k:Nat) (q:Option Addr) (d:Nat),s=[.int .i64 (k:Int),.slice q (tabs (l.take i)++x.tabs k).length d]∧k≤4∧Sl w' w.heap.size 3 1 q (tabs (l.take i)++x.tabs k).length d (i_h (tabs (l.take i)++x.tabs k))∧Fr0 w w' ∧
    Has w' w1.heap.size (F_d x)∧¬On q w1.heap.size∧w1.heap.size<w'.heap.size)
   (fun s _=>match s with | [.int _ k,_]=>4-k.toNat|_=>0)
   ⟨0,q,d,by simp [Qr.tabs],by omega,by simpa [Qr.tabs] using hsl.fr0 hf7,hf.trans hf7,n7,fun h=>by have:=(hsl.lt _ h).2;omega,hsz7⟩ ?_
  rintro _ w8 ⟨k,q1,d1,rfl,hk,hsl1,hf1,hn1,hon1,hsz1⟩;simp only [UnC_cons,UnN_nil,AsI_int,AsSl_slice];have hkl:=x.tabs_len k;refine C_ (fun hlt=>?_) (fun hge=>?_)
  ·have hk4:k<4:=by omega
   refine Join.triv ?_;simp only [Int.toNat_natCast,Nat.mul_one];refine⟨by omega,by omega,.bool (x.u k),?_,?_⟩
   ·rcases k with _|_|_|_|k
    ·rfl
    ·rfl
    ·rfl
    ·rfl
    ·omega
   rw [AsB_bool];refine w_ (fun hu=>?_) (fun hu=>?_)
   ·refine hn1.ld rfl ?_;rw [AsI_int,w64 (n:=(4:Int)*((x.f:Nat):Int)) (by omega) (by omega),w64 (n:=(4:Int)*((x.f:Nat):Int)+(k:Int)) (by omega) (by omega)];refine l_c E38 (by decide) hsl1 hf1.size rfl (by intro u hu;simp [Value.cells] at hu;subst hu;rfl) (by simp only [maxLen,List.length_append];omega) (by simp only [List.length_append];omega) ?_;intro p' c' w9 hsl9 hf9 hon9;simp only [UnC_cons,UnN_nil,AsSl_slice];rw [w64 (n:=(k:Int)+1) (by omega) (by omega)];have e:tabs (l.take i)++x.tabs (k+1)=(tabs (l.take i)++x.tabs k)++[4*x.f+k]:=by rw [x.tabs_succ,if_pos hu,List.append_assoc]
    refine⟨⟨k+1,p',c',by rw [e];simp [Nat.add_assoc],by omega,?_,hf1.own hf9 (fun b hb hlt=>by have:=(hsl1.lt b hb).1;omega),hn1.fr hf9 hon1,?_,by have:=hf9.size;omega⟩,?_⟩
    ·rw [e,List.length_append];have:i_h ((tabs (l.take i)++x.tabs k)++[4*x.f+k])=i_h (tabs (l.take i)++x.tabs k)++[.int .i64 (4*((x.f:Nat):Int)+((k:Nat):Int))]:=by simp [i_h]
     rw [this];exact hsl9
    ·intro h;rcases hon9 _ h with h|h
     ·exact hon1 h
     ·omega
    ·show 4-((k:Int)+1).toNat<4-(k:Int).toNat;omega
   ·simp only [UnC_cons,UnN_nil,AsSl_slice];rw [w64 (n:=(k:Int)+1) (by omega) (by omega)];have e:tabs (l.take i)++x.tabs (k+1)=(tabs (l.take i)++x.tabs k):=by rw [x.tabs_succ,hu];simp
    refine⟨⟨k+1,q1,d1,by rw [e];rfl,by omega,by rw [e];exact hsl1,hf1,hn1,hon1,hsz1⟩,?_⟩;show 4-((k:Int)+1).toNat<4-(k:Int).toNat;omega
  ·obtain rfl:k=4:=by omega
   rw [w64 (n:=(i:Int)+1) (by omega) (by omega)];refine⟨⟨i+1,q1,d1,by rw [g_g hx];rfl,by omega,by rw [g_g hx];exact hsl1,hf1⟩,?_⟩;show l.length-((i:Int)+1).toNat<l.length-(i:Int).toNat;omega
 ·obtain rfl:i=l.length:=by omega
  rw [List.take_length] at hsl ⊢;exact⟨q,d,rfl,hsl,hf⟩
open Go.IntKind (i64 u64 u32)
theorem y_j {l:List Qr}:∀u∈k_ l,u.oneCell'=true:=by
 intro u hu;obtain⟨q,_,hq⟩:=List.mem_flatMap.1 hu;simp only [F_d,List.mem_cons,List.not_mem_nil,or_false] at hq;rcases hq with rfl|rfl|rfl|rfl|rfl<;>rfl
def insq (f:Nat):List Qr→List Qr
 | []=>[Qr.new f]
 | q :: r=>if q.f<f then q :: insq f r else Qr.new f :: q :: r
theorem U_k (f:Nat):∀(l:List Qr) (k:Nat),(∀q∈l.take k,q.f<f)→(∀q,l[k]?=some q→¬q.f<f)→k≤l.length→insq f l=l.take k++Qr.new f :: l.drop k
 | [],k,_,_,hk=>by simp at hk;subst hk;rfl
 | q :: r,0,_,h,_=>by
  have:=h q (by simp);simp [insq,this]
 | q :: r,k+1,h1,h2,hk=>by
  have h3:=h1 q (by simp);have:=U_k f r k (fun x hx=>h1 x (by simp [hx])) (fun x hx=>h2 x (by simpa using hx)) (by simpa using hk);simp [insq,h3,this]
theorem l_g {f:Nat}:∀{l:List Qr} {k:Nat},l.Pairwise (fun a b=>a.f<b.f)→(∀q,l[k]?=some q→f<q.f)→∀q∈l.drop k,f<q.f
 | [],k,_,_,q,hq=>by simp at hq
 | x :: r,0,hp,h,q,hq=>by
  have h0:=h x (by simp);simp at hq;rcases hq with rfl|hq
  ·exact h0
  ·have:=(List.pairwise_cons.1 hp).1 q hq;omega
 | x :: r,k+1,hp,h,q,hq=>l_g (List.pairwise_cons.1 hp).2 (fun y hy=>h y (by simpa using hy)) q (by simpa using hq)
theorem SlabOk.ins {l:List Qr} (h:SlabOk l) {f k:Nat} (hf:f<268435456) (h1:∀q∈l.take k,q.f<f) (h2:∀q∈l.drop k,f<q.f):SlabOk (l.take k++Qr.new f :: l.drop k):=by
 refine⟨fun q hq=>?_,?_,fun q hq=>?_⟩
 ·simp only [List.mem_append,List.mem_cons] at hq;rcases hq with hq|rfl|hq
  ·exact h.lt q (List.mem_of_mem_take hq)
  ·exact hf
  ·exact h.lt q (List.mem_of_mem_drop hq)
 ·rw [List.pairwise_append];refine⟨h.rise.sublist (List.take_sublist _ _),List.pairwise_cons.2 ⟨h2,h.rise.sublist (List.drop_sublist _ _)⟩,fun a ha b hb=>?_⟩;have:=h1 a ha;simp only [List.mem_cons] at hb;rcases hb with rfl|hb
  ·exact this
  ·have:=h2 b hb;omega
 ·simp only [List.mem_append,List.mem_cons] at hq;rcases hq with hq|rfl|hq
  ·exact h.any q (List.mem_of_mem_take hq)
  ·exact⟨0,by decide,rfl⟩
  ·exact h.any q (List.mem_of_mem_drop hq)
def a_d (s0:Addr) (i65 i56:Int) (w62:World) (Q:Value→World→Prop):Prop :=
 Ld w62 (at0 s0 (1:Nat)) fun v115=>t_ v115 fun p116 n117 n118=>RunV prog (Instr.makeSlice (217:Nat) (.int .i64 (0:Int)) (.int .i64 (i64.wrap ((↑n117:Int)+(1:Int))))) w62 fun v119 w120=>t_ v119 fun p121 n122 n123=>Ld w120 (at0 s0 (1:Nat)) fun v124=>t_ v124 fun p125 n126 n127=>(0:Int)≤i65∧i65≤(↑n127:Int)∧RunV prog (Builtin.append_ #[(217:Nat),(217:Nat)] (217:Nat) #[Value.slice p121 n122 n123,Value.slice (S_ p125 (0:Nat) n127 (5:Nat)) (i65.toNat-(0:Nat)) (n127-(0:Nat))]) w120 fun v128 w129=>t_ v128 fun p130 n131 n132=>RunV prog (Instr.buildSlice (217:Nat) (1:Nat) #[((0:Nat),Value.agg #[.int .i64 i56,.bool true,.bool false,.bool false,.bool false])]) w129 fun v133 w134=>t_ v133 fun p135 n136 n137=>RunV prog (Builtin.append_ #[(217:Nat),(217:Nat)] (217:Nat) #[Value.slice p130 n131 n132,Value.slice p135 n136 n137]) w134 fun v138 w139=>t_ v138 fun p140 n141 n142=>Ld w139 (at0 s0 (1:Nat)) fun v143=>t_ v143 fun p144 n145 n146=>(0:Int)≤i65∧i65≤(↑n145:Int)∧RunV prog (Builtin.append_ #[(217:Nat),(217:Nat)] (217:Nat) #[Value.slice p140 n141 n142,Value.slice (S_ p144 i65.toNat n146 (5:Nat)) (n145-i65.toNat) (n146-i65.toNat)]) w139 fun v147 w148=>t_ v147 fun p149 n150 n151=>St w148 (at0 s0 (1:Nat)) (Value.slice p149 n150 n151) fun w152=>Q (Value.tuple #[.int .i64 (i64.wrap ((4:Int)*i56)),.int .i64 (0:Int)]) w152
theorem f30tail {w:World} {s b c:Nat} {g:Option Addr} {l:List Qr} (hS:SlabAt w s b g c l) (at_ f:Nat) (hat:at_≤l.length) (hlt:∀q∈l.take at_,q.f<f) (hge:∀q∈l.drop at_,f<q.f) (hf:f<268435456)
  {Q:Value→World→Prop} (k:∀g' c' w',SlabAt w' s b g' c' (l.take at_++Qr.new f :: l.drop at_)→Fr (fun x=>x=s) w w'→(∀x,On g' x→w.heap.size≤x)→Q (.tuple #[.int .i64 (4*(f:Int)),.int .i64 0]) w') :
  a_d ⟨s,0,none⟩ (at_:Int) (f:Int) w Q:=by
 have hN:=hS.ok.len;have hsl:=hS.st.lt;have hle:=hS.sl.le;unfold a_d;simp only [H_,Nat.zero_add];refine hS.st.ld rfl ?_;rw [AsSl_slice,w64 (n:=(l.length:Int)+1) (by omega) (by omega),show (l.length:Int)+1=((l.length+1:Nat):Int) by omega];refine make_sl E78 w.heap.size (Nat.le_refl _) (l.length+1) (by simp only [maxLen];omega) (by omega) fun p1 w1 sl1 f1 on1=>?_;rw [AsSl_slice];refine (hS.fr0 f1).st.ld rfl ?_;rw [AsSl_slice];refine⟨by omega,by omega,?_⟩;simp only [Int.toNat_natCast];have hx1:k_ (l.take at_)=((k_ l).drop (0*5)).take ((at_-0)*5):=by
  rw [Nat.zero_mul,List.drop_zero,Nat.sub_zero,k_,k_,H_c S_f]
 have src1:=(hS.fr0 f1).sl.src_sub (lo:=0) (hi:=at_) (by omega) hat;rw [←hx1] at src1;refine F_b E78 sl1 f1.size src1 y_j (by simp only [maxLen];omega) (by omega) fun p2 c2 w2 sl2 f2 on2=>?_;rw [AsSl_slice];have f02:Fr0 w w2:=f1.own f2 fun x hx hl=>by have:=on1 x hx;omega
 refine l_c E78 (by decide) sl2 f02.size rfl (by intro u hu;simp [Value.cells] at hu;rcases hu with rfl|rfl|rfl|rfl|rfl<;>rfl) (by simp only [maxLen];omega) (by omega) fun p3 c3 w3 sl3 f3 on3=>?_;rw [AsSl_slice];have f03:Fr0 w w3:=f02.own f3 fun x hx hl=>by have:=(sl2.lt x hx).1;omega
 refine (hS.fr0 f03).st.ld rfl ?_;rw [AsSl_slice];refine⟨by omega,by omega,?_⟩;have hx2:k_ (l.drop at_)=((k_ l).drop (at_*5)).take ((l.length-at_)*5):=by
  rw [k_,k_,I_c S_f,List.take_of_length_le (by rw [k_b S_f,List.length_drop];omega)]
 have src2:=(hS.fr0 f03).sl.src_sub (lo:=at_) (hi:=l.length) hat (Nat.le_refl _);rw [←hx2] at src2;refine F_b E78 sl3 f03.size src2 y_j (by simp only [maxLen];omega) (by omega) fun p4 c4 w4 sl4 f4 on4=>?_;rw [AsSl_slice];have f04:Fr0 w w4:=f03.own f4 fun x hx hl=>by have:=(sl3.lt x hx).1;omega
 refine (hS.fr0 f04).st.st (by simp) rfl fun w5 st5 f5 s5=>?_;have hon4:∀x,On p4 x→w.heap.size≤x:=fun x hx=>(sl4.lt x hx).1;rw [w64 (n:=(4:Int)*(f:Int)) (by omega) (by omega)];have hlen:0+(at_-0)+1+(l.length-at_)=(l.take at_++Qr.new f :: l.drop at_).length:=by
  simp only [List.length_append,List.length_take,List.length_cons,List.length_drop,Nat.min_eq_left hat];omega
 refine k p4 c4 w5 ⟨?_,?_,fun h=>by have:=hon4 _ h;omega,hS.ok.ins hf hlt hge⟩ (f04.mono (fun _ _ h=>h.elim) |>.trans f5) hon4
 ·rw [←hlen];exact st5
 ·have:=(sl4.mono (Nat.zero_le _)).fr f5 fun x hx h=>by have:=hon4 x hx;omega
  rw [←hlen];have e:k_ (l.take at_++Qr.new f :: l.drop at_)=[]++k_ (l.take at_)++[.int .i64 ((f:Nat):Int),.bool true,.bool false,.bool false,.bool false]++k_ (l.drop at_):=by
   simp [k_,F_d,Qr.new]
  rw [e];exact this
def t_c (p:Pool) (l:List Qr):Prop:=∀q∈l,p.first≤q.f∧q.f<p.first+p.u.length∧0<p.u.getD (q.f-p.first) 0
inductive STake (p:Pool) (l:List Qr):Nat→Nat→Pool→List Qr→Prop
 | old (i k:Nat) (q:Qr) (h:l[i]?=some q) (hk:k<4) (h0:q.u k=false) (h1:∀k',k'<k→q.u k'=true) (h2:∀i' q',i'<i→l[i']?=some q'→∀k',k'<4→q'.u k'=true) :
   STake p l (4*q.f+k) 0 p (l.set i (q.set k true))
 | none (h:∀q∈l,∀k,k<4→q.u k=true) (hn:∀a,¬Fit p.first p.u 1 1 a):STake p l 0 42 p l
 | fresh (h:∀q∈l,∀k,k<4→q.u k=true) (a:Nat) (hf:Fit p.first p.u 1 1 a) (hl:∀a',a'<a→¬Fit p.first p.u 1 1 a') :
   STake p l (4*(p.first+a)) 0 (p.turned a (fun _=>1) 1) (insq (p.first+a) l)
theorem G_f:¬v_a 1 1:=by
 unfold v_a;have:w_i (1:Int).toNat=true:=by decide
 rw [this];simp
theorem q_set (q:Qr) (k:Nat) (hk:k<4) (v:Bool):F_d (q.set k v)=(F_d q).set (1+k) (.bool v):=by
 rcases k with _|_|_|_|k
 ·rfl
 ·rfl
 ·rfl
 ·rfl
 ·omega
theorem n_j {l:List Qr} {i:Nat} {q y:Qr} (h:l[i]?=some q) (hy:y.f=q.f):(l.set i y).map Qr.f=l.map Qr.f:=by
 rw [List.map_set,hy]
 apply List.ext_getElem? ;intro j
 rw [List.getElem?_set];split
 ·rename_i e;subst e;have hl:=(List.getElem?_eq_some_iff.1 h).1;simp [hl,(List.getElem?_eq_some_iff.1 h).2]
 ·rfl
theorem SlabOk.of_f {l l':List Qr} (h:SlabOk l) (e:l'.map Qr.f=l.map Qr.f) (hs:∀q∈l',∃k,k<4∧q.u k=true):SlabOk l':=by
 refine⟨fun q hq=>?_,?_,hs⟩
 ·have h1:q.f∈l'.map Qr.f:=List.mem_map_of_mem hq;rw [e] at h1;obtain⟨x,hx,hx2⟩:=List.mem_map.1 h1;rw [←hx2];exact h.lt x hx
 ·have h1:(l.map Qr.f).Pairwise (·<·):=List.pairwise_map.2 h.rise;rw [←e] at h1;exact List.pairwise_map.1 h1
theorem SlabOk.set {l:List Qr} (h:SlabOk l) {i k:Nat} {q:Qr} (hq:l[i]?=some q) (hk:k<4):SlabOk (l.set i (q.set k true)):=by
 refine h.of_f (n_j hq rfl) fun x hx=>?_;rcases List.mem_or_eq_of_mem_set hx with hx|rfl
 ·exact h.any x hx
 ·exact⟨k,hk,by simp [Qr.set]⟩
def OwnS (b bu bd s:Nat) (g:Option Addr) (x:Nat):Prop:=Own b bu bd x∨x=s∨On g x
theorem f120 {w:World} {b bu bd s c:Nat} {g:Option Addr} {p:Pool} {l:List Qr} (hP:PoolAt w b bu bd p) (hT:Tz w) (hd:¬Own b bu bd 3) (hS:SlabAt w s b g c l) (hH:t_c p l)
  (hs:¬Own b bu bd s) (hg:∀x,On g x→¬Own b bu bd x) :
  Ret prog 120 #[.pointer (some ⟨s,0,none⟩)] w fun v w'=>∃(r e:Nat) (p':Pool) (l':List Qr) (g':Option Addr) (c':Nat),v=.tuple #[.int .i64 (r:Int),.int .i64 (e:Int)]∧STake p l r e p' l' ∧
   PoolAt w' b bu bd p'∧SlabAt w' s b g' c' l'∧Fr (OwnS b bu bd s g) w w'∧∀x,On g' x→On g x∨w.heap.size≤x:=by
 have hN:=hS.ok.len;have hL:=hP.ok.le;refine F120_of ?_;unfold F120;try dsimp only [Uii,O_f,lb_,li_,lp_,ls_,ui_]
 simp only [H_,Nat.zero_add];refine hS.st.ld rfl ?_;rw [AsSl_slice];refine Loop.by (fun s w'=>∃(i:Nat) (a b:Int),s=[.int .i64 (i:Int),.int .i64 a,.int .i64 b]∧i≤l.length∧w'=w∧∀i' q',i'<i→l[i']?=some q'→∀k',k'<4→q'.u k'=true)
  (fun s _=>match s with | [.int _ k,_,_]=>l.length-k.toNat|_=>0)
  ⟨0,0,0,rfl,by omega,rfl,fun i' q' h=>by omega⟩ ?_
 rintro _ _ ⟨i,a,b',rfl,hi,hw,hfull⟩;obtain rfl:=hw.symm;simp only [UnC_cons,UnN_nil,AsI_int];refine C_ (fun hlt=>?_) (fun hge=>?_)
 ·have hil:i<l.length:=by omega
  obtain⟨x,hx⟩:∃x,l[i]?=some x:=⟨_,List.getElem?_eq_getElem hil⟩;have hxf:=hS.ok.lt x (List.mem_of_getElem? hx);obtain⟨gb,sp,rfl,_,hh⟩:=hS.sl.some_ (by omega);refine Loop.by (fun s w'=>∃(k:Nat) (a b:Int),s=[.int .i64 (k:Int),.int .i64 a,.int .i64 b]∧k≤4∧w'=w∧∀k',k'<k→x.u k'=true)
   (fun s _=>match s with | [.int _ k,_,_]=>4-k.toNat|_=>0)
   ⟨0,a,b',rfl,by omega,rfl,fun k' h=>by omega⟩ ?_
  rintro _ _ ⟨k,a,b',rfl,hk,hw,hused⟩;obtain rfl:=hw.symm;simp only [UnC_cons,UnN_nil,AsI_int];refine C_ (fun hlt=>?_) (fun hge=>?_)
  ·have hk4:k<4:=by omega
   refine hS.st.ld rfl ?_;simp only [AsSl_slice,G_,H_,Nat.zero_add,Int.toNat_natCast,Nat.mul_one];refine⟨by omega,by omega,by omega,by omega,?_⟩;refine hh.ld (q_getk hx sp k hk4) ?_;rw [AsB_bool,BIf_not];refine w_ (fun hu=>?_) (fun hu=>?_)
   ·rw [w64 (n:=(k:Int)+1) (by omega) (by omega)];refine⟨⟨k+1,a,b',by trivial,by omega,by trivial,fun k' hk'=>?_⟩,?_⟩
    ·by_cases e:k'=k
     ·subst e;exact hu
     ·exact hused k' (by omega)
    ·show 4-((k:Int)+1).toNat<4-(k:Int).toNat;omega
   ·refine hS.st.ld rfl ?_;simp only [AsSl_slice,G_,H_,Nat.zero_add,Int.toNat_natCast,Nat.mul_one];refine⟨by omega,by omega,by omega,by omega,?_⟩;refine hS.sl.st rfl (by rw [hS.sl.len];omega) rfl fun w1 sl1 f1 s1=>?_;have st1:=hS.st.fr f1 hS.ne;refine st1.ld rfl ?_;simp only [AsSl_slice,G_,H_,Nat.zero_add,Int.toNat_natCast,Nat.mul_one];refine⟨by omega,by omega,?_⟩;have e:(k_ l).set (i*5+1+k) (.bool true)=k_ (l.set i (x.set k true)):=by
     rw [Nat.add_assoc];exact H_g S_f l i (1+k) (by omega) x _ hx (q_set x k hk4 true)
    rw [e] at sl1;obtain⟨gb',sp',e2,_,hh1⟩:=sl1.some_ (by omega);injection e2 with e2;injection e2 with e2;subst e2
    refine hh1.ld (b_f (q:=x.set k true) (by simp [hil]) sp') ?_;rw [AsI_int];show ∃_,_;rw [w64 (n:=(4:Int)*(((x.set k true).f:Nat):Int)) (by show -9223372036854775808≤(4:Int)*((x.f:Nat):Int);omega) (by show (4:Int)*((x.f:Nat):Int)≤9223372036854775807;omega)];show ∃_,_;rw [w64 (n:=(4:Int)*(((x.set k true).f:Nat):Int)+(k:Int)) (by show -9223372036854775808≤(4:Int)*((x.f:Nat):Int)+(k:Int);omega) (by show (4:Int)*((x.f:Nat):Int)+(k:Int)≤9223372036854775807;omega)];refine⟨4*x.f+k,0,p,l.set i (x.set k true),some ⟨gb,0,none⟩,c,?_,.old i k x hx hk4 hu hused hfull,?_,⟨?_,?_,hS.ne,hS.ok.set hx hk4⟩,f1.mono (fun _ _ h=>.inr (.inr h)),fun x hx=>.inl hx⟩
    ·simp [Qr.set]
    ·exact hP.fr f1 (fun h=>hg _ h (.inl rfl)) (fun h=>hg _ h (.inr (.inl rfl))) (fun h=>hg _ h (.inr (.inr rfl)))
    ·simpa using st1
    ·simpa using sl1
  ·have hk4:k=4:=by omega
   rw [w64 (n:=(i:Int)+1) (by omega) (by omega)];refine⟨⟨i+1,a,b',by trivial,by omega,by trivial,fun i' q' h h2=>?_⟩,?_⟩
   ·by_cases e:i'=i
    ·subst e;rw [hx] at h2;injection h2 with h2;subst h2;exact fun k' hk'=>hused k' (by omega)
    ·exact hfull i' q' (by omega) h2
   ·show l.length-((i:Int)+1).toNat<l.length-(i:Int).toNat;omega
 ·obtain rfl:i=l.length:=by omega
  have hall:∀q∈l,∀k,k<4→q.u k=true:=by
   intro q hq;obtain⟨j,hj,rfl⟩:=List.getElem_of_mem hq;exact hfull j _ hj (List.getElem?_eq_getElem hj)
  refine hS.st.ld rfl ?_;rw [AsP_pointer];refine Ret.use (f46 hP hT hd 1 1 (by omega)) ?_;rintro v w1 h;rcases h with ⟨hb,_⟩|⟨_,hno,rfl,hq⟩|⟨_,a1,hfit,hleast,rfl,hP1,hf1⟩
  ·exact absurd hb G_f
  ·simp only [F_,UnC_cons,UnN_nil,AsI_int];refine b_ (fun _=>?_) (fun h=>by cases h);exact⟨0,42,p,l,g,c,rfl,.none hall hno,hP.qt hq,hS.qt hq,hq.fr,fun x hx=>.inl hx⟩
  ·simp only [F_,UnC_cons,UnN_nil,AsI_int];refine b_ (fun h=>absurd rfl h) (fun _=>?_);have hS1:=hS.fr hf1 hs hg;have ha:a1+1≤p.u.length:=hfit.2.1;have hf28:p.first+a1<268435456:=by omega
   have h0:p.u.getD a1 0=0:=hfit.2.2 a1 (Nat.le_refl _) (by omega);have hnew:∀q∈l,q.f≠p.first+a1:=by
    intro q hq e;obtain⟨h1,h2,h3⟩:=hH q hq;rw [e,Nat.add_sub_cancel_left,h0] at h3;omega
   have tl:∀at_:Nat,at_≤l.length→(∀q∈l.take at_,q.f<p.first+a1)→(∀q,l[at_]?=some q→¬q.f<p.first+a1) →
     a_d ⟨s,0,none⟩ (at_:Int) ((p.first+a1:Nat):Int) w1 fun v w'=>∃(r e:Nat) (p':Pool) (l':List Qr) (g':Option Addr) (c':Nat),v=.tuple #[.int .i64 (r:Int),.int .i64 (e:Int)]∧STake p l r e p' l' ∧
      PoolAt w' b bu bd p'∧SlabAt w' s b g' c' l'∧Fr (OwnS b bu bd s g) w w'∧∀x,On g' x→On g x∨w.heap.size≤x:=by
    intro at_ hat hlt hge;refine f30tail hS1 at_ (p.first+a1) hat hlt (l_g hS.ok.rise fun q hq=>?_) hf28 fun g' c' w' hS' hf' hon'=>?_
    ·have:=hge q hq;have:=hnew q (List.mem_of_getElem? hq);omega
    ·refine⟨4*(p.first+a1),0,_,_,g',c',by simp,.fresh hall a1 hfit hleast,hP1.fr hf' (fun h=>hs (.inl h.symm)) (fun h=>hs (.inr (.inl h.symm))) (fun h=>hs (.inr (.inr h.symm))),?_,?_,?_⟩
     ·rw [U_k _ _ at_ hlt hge hat];exact hS'
     ·exact (hf1.mono fun x _ h=>.inl h).trans (hf'.mono fun x _ h=>.inr (.inl h))
     ·intro x hx;have:=hon' x hx;have:=hf1.size;exact .inr (by omega)
   refine Join.triv ?_;refine Loop.by (fun s w'=>∃(i:Nat),s=[.int .i64 (i:Int)]∧i≤l.length∧w'=w1∧∀q∈l.take i,q.f<p.first+a1)
    (fun s _=>match s with | [.int _ k]=>l.length-k.toNat|_=>0)
    ⟨0,rfl,by omega,rfl,fun q h=>by simp at h⟩ ?_
   rintro _ _ ⟨i,rfl,hi,hw,hlt⟩;obtain rfl:=hw.symm;simp only [UnC_cons,UnN_nil,AsI_int];refine hS1.st.ld rfl ?_;rw [AsSl_slice];refine C_ (fun hil=>?_) (fun hge=>?_)
   ·have hil:i<l.length:=by omega
    obtain⟨x,hx⟩:∃x,l[i]?=some x:=⟨_,List.getElem?_eq_getElem hil⟩;refine hS1.st.ld rfl ?_;rw [AsSl_slice];obtain⟨gb,sp,rfl,_,hh⟩:=hS1.sl.some_ (by omega);simp only [G_,H_,Nat.zero_add,Int.toNat_natCast];refine⟨by omega,by omega,?_⟩;refine hh.ld (b_f hx sp) ?_;rw [AsI_int];refine C_ (fun h=>?_) (fun h=>?_)
    ·rw [w64 (n:=(i:Int)+1) (by omega) (by omega)];refine⟨⟨i+1,by trivial,by omega,by trivial,fun q hq=>?_⟩,?_⟩
     ·rw [List.take_add_one,hx] at hq;simp only [Option.toList_some,List.mem_append,List.mem_singleton] at hq;rcases hq with hq|rfl
      ·exact hlt q hq
      ·omega
     ·show l.length-((i:Int)+1).toNat<l.length-(i:Int).toNat;omega
    ·have:=tl i hi hlt (fun q hq=>by rw [hx] at hq;injection hq with hq;subst hq;omega);unfold a_d at this;simp only [H_,Nat.zero_add,Int.toNat_natCast] at this;exact this
   ·have:=tl i hi hlt (fun q hq=>by have:=(List.getElem?_eq_some_iff.1 hq).1;omega);unfold a_d at this;simp only [H_,Nat.zero_add] at this;exact this
end Go.Proofs.YtmgjicnipgdjhaaGreatDoor
namespace Go.Sh
variable {P:Program}
structure LeafT (P:Program) (e:TypeId):Prop where
 plain:P.plainKey e=true
 und:(∃k,P.underlying e=some (.int k))∨P.underlying e=some .bool
def LeafT.Fits (P:Program) (e:TypeId) (a b:Value):Prop:=(∃k k' x y,P.underlying e=some (.int k')∧a=.int k x∧b=.int k y)∨(∃x y,P.underlying e=some .bool∧a=.bool x∧b=.bool y)
theorem D_i {e:TypeId} {a b:Value} (h:LeafT.Fits P e a b) (d:Nat) (w:World):∃r:Bool,(Op.equalIn (d+1) e a b).run P w=.ok r w∧(r=true↔a=b):=by
 rcases h with ⟨k,k',x,y,h,rfl,rfl⟩|⟨x,y,h,rfl,rfl⟩
 ·exact⟨_,run_equalIn_int w d e k k' x y h,by simp⟩
 ·exact⟨_,run_equalIn_bool' w d e x y h,by simp⟩
theorem q_b (d:Nat) {e:TypeId} (hp:P.plainKey e=true) {c:Nat} (xs ys:Array Value) (w:World):∀(is:List Nat),(∀i∈is,∃a b,xs[i*c]?=some a∧ys[i*c]?=some b∧LeafT.Fits P e a b) →
  ∃r:Bool,(Op.eqItems (d+1) e c xs ys is).run P w=.ok r w∧(r=true↔∀i∈is,xs[i*c]?=ys[i*c]?)
 | [],_=>⟨true,by simp [Op.eqItems],by simp⟩
 | f :: fs,h=>by
  obtain⟨a,b,ha,hb,hfit⟩:=h f (by simp);obtain⟨r,hr,hri⟩:=D_i hfit d w;obtain⟨r',hr',hri'⟩:=q_b d hp xs ys w fs fun g hg=>h g (by simp [hg]);have p1:=run_part_plain w hp ha;have p2:=run_part_plain w hp hb;cases r with
  | false =>
   refine⟨false,by simp [Op.eqItems,p1,p2,hr],?_⟩;simp only [Bool.false_eq_true,false_iff];intro hall;have:=hall f (by simp);rw [ha,hb] at this;injection this with this
   exact absurd (hri.2 this) (by simp)
  | true =>
   refine⟨r',by simp [Op.eqItems,p1,p2,hr,hr'],?_⟩;rw [hri'];constructor
   ·intro hall g hg;rcases List.mem_cons.1 hg with rfl|hg
    ·rw [ha,hb,hri.1 rfl]
    ·exact hall g hg
   ·exact fun hall g hg=>hall g (by simp [hg])
structure StructT (P:Program) (t:TypeId) (fs:Array Field):Prop where
 und:P.underlying t=some (.struct fs)
 stood:P.stoodInHeld t=false
 guard:P.eqGuardType P.depth t=false
structure ArrT (P:Program) (t e:TypeId) (n:Nat):Prop where
 und:P.underlying t=some (.array n e)
 info:(P.info? e).isSome=true
 cells:P.cellsOf e=1
 plain:P.plainKey e=true
 guard:P.eqGuardType P.depth t=false
theorem t_k {t e:TypeId} {n:Nat} (E:ArrT P t e n) {xs ys:Array Value} (h:∀i,i<n→∃a b,xs[i]?=some a∧ys[i]?=some b∧LeafT.Fits P e a b) (w:World) :
  ∃r:Bool,(Op.equalIn 10000 t (.agg xs) (.agg ys)).run P w=.ok r w∧(r=true↔∀i,i<n→xs[i]?=ys[i]?):=by
 obtain⟨i,hi⟩:=Option.isSome_iff_exists.1 E.info;have h1:=run_equalIn_array (P:=P) w 9999 xs ys E.und hi;rw [E.cells] at h1;obtain⟨r,hr,hri⟩:=q_b 9998 E.plain (c:=1) xs ys w (List.range n) fun i hi=>by rw [Nat.mul_one];exact h i (List.mem_range.1 hi)
 refine⟨r,h1.trans hr,hri.trans ?_⟩;simp
theorem RunP.eqlArr {t e:TypeId} {n:Nat} (E:ArrT P t e n) {x y:Operand} {xs ys:Array Value} (h:∀i,i<n→∃a b,xs[i]?=some a∧ys[i]?=some b∧LeafT.Fits P e a b)
  {K:Value→Prop} (k:∀r:Bool,(r=true↔∀i,i<n→xs[i]?=ys[i]?)→K (.bool r)):RunP P (v_ .eql t x y (.agg xs) (.agg ys)) K:=by
 obtain⟨r,hr,hri⟩:=t_k E h default;refine⟨.bool r,fun w=>?_,k r hri⟩;obtain⟨r1,hr1,hri1⟩:=t_k E h w;have:r1=r:=by rw [Bool.eq_iff_iff];exact hri1.trans hri.symm
 subst this;unfold v_;simp only [Sem.run_bind,run_eqGuard_agg w _ t x y xs ys E.guard,Result.andThen_ok,run_eql_struct,hr1]
end Go.Sh
namespace Go.Proofs.YtmgjicnipgdjhaaGreatDoor
open Go Go.Sh Go.Fr
open Go.IntKind (i64 u64 u32)
theorem A84:ArrT prog 220 4 4:=⟨by kernel_rfl,by kernel_rfl,by kernel_rfl,by kernel_rfl,by kernel_rfl⟩
theorem und4:prog.underlying 4=some .bool:=by kernel_rfl
theorem run_held {p:Pool} {f:Nat} (h1:p.first≤f) (h2:f<p.first+p.u.length) (h3:0<p.u.getD (f-p.first) 0):p.run (f:Int) 1=(f-p.first,0):=by
 have e:((f:Int)-(p.first:Int)).toNat=f-p.first:=by omega
 have hk:f-p.first<p.u.length:=by omega
 obtain⟨n1,n2,n3,n4⟩:=H_b p.u false (f-p.first);have hn:f-p.first+1≤next p.u false (f-p.first):=by
  rcases Nat.lt_or_ge (f-p.first) (next p.u false (f-p.first)) with h|h
  ·exact h
  ·have h5:=n2 (by omega);have e2:next p.u false (f-p.first)=f-p.first:=by omega
   have:=n3 (by omega);simp only [e2] at this;rw [r_ hk] at h3;simp at this;omega
 unfold Pool.run;rw [if_neg (by omega),if_neg (by omega),e,if_neg (by omega)]
inductive SDrop (p:Pool) (l:List Qr) (t:Int):Nat→Pool→List Qr→Prop
 | none (h:∀q∈l,∀k:Nat,k<4→q.u k=true→t≠4*(q.f:Int)+k):SDrop p l t 45 p l
 | more (i k:Nat) (q:Qr) (h:l[i]?=some q) (hk:k<4) (hu:q.u k=true) (ht:t=4*(q.f:Int)+k) (hm:∃k',k'<4∧k'≠k∧q.u k'=true):SDrop p l t 0 p (l.set i (q.set k false))
 | last (i k:Nat) (q:Qr) (h:l[i]?=some q) (hk:k<4) (hu:q.u k=true) (ht:t=4*(q.f:Int)+k) (hm:∀k',k'<4→k'≠k→q.u k'=false) :
   SDrop p l t 0 (p.turned (q.f-p.first) (· - 1) 1) (l.take i++l.drop (i+1))
theorem SlabOk.cut {l:List Qr} (h:SlabOk l) (i:Nat):SlabOk (l.take i++l.drop (i+1)):=by
 have hs:(l.take i++l.drop (i+1)).Sublist l:=by
  rw [←List.eraseIdx_eq_take_drop_succ];exact List.eraseIdx_sublist _ _
 exact⟨fun q hq=>h.lt q (hs.subset hq),h.rise.sublist hs,fun q hq=>h.any q (hs.subset hq)⟩
theorem f113 {w:World} {b bu bd s c:Nat} {g:Option Addr} {p:Pool} {l:List Qr} (hP:PoolAt w b bu bd p) (hT:Tz w) (hd:¬OwnS b bu bd s g 3) (hS:SlabAt w s b g c l) (hH:t_c p l)
  (hs:¬Own b bu bd s) (hg:∀x,On g x→¬Own b bu bd x) (t:Int) (ht:-9223372036854775808≤t∧t≤9223372036854775807) :
  Ret prog 113 #[.pointer (some ⟨s,0,none⟩),.int .i64 t] w fun v w'=>∃(e:Nat) (p':Pool) (l':List Qr) (g':Option Addr) (c':Nat),v=.int .i64 (e:Int)∧SDrop p l t e p' l' ∧
   PoolAt w' b bu bd p'∧SlabAt w' s b g' c' l'∧Fr (OwnS b bu bd s g) w w'∧∀x,On g' x→On g x∨w.heap.size≤x:=by
 have hN:=hS.ok.len;have hL:=hP.ok.le;refine F113_of ?_;unfold F113;try dsimp only [Uii,lb_,li_,lp_,ls_,ui_]
 simp only [H_,Nat.zero_add];refine hS.st.ld rfl ?_;rw [AsSl_slice];refine Loop.by (fun s w'=>∃(i:Nat) (a:Int),s=[.int .i64 (i:Int),.int .i64 a]∧i≤l.length∧w'=w∧∀i' q',i'<i→l[i']?=some q'→∀k:Nat,k<4→q'.u k=true→t≠4*(q'.f:Int)+k)
  (fun s _=>match s with | [.int _ k,_]=>l.length-k.toNat|_=>0)
  ⟨0,0,rfl,by omega,rfl,fun i' q' h=>by omega⟩ ?_
 rintro _ _ ⟨i,a,rfl,hi,hw,hno⟩;obtain rfl:=hw.symm;simp only [UnC_cons,UnN_nil,AsI_int];refine C_ (fun hlt=>?_) (fun hge=>?_)
 ·have hil:i<l.length:=by omega
  obtain⟨x,hx⟩:∃x,l[i]?=some x:=⟨_,List.getElem?_eq_getElem hil⟩;have hxm:=List.mem_of_getElem? hx;have hxf:=hS.ok.lt x hxm;refine Join.triv ?_;simp only [UnC_cons,UnN_nil,AsI_int];refine hS.st.ld rfl ?_;obtain⟨gb,sp,rfl,_,hh⟩:=hS.sl.some_ (by omega);simp only [AsSl_slice,G_,H_,Nat.zero_add,Int.toNat_natCast];refine⟨by omega,by omega,?_⟩;refine hh.ld (b_f hx sp) ?_;rw [AsI_int,w64 (n:=(4:Int)*((x.f:Nat):Int)) (by omega) (by omega),w64 (n:=(i:Int)+1) (by omega) (by omega)];have hW1:∀k:Nat,k<4→t=4*(x.f:Int)+k→i64.wrap (t-4*(x.f:Int))=k:=by
   intro k hk e;rw [IntKind.wrap_i64];omega
  have hW2:0≤i64.wrap (t-4*(x.f:Int))→i64.wrap (t-4*(x.f:Int))≤3→t=4*(x.f:Int)+i64.wrap (t-4*(x.f:Int)):=by
   rw [IntKind.wrap_i64];omega
  generalize i64.wrap (t-4*(x.f:Int))=W at hW1 hW2 ⊢;have hmeas:l.length-((i:Int)+1).toNat<l.length-(i:Int).toNat:=by omega
  have goOn:(∀k:Nat,k<4→x.u k=true→t≠4*(x.f:Int)+k)→∃(i_1:Nat) (a_1:Int),[Value.int .i64 ((i:Int)+1),.int .i64 a]=[.int .i64 (i_1:Int),.int .i64 a_1]∧i_1≤l.length∧w=w∧∀i' q',i'<i_1→l[i']?=some q'→∀k:Nat,k<4→q'.u k=true→t≠4*(q'.f:Int)+k:=by
   intro hx2;refine⟨i+1,a,rfl,by omega,rfl,fun i' q' h h2=>?_⟩;by_cases e:i'=i
   ·subst e;rw [hx] at h2;injection h2 with h2;subst h2;exact hx2
   ·exact hno i' q' (by omega) h2
  refine C_ (fun h1=>?_) (fun h1=>?_)
  ·refine⟨?_,hmeas⟩;simpa using goOn (fun k hk hu e=>by have:=hW1 k hk e;omega)
  refine C_ (fun h2=>?_) (fun h2=>?_)
  ·refine⟨?_,hmeas⟩;simpa using goOn (fun k hk hu e=>by have:=hW1 k hk e;omega)
  obtain⟨k,rfl⟩:∃k:Nat,W=k:=⟨W.toNat,by omega⟩;have hk:k<4:=by omega
  have htk:=hW2 (by omega) (by omega);simp only [Int.toNat_natCast,Nat.mul_one];refine⟨by omega,by omega,?_⟩;refine hh.ld (q_getk hx sp k hk) ?_;rw [AsB_bool,BIf_not];refine w_ (fun hu=>?_) (fun hu=>?_);rotate_left
  ·refine⟨?_,hmeas⟩;simpa using goOn (fun k' hk' hu' e=>by
    have:k'=k:=by omega
    subst this;rw [hu] at hu';cases hu')
  refine⟨by omega,by omega,?_⟩;refine hS.sl.st rfl (by rw [hS.sl.len];omega) rfl fun w1 sl1 f1 s1=>?_;have e:(k_ l).set (i*5+1+k) (.bool false)=k_ (l.set i (x.set k false)):=by
   rw [Nat.add_assoc];exact H_g S_f l i (1+k) (by omega) x _ hx (q_set x k hk false)
  rw [e] at sl1;obtain⟨gb',sp',e2,_,hh1⟩:=sl1.some_ (by omega);injection e2 with e2;injection e2 with e2;subst e2
  have hy:(l.set i (x.set k false))[i]?=some (x.set k false):=by simp [hil]
  refine hh1.ld (E_d hy sp' 1 (by decide)) ?_;rw [AsB_bool];refine hh1.ld (E_d hy sp' 2 (by decide)) ?_;rw [AsB_bool];refine hh1.ld (E_d hy sp' 3 (by decide)) ?_;rw [AsB_bool];refine hh1.ld (E_d hy sp' 4 (by decide)) ?_;rw [AsB_bool];have hP1:PoolAt w1 b bu bd p:=hP.fr f1 (fun h=>hg _ h (.inl rfl)) (fun h=>hg _ h (.inr (.inl rfl))) (fun h=>hg _ h (.inr (.inr rfl)));have st1:=hS.st.fr f1 hS.ne;have hset:∀j,(x.set k false).u j=if j=k then false else x.u j:=fun j=>rfl
  refine RunP.eqlArr A84 (fun j hj=>?_) (fun r hr=>?_)
  ·rcases j with _|_|_|_|j
   ·exact⟨_,_,rfl,rfl,.inr ⟨_,_,und4,rfl,rfl⟩⟩
   ·exact⟨_,_,rfl,rfl,.inr ⟨_,_,und4,rfl,rfl⟩⟩
   ·exact⟨_,_,rfl,rfl,.inr ⟨_,_,und4,rfl,rfl⟩⟩
   ·exact⟨_,_,rfl,rfl,.inr ⟨_,_,und4,rfl,rfl⟩⟩
   ·omega
  have hr':r=true↔∀j,j<4→(x.set k false).u j=false:=by
   rw [hr];constructor
   ·intro h j hj;have:=h j hj;rcases j with _|_|_|_|j
    ·injection this with this;injection this
    ·injection this with this;injection this
    ·injection this with this;injection this
    ·injection this with this;injection this
    ·omega
   ·intro h j hj;have:=h j hj;rcases j with _|_|_|_|j
    ·show some (Value.bool _)=some (Value.bool _);rw [this]
    ·show some (Value.bool _)=some (Value.bool _);rw [this]
    ·show some (Value.bool _)=some (Value.bool _);rw [this]
    ·show some (Value.bool _)=some (Value.bool _);rw [this]
    ·omega
  rw [AsB_bool];refine w_ (fun hb=>?_) (fun hb=>?_)
  ·have hall:=hr'.1 hb;refine hh1.ld (b_f hy sp') ?_;rw [AsI_int];refine st1.drew.ld rfl ?_;rw [AsSl_slice];have hle:=sl1.le;refine⟨by omega,by omega,?_⟩;refine st1.drew.ld rfl ?_;rw [AsSl_slice];refine⟨by omega,by omega,?_⟩;rw [i_a,Nat.sub_zero,Nat.sub_zero];have slD:=sl1.qt (Qt.refl w1).drew;have src:=slD.src_sub (lo:=i+1) (hi:=l.length) (by omega) (Nat.le_refl _);have ex:((k_ (l.set i (x.set k false))).drop ((i+1)*5)).take ((l.length-(i+1))*5)=k_ (l.drop (i+1)):=by
    rw [k_,I_c S_f,List.take_of_length_le (by rw [k_b S_f,List.length_drop,List.length_set];omega)];rw [List.drop_set_of_lt (by omega)]
    rfl
   have ex2:(k_ (l.set i (x.set k false))).take (i*5)=k_ (l.take i):=by
    rw [k_,H_c S_f,List.take_set_of_le (Nat.le_refl _)]
    rfl
   have pre:=slD.pre (i:=i) (by omega);rw [ex] at src;rw [ex2] at pre;have e3:((i:Int)+1).toNat=i+1:=by omega
   rw [e3];refine F_b E78 pre (Nat.zero_le _) src y_j (by simp only [maxLen];omega) (by omega) fun p2 c2 w2 sl2 f2 on2=>?_;rw [AsSl_slice];have st2:=(st1.drew).fr f2 hS.ne;refine st2.st (by simp) rfl fun w3 st3 f3 s3=>?_;refine st3.ld rfl ?_;rw [AsP_pointer];have f2':Fr (On (some ⟨gb,0,none⟩)) w1 w2:=f2.of_drew;have hP2:PoolAt w2 b bu bd p:=hP1.fr f2' (fun h=>hg _ h (.inl rfl)) (fun h=>hg _ h (.inr (.inl rfl))) (fun h=>hg _ h (.inr (.inr rfl)));have hP3:PoolAt w3 b bu bd p:=hP2.fr f3 (fun h=>hs (.inl h.symm)) (fun h=>hs (.inr (.inl h.symm))) (fun h=>hs (.inr (.inr h.symm)));have fall:Fr (OwnS b bu bd s (some ⟨gb,0,none⟩)) w w3:=((f1.mono fun _ _ h=>.inr (.inr h)).trans (f2'.mono fun _ _ h=>.inr (.inr h))).trans (f3.mono fun _ _ h=>.inr (.inl h));have hT3:=hT.fr fall hd;obtain⟨m1,m2,m3⟩:=hH x hxm;refine Ret.use (f47 hP3 hT3 (fun h=>hd (.inl h)) ((x.set k false).f:Int) 1 (by show -9223372036854775808≤((x.f:Nat):Int)∧((x.f:Nat):Int)≤9223372036854775807;omega) (by omega)) ?_;have hrun:=run_held m1 m2 m3;rintro v w4 (⟨hbad,_⟩|⟨_,rfl,hP4,f4⟩)
   ·exact absurd (show (p.run ((x.set k false).f:Int) 1).2=0 by show (p.run ((x.f:Nat):Int) 1).2=0;rw [hrun]) hbad
   simp only [F_,UnC_cons,UnN_nil,AsI_int];have hsz:w.heap.size≤w2.heap.size:=Nat.le_trans f1.size f2'.size;have hon:∀y,On p2 y→On (some ⟨gb,0,none⟩) y∨w.heap.size≤y:=by
    intro y hy;rcases on2 y hy with h|h
    ·exact .inl h
    ·have h6:w1.drew.heap.size=w1.heap.size:=rfl;have:=f1.size;exact .inr (by omega)
   have hneo:∀y,On p2 y→¬Own b bu bd y∧y≠s:=by
    intro y hy;have hsl:=hS.st.lt;have l1:=hP.st.lt;have l2:=hP.us.lt;obtain⟨ws,_,hws⟩:=hP.ws;have l3:=hws.lt;rcases hon y hy with h|h
    ·exact⟨hg y h,fun e=>hS.ne (e ▸ h)⟩
    ·refine⟨fun h'=>?_,by omega⟩;unfold Own at h';omega
   refine⟨0,p.turned (x.f-p.first) (· - 1) 1,l.take i++l.drop (i+1),p2,c2,rfl,.last i k x hx hk hu htk fun k' hk' hne=>?_,?_,⟨?_,?_,fun h=>?_,hS.ok.cut i⟩,fall.trans (f4.mono fun _ _ h=>.inl h),hon⟩
   ·have:=hall k' hk';rw [hset,if_neg hne] at this;exact this
   ·have e4:(((x.set k false).f:Int)-(p.first:Int)).toNat=x.f-p.first:=by show (((x.f:Nat):Int)-(p.first:Int)).toNat=_;omega
    rw [e4] at hP4;exact hP4
   ·have:=st3.fr f4 hs;have e5:(l.take i++l.drop (i+1)).length=i+(l.length-(i+1)):=by simp;omega
    rw [e5];exact this
   ·have e5:(l.take i++l.drop (i+1)).length=i+(l.length-(i+1)):=by simp;omega
    rw [e5,k_,List.flatMap_append];exact (sl2.fr f3 fun y hy h=>(hneo y hy).2 h).fr f4 fun y hy h=>(hneo y hy).1 h
   ·exact (hneo _ h).2 rfl
  ·have hany:∃k',k'<4∧k'≠k∧x.u k'=true:=by
    refine Classical.byContradiction fun hn=>?_;have:r=true:=hr'.2 fun j hj=>by
     rw [hset];split
     ·rfl
     ·rename_i hne;cases hxu:x.u j
      ·rfl
      ·exact absurd ⟨j,hj,hne,hxu⟩ hn
    rw [hb] at this;cases this
   refine⟨0,p,l.set i (x.set k false),some ⟨gb,0,none⟩,c,rfl,.more i k x hx hk hu htk hany,hP1,⟨by rw [List.length_set];exact st1,by rw [List.length_set];exact sl1,hS.ne,hS.ok.of_f (n_j hx rfl) fun y hy=>?_⟩,f1.mono (fun _ _ h=>.inr (.inr h)),fun y hy=>.inl hy⟩;rcases List.mem_or_eq_of_mem_set hy with hy|rfl
   ·exact hS.ok.any y hy
   ·obtain⟨k',h1,h2,h3⟩:=hany;exact⟨k',h1,by rw [hset,if_neg h2];exact h3⟩
 ·obtain rfl:i=l.length:=by omega
  refine⟨45,p,l,g,c,rfl,.none fun q hq=>?_,hP,hS,Fr.refl _ _,fun x hx=>.inl hx⟩;obtain⟨j,hj,rfl⟩:=List.getElem_of_mem hq;exact hno j _ hj (List.getElem?_eq_getElem hj)
theorem f87 {w:World} (b:Nat):Ret prog 87 #[.pointer (some ⟨b,0,none⟩)] w fun v w'=>v=.tuple #[.pointer (some ⟨w.heap.size,0,none⟩),.int .i64 0]∧SlabAt w' w.heap.size b none 0 []∧Fr0 w w'∧w'.heap.size=w.heap.size+1:=by
 refine F87_of ?_;unfold F87;refine New.mk fun w1 n1 f1 s1=>?_;exact⟨rfl,⟨n1,Sl.nil _ _ _ _,(fun ⟨a,h,_⟩=>by cases h),⟨fun q h=>by simp at h,by simp,fun q h=>by simp at h⟩⟩,f1,s1⟩
end Go.Proofs.YtmgjicnipgdjhaaGreatDoor
namespace Go.Fr
def s_f (u:List Nat):Nat:=u.countP (·=0)
theorem n_h {l:List Nat} (h:∀x∈l,x≠0):l.countP (·=0)=0:=by
 rw [List.countP_eq_zero];intro x hx;simpa using h x hx
end Go.Fr
namespace Go.Proofs.YtmgjicnipgdjhaaGreatDoor
open Go Go.Sh Go.Fr
inductive PTake (p:Pool) (n al:Int):Nat→Nat→Pool→Prop
 | bad (h:v_a n al):PTake p n al 0 41 p
 | none (h:¬v_a n al) (hn:∀a,¬Fit p.first p.u n.toNat al.toNat a):PTake p n al 0 42 p
 | ok (h:¬v_a n al) (a:Nat) (hf:Fit p.first p.u n.toNat al.toNat a) (hl:∀a',a'<a→¬Fit p.first p.u n.toNat al.toNat a'):PTake p n al (p.first+a) 0 (p.turned a (fun _=>1) n.toNat)
theorem PTake.eq {p p':Pool} {n al:Int} {r e:Nat} (h:PTake p n al r e p') (hb:¬v_a n al) {a:Nat} (hf:Fit p.first p.u n.toNat al.toNat a) (hl:∀a',a'<a→¬Fit p.first p.u n.toNat al.toNat a') :
  r=p.first+a∧e=0∧p'=p.turned a (fun _=>1) n.toNat:=by
 cases h with
 | bad h=>exact absurd h hb
 | none _ hn=>exact absurd hf (hn a)
 | ok _ a' hf' hl' =>
  have:a'=a:=by
   rcases Nat.lt_trichotomy a' a with h|h|h
   ·exact absurd hf' (hl a' h)
   ·exact h
   ·exact absurd hf (hl' a h)
  subst this;exact⟨rfl,rfl,rfl⟩
theorem E_g {f:Nat}:∀{l:List Qr} {q:Qr},q∈insq f l→q=Qr.new f∨q∈l
 | [],q,h=>by simp [insq] at h;exact .inl h
 | x :: r,q,h=>by
  unfold insq at h;split at h
  ·rcases List.mem_cons.1 h with rfl|h
   ·exact .inr (by simp)
   ·rcases E_g h with h|h
    ·exact .inl h
    ·exact .inr (by simp [h])
  ·rcases List.mem_cons.1 h with rfl|h
   ·exact .inl rfl
   ·exact .inr h
theorem v_b {l:List Qr} {i:Nat} {q y x:Qr} (hq:l[i]?=some q) (hy:y.f=q.f) (h:x∈l.set i y):∃z∈l,z.f=x.f:=by
 rcases List.mem_or_eq_of_mem_set h with h|rfl
 ·exact⟨x,h,rfl⟩
 ·exact⟨q,List.mem_of_getElem? hq,hy.symm⟩
theorem V_a (p:Pool) (k:Nat) (fn:Nat→Nat) (x:Nat) (h:k<p.u.length):(p.turned k fn 1).u.getD x 0=if x=k then fn (p.u.getD k 0) else p.u.getD x 0:=by
 show (turn p.u k fn 1).getD x 0=_;rw [O_b _ _ _ _ _ (by omega)];by_cases e:x=k
 ·subst e;rw [if_pos (by omega),if_pos rfl]
 ·rw [if_neg (by omega),if_neg e]
theorem STake.held {p p':Pool} {l l':List Qr} {r e:Nat} (h:STake p l r e p' l') (hH:t_c p l):t_c p' l'∧(∀lb,t_c p lb→t_c p' lb)∧∀lb,t_c p lb→(∀q∈l,∀q'∈lb,q.f≠q'.f)→∀q∈l',∀q'∈lb,q.f≠q'.f:=by
 cases h with
 | old i k q hq hk h0 h1 h2 =>
  refine⟨fun x hx=>?_,fun lb h=>h,fun lb _ hd x hx y hy=>?_⟩
  ·obtain⟨z,hz,e⟩:=v_b (y:=q.set k true) hq rfl hx;rw [←e];exact hH z hz
  ·obtain⟨z,hz,e⟩:=v_b (y:=q.set k true) hq rfl hx;rw [←e];exact hd z hz y hy
 | none=>exact⟨hH,fun lb h=>h,fun lb _ hd=>hd⟩
 | fresh h a hf hl =>
  have ha:a<p.u.length:=by have:=hf.2.1;omega
  have hz:p.u.getD a 0=0:=hf.2.2 a (Nat.le_refl _) (by omega);have keep:∀lb,t_c p lb→t_c (p.turned a (fun _=>1) 1) lb:=by
   intro lb hb q hq;obtain⟨h1,h2,h3⟩:=hb q hq;refine⟨h1,by simp only [Pool.turned,e_];exact h2,?_⟩;show 0<(p.turned a (fun _=>1) 1).u.getD (q.f-p.first) 0;rw [V_a _ _ _ _ ha];split<;>omega
  refine⟨fun q hq=>?_,keep,fun lb hb hd q hq q' hq' e=>?_⟩
  ·rcases E_g hq with rfl|hq
   ·refine⟨Nat.le_add_right _ _,by simp only [Pool.turned,e_,Qr.new];omega,?_⟩;show 0<(p.turned a (fun _=>1) 1).u.getD (p.first+a-p.first) 0;rw [V_a _ _ _ _ ha,if_pos (by omega)];omega
   ·exact keep l hH q hq
  ·rcases E_g hq with rfl|hq
   ·obtain⟨h1,h2,h3⟩:=hb q' hq';have e2:p.first+a=q'.f:=e
    rw [←e2,Nat.add_sub_cancel_left] at h3;omega
   ·exact hd q hq q' hq' e
theorem n_k {l:List Qr} {i:Nat} {x:Qr} (h:x∈l.take i++l.drop (i+1)):x∈l:=by
 rw [←List.eraseIdx_eq_take_drop_succ] at h;exact List.mem_of_mem_eraseIdx h
theorem m_k {l:List Qr} {i:Nat} {q x:Qr} (hr:l.Pairwise fun a b=>a.f<b.f) (hq:l[i]?=some q) (h:x∈l.take i++l.drop (i+1)):x.f≠q.f:=by
 obtain⟨hi,rfl⟩:=List.getElem?_eq_some_iff.1 hq;rcases List.mem_append.1 h with h|h
 ·obtain⟨j,hj,rfl⟩:=List.getElem_of_mem h;rw [List.length_take] at hj;have:=List.pairwise_iff_getElem.1 hr j i (by omega) hi (by omega);rw [List.getElem_take];omega
 ·obtain⟨j,hj,rfl⟩:=List.getElem_of_mem h;rw [List.length_drop] at hj;have:=List.pairwise_iff_getElem.1 hr i (i+1+j) hi (by omega) (by omega);rw [List.getElem_drop];omega
theorem SDrop.held {p p':Pool} {l l':List Qr} {t:Int} {e:Nat} (h:SDrop p l t e p' l') (hO:SlabOk l) (hH:t_c p l):t_c p' l'∧(∀lb,t_c p lb→(∀q∈l,∀q'∈lb,q.f≠q'.f)→t_c p' lb)∧∀lb:List Qr,(∀q∈l,∀q'∈lb,q.f≠q'.f)→∀q∈l',∀q'∈lb,q.f≠q'.f:=by
 cases h with
 | none=>exact⟨hH,fun lb h _=>h,fun lb hd=>hd⟩
 | more i k q hq hk hu ht hm =>
  refine⟨fun x hx=>?_,fun lb h _=>h,fun lb hd x hx y hy=>?_⟩
  ·obtain⟨z,hz,e⟩:=v_b (y:=q.set k false) hq rfl hx;rw [←e];exact hH z hz
  ·obtain⟨z,hz,e⟩:=v_b (y:=q.set k false) hq rfl hx;rw [←e];exact hd z hz y hy
 | last i k q hq hk hu ht hm =>
  have hqm:=List.mem_of_getElem? hq;obtain⟨a1,a2,a3⟩:=hH q hqm;have keep:∀lb,t_c p lb→(∀x∈lb,x.f≠q.f)→t_c (p.turned (q.f-p.first) (· - 1) 1) lb:=by
   intro lb hb hn x hx;obtain⟨h1,h2,h3⟩:=hb x hx;refine⟨h1,by simp only [Pool.turned,e_];exact h2,?_⟩;show 0<(p.turned (q.f-p.first) (· - 1) 1).u.getD (x.f-p.first) 0;rw [V_a _ _ _ _ (by omega),if_neg (by have:=hn x hx;omega)];exact h3
  refine⟨keep _ (fun x hx=>hH x (n_k hx)) fun x hx=>m_k hO.rise hq hx,fun lb hb hd=>keep lb hb fun x hx e=>hd q hqm x hx e.symm,fun lb hd x hx y hy=>hd x (n_k hx) y hy⟩
theorem mem_qtabs {q:Qr} {x:Nat}:x∈q.tabs 4↔∃k,k<4∧q.u k=true∧x=4*q.f+k:=by
 unfold Qr.tabs;simp only [List.mem_map,List.mem_filter,List.mem_range];constructor
 ·rintro ⟨k,⟨h1,h2⟩,h3⟩;exact⟨k,h1,h2,h3.symm⟩
 ·rintro ⟨k,h1,h2,h3⟩;exact⟨k,⟨h1,h2⟩,h3.symm⟩
theorem mem_tabs {l:List Qr} {x:Nat}:x∈tabs l↔∃q∈l,∃k,k<4∧q.u k=true∧x=4*q.f+k:=by
 unfold tabs;simp only [List.mem_flatMap,mem_qtabs]
theorem h_e {l:List Qr} (h:l.Pairwise fun a b=>a.f<b.f):(tabs l).Pairwise (·<·):=by
 unfold tabs;rw [List.pairwise_flatMap];refine⟨fun q _=>?_,h.imp fun {a b} hab x hx y hy=>?_⟩
 ·unfold Qr.tabs;rw [List.pairwise_map];exact (List.pairwise_lt_range.filter _).imp fun hab=>by omega
 ·obtain⟨k,h1,_,rfl⟩:=mem_qtabs.1 hx;obtain⟨k',h1',_,rfl⟩:=mem_qtabs.1 hy;omega
def base (l:List Qr) (i:Nat):Nat:=(tabs (l.take i)).length
theorem g_b {l:List Qr} {i:Nat} {q:Qr} (h:l[i]?=some q):tabs l=tabs (l.take i)++(q.tabs 4++tabs (l.drop (i+1))):=by
 obtain⟨hi,rfl⟩:=List.getElem?_eq_some_iff.1 h;have e:l=l.take i++l[i] :: l.drop (i+1):=by rw [←List.drop_eq_getElem_cons hi,List.take_append_drop]
 unfold tabs
 conv=>lhs;rw [e]
 rw [List.flatMap_append,List.flatMap_cons]
theorem tabs_at {l:List Qr} {i n:Nat} {q:Qr} (h:l[i]?=some q) (hn:n<(q.tabs 4).length):(tabs l)[base l i+n]?=some (q.tabs 4)[n]:=by
 rw [g_b h,List.getElem?_append_right (by unfold base;omega)];unfold base;rw [Nat.add_sub_cancel_left,List.getElem?_append_left hn,List.getElem?_eq_getElem hn]
theorem u_j {q:Qr} {n:Nat} (hn:n<(q.tabs 4).length):(q.tabs 4)[n]/4=q.f:=by
 obtain⟨k,hk,_,e⟩:=mem_qtabs.1 (List.getElem_mem hn);rw [e];omega
theorem p_g {l:List Qr} (h:SlabOk l) {q:Qr} (hq:q∈l):0<(q.tabs 4).length:=by
 obtain⟨k,hk,hu⟩:=h.any q hq;exact List.length_pos_of_mem (mem_qtabs.2 ⟨k,hk,hu,rfl⟩)
theorem i_j {l:List Qr} (h:SlabOk l) {x:Nat} (hx:x∈tabs l):x<1073741824:=by
 obtain⟨q,hq,k,hk,_,rfl⟩:=mem_tabs.1 hx;have:=h.lt q hq;omega
def Miss (L:List Nat) (x:Nat):Prop:=∃j k y:Nat,L[j]?=some y∧k<4∧x=4*(y/4)+k∧x∉L∧(∀j' y' k':Nat,j'<j→L[j']?=some y'→k'<4→4*(y'/4)+k'∈L)∧∀k',k'<k→4*(y/4)+k'∈L
def Full (L:List Nat):Prop:=∀y∈L,∀k,k<4→4*(y/4)+k∈L
theorem same_f {l:List Qr} (h:SlabOk l) {q q':Qr} (hq:q∈l) (hq':q'∈l) (e:q.f=q'.f):q=q':=by
 obtain⟨i,hi,rfl⟩:=List.getElem_of_mem hq;obtain⟨j,hj,rfl⟩:=List.getElem_of_mem hq';rcases Nat.lt_trichotomy i j with h1|h1|h1
 ·have:=List.pairwise_iff_getElem.1 h.rise i j hi hj h1;omega
 ·subst h1;rfl
 ·have:=List.pairwise_iff_getElem.1 h.rise j i hj hi h1;omega
theorem o_d {l:List Qr} (h:SlabOk l) {q:Qr} (hq:q∈l) {k:Nat} (hk:k<4):4*q.f+k∈tabs l↔q.u k=true:=by
 rw [mem_tabs];constructor
 ·rintro ⟨q',hq',k',hk',hu,e⟩;have:=same_f h hq hq' (by omega);subst this;have:k=k':=by omega
  subst this;exact hu
 ·intro hu;exact⟨q,hq,k,hk,hu,rfl⟩
theorem Z_k {l:List Qr} (h:SlabOk l) (hf:∀q∈l,∀k,k<4→q.u k=true):Full (tabs l):=by
 intro y hy k hk;obtain⟨q,hq,k',hk',_,rfl⟩:=mem_tabs.1 hy;rw [show (4*q.f+k')/4=q.f by omega];exact (o_d h hq hk).2 (hf q hq k hk)
theorem miss_of {l:List Qr} (h:SlabOk l) {i k:Nat} {q:Qr} (hq:l[i]?=some q) (hk:k<4) (h0:q.u k=false) (h1:∀k',k'<k→q.u k'=true) (h2:∀i' q',i'<i→l[i']?=some q'→∀k',k'<4→q'.u k'=true) :
  Miss (tabs l) (4*q.f+k):=by
 have hqm:=List.mem_of_getElem? hq;have hpos:=p_g h hqm;have hat:=tabs_at hq hpos;rw [Nat.add_zero] at hat;have hdiv:=u_j hpos;refine⟨base l i,k,_,hat,hk,by rw [hdiv],fun hm=>?_,fun j' y' k' hj hy hk'=>?_,fun k' hk'=>?_⟩
 ·rw [o_d h hqm hk] at hm;rw [h0] at hm;cases hm
 ·rw [g_b hq,List.getElem?_append_left hj] at hy;have hym:=List.mem_of_getElem? hy;obtain⟨q',hq',k'',hk'',_,rfl⟩:=mem_tabs.1 hym;obtain⟨i',hi',e⟩:=List.getElem_of_mem hq';rw [List.length_take] at hi';rw [List.getElem_take] at e;have hql:l[i']?=some q':=by rw [List.getElem?_eq_getElem (by omega),e]
  rw [show (4*q'.f+k'')/4=q'.f by omega];exact (o_d h (List.mem_of_getElem? hql) hk').2 (h2 i' q' (by omega) hql k' hk')
 ·rw [hdiv];exact (o_d h hqm (by omega)).2 (h1 k' hk')
theorem free_pos {first:Nat} {u:List Nat} {a:Nat} (h:Fit first u 1 1 a):0<s_f u:=by
 have ha:a<u.length:=by have:=h.2.1;omega
 have h0:=h.2.2 a (Nat.le_refl _) (by omega);rw [r_ ha] at h0;exact List.countP_pos_iff.2 ⟨u[a],List.getElem_mem ha,by simp [h0]⟩
theorem a_k {first:Nat} {u:List Nat} (h:∀a,¬Fit first u 1 1 a):s_f u=0:=by
 refine n_h fun x hx e=>?_;obtain⟨i,hi,rfl⟩:=List.getElem_of_mem hx;refine h i ⟨by rw [Nat.mod_one],by omega,fun y h1 h2=>?_⟩;have:y=i:=by omega
 subst this;rw [r_ hi,e]
theorem z_g {u:List Nat} {a:Nat} (ha:a<u.length) (h0:u.getD a 0=0):s_f (turn u a (fun _=>1) 1)+1=s_f u:=by
 have:=H_h u a 1 ha;rw [r_ ha] at h0;rw [if_pos h0,if_neg (by decide)] at this;simp only [s_f,turn,Nat.add_zero] at *;exact this
theorem STake.least {p p':Pool} {l l':List Qr} {r e:Nat} (h:STake p l r e p' l') (hok:SlabOk l) :
  (∃x,Miss (tabs l) x∧r=x∧e=0∧p'.free=p.free∧r∈tabs l')∨(Full (tabs l)∧p.free=0∧e=42∧r=0∧l'=l) ∨
  (Full (tabs l)∧p.free≠0∧e=0∧r%4=0∧p'.free+1=p.free∧(t_c p l→r∉tabs l)∧r∈tabs l'):=by
 cases h with
 | old i k q hq hk h0 h1 h2 =>
  refine .inl ⟨_,miss_of hok hq hk h0 h1 h2,rfl,rfl,rfl,mem_tabs.2 ⟨q.set k true,?_,k,hk,by simp [Qr.set],rfl⟩⟩;exact List.mem_of_getElem? (by rw [List.getElem?_set];simp [(List.getElem?_eq_some_iff.1 hq).1]:(l.set i (q.set k true))[i]?=some (q.set k true))
 | none hf hn=>exact .inr (.inl ⟨Z_k hok hf,a_k hn,rfl,rfl,rfl⟩)
 | fresh hf a hfit hl =>
  have ha:a<p.u.length:=by have:=hfit.2.1;omega
  have hz:=hfit.2.2 a (Nat.le_refl _) (by omega);have hp:0<p.free:=free_pos hfit;refine .inr (.inr ⟨Z_k hok hf,by omega,rfl,by omega,z_g ha hz,fun hH hm=>?_,mem_tabs.2 ⟨Qr.new (p.first+a),?_,0,by decide,rfl,rfl⟩⟩)
  ·obtain⟨q,hq,k,hk,_,e⟩:=mem_tabs.1 hm;obtain⟨h1,h2,h3⟩:=hH q hq;rw [show q.f-p.first=a by omega] at h3;omega
  ·have:∀l:List Qr,Qr.new (p.first+a)∈insq (p.first+a) l:=by
    intro l
    induction l with
    | nil=>simp [insq]
    | cons x r ih=>unfold insq;split<;>simp [ih]
   exact this l
theorem v_j {q:Qr} {k:Nat} (hk:k<4):(q.set k false).tabs 4=(q.tabs 4).filter fun x=>decide (x≠4*q.f+k):=by
 unfold Qr.tabs;rw [List.filter_map,List.filter_filter];show ((List.range 4).filter (q.set k false).u).map (fun j=>4*q.f+j)=_
 congr 1
 apply List.filter_congr
 intro j hj;simp only [Qr.set,Function.comp_apply];by_cases e:j=k
 ·subst e;simp
 ·rw [if_neg e];have:decide (4*q.f+j≠4*q.f+k)=true:=by simp;omega
  rw [this];simp
theorem o_a {l:List Qr} {q:Qr} {k:Nat} (h:∀x∈l,x.f≠q.f) (hk:k<4):(tabs l).filter (fun x=>decide (x≠4*q.f+k))=tabs l:=by
 rw [List.filter_eq_self];intro x hx;obtain⟨q',hq',k',hk',_,rfl⟩:=mem_tabs.1 hx;have:=h q' hq';simp;omega
theorem U_h (l l':List Qr):tabs (l++l')=tabs l++tabs l':=by simp [tabs]
theorem g_j {l:List Qr} {i:Nat} {q:Qr} (hr:l.Pairwise fun a b=>a.f<b.f) (hq:l[i]?=some q):(∀x∈l.take i,x.f≠q.f)∧∀x∈l.drop (i+1),x.f≠q.f :=
 ⟨fun x hx=>m_k hr hq (by simp [hx]),fun x hx=>m_k hr hq (by simp [hx])⟩
theorem SDrop.tabs_eq {p p':Pool} {l l':List Qr} {t:Int} {e:Nat} (h:SDrop p l t e p' l') (hok:SlabOk l) {x:Nat} (hx:t=x):(e=45∧x∉tabs l∧l'=l∧p'=p)∨(e=0∧x∈tabs l∧tabs l'=(tabs l).filter fun y=>decide (y≠x)):=by
 cases h with
 | none h =>
  refine .inl ⟨rfl,fun hm=>?_,rfl,rfl⟩;obtain⟨q,hq,k,hk,hu,e⟩:=mem_tabs.1 hm;exact h q hq k hk hu (by omega)
 | more i k q hq hk hu ht hm =>
  have ex:x=4*q.f+k:=by omega
  subst ex;have hqm:=List.mem_of_getElem? hq;refine .inr ⟨rfl,(o_d hok hqm hk).2 hu,?_⟩;have hil:=(List.getElem?_eq_some_iff.1 hq).1;have hy:(l.set i (q.set k false))[i]?=some (q.set k false):=by simp [hil]
  obtain⟨n1,n2⟩:=g_j hok.rise hq;rw [g_b hy,g_b hq,List.filter_append,List.filter_append,o_a n1 hk,o_a n2 hk,v_j hk,List.take_set_of_le (Nat.le_refl _),List.drop_set_of_lt (by omega)]
 | last i k q hq hk hu ht hm =>
  have ex:x=4*q.f+k:=by omega
  subst ex;have hqm:=List.mem_of_getElem? hq;refine .inr ⟨rfl,(o_d hok hqm hk).2 hu,?_⟩;obtain⟨n1,n2⟩:=g_j hok.rise hq;have hqt:(q.tabs 4).filter (fun x=>decide (x≠4*q.f+k))=[]:=by
   rw [List.filter_eq_nil_iff];intro y hy;obtain⟨k',hk',hu',rfl⟩:=mem_qtabs.1 hy;have:k'=k:=by
    refine Classical.byContradiction fun hne=>?_;rw [hm k' hk' hne] at hu';cases hu'
   subst this;simp
  rw [U_h,g_b hq,List.filter_append,List.filter_append,o_a n1 hk,o_a n2 hk,hqt,List.nil_append]
theorem i_d {L:List Nat} (h:L.Pairwise (·<·)):L.Nodup:=h.imp fun hab=>by omega
theorem tabs_nil {l:List Qr} (h:SlabOk l) (e:tabs l=[]):l=[]:=by
 cases l with
 | nil=>rfl
 | cons q r =>
  have:=p_g h (q:=q) (by simp);have h2:(tabs (q :: r)).length=0:=by rw [e];rfl
  simp only [tabs,List.flatMap_cons,List.length_append] at h2;omega
def Ones (p:Pool) (l:List Qr):Prop:=∀q∈l,p.u.getD (q.f-p.first) 0=1
theorem STake.ones {p p':Pool} {l l':List Qr} {r e:Nat} (h:STake p l r e p' l') (hH:t_c p l) (h1:Ones p l):Ones p' l'∧(∀lb,t_c p lb→Ones p lb→Ones p' lb)∧p'.free+l'.length=p.free+l.length∧p'.first=p.first∧p'.u.length=p.u.length:=by
 cases h with
 | old i k q hq hk h0 _ _ =>
  refine⟨fun x hx=>?_,fun lb _ h=>h,by rw [List.length_set],rfl,rfl⟩;obtain⟨z,hz,e⟩:=v_b (y:=q.set k true) hq rfl hx;rw [←e];exact h1 z hz
 | none=>exact⟨h1,fun lb _ h=>h,rfl,rfl,rfl⟩
 | fresh h a hf hl =>
  have ha:a<p.u.length:=by have:=hf.2.1;omega
  have hz:p.u.getD a 0=0:=hf.2.2 a (Nat.le_refl _) (by omega);have keep:∀lb,t_c p lb→Ones p lb→Ones (p.turned a (fun _=>1) 1) lb:=by
   intro lb hb h1 q hq;show (p.turned a (fun _=>1) 1).u.getD (q.f-p.first) 0=1;rw [V_a _ _ _ _ ha];split
   ·rfl
   ·exact h1 q hq
  refine⟨fun q hq=>?_,keep,?_,rfl,e_ _ _ _ _⟩
  ·rcases E_g hq with rfl|hq
   ·show (p.turned a (fun _=>1) 1).u.getD (p.first+a-p.first) 0=1;rw [V_a _ _ _ _ ha,if_pos (by omega)]
   ·exact keep l hH h1 q hq
  ·have h2:s_f (turn p.u a (fun _=>1) 1)+1=s_f p.u:=z_g ha hz;have h3:∀l:List Qr,(insq (p.first+a) l).length=l.length+1:=by
    intro l
    induction l with
    | nil=>rfl
    | cons x r ih=>unfold insq;split<;>simp [ih]
   rw [h3];show s_f (turn p.u a (fun _=>1) 1)+_=s_f p.u+_;omega
theorem ins_iff {f:Nat} {q:Qr}:∀{l:List Qr},q∈insq f l↔q=Qr.new f∨q∈l
 | []=>by simp [insq]
 | x :: r=>by
  unfold insq;split
  ·simp only [List.mem_cons,ins_iff (l:=r)];constructor
   ·rintro (h|h|h)
    ·exact .inr (.inl h)
    ·exact .inl h
    ·exact .inr (.inr h)
   ·rintro (h|h|h)
    ·exact .inr (.inl h)
    ·exact .inl h
    ·exact .inr (.inr h)
  ·simp
theorem S_i {f:Nat}:∀{l:List Qr},l.Pairwise (fun a b=>a.f<b.f)→(∀q∈l,q.f≠f)→(insq f l).Pairwise fun a b=>a.f<b.f
 | [],_,_=>by simp [insq]
 | x :: r,h,hn=>by
  obtain⟨h1,h2⟩:=List.pairwise_cons.1 h;have hx:=hn x (by simp);unfold insq;split
  ·refine List.pairwise_cons.2 ⟨fun y hy=>?_,S_i h2 fun q hq=>hn q (by simp [hq])⟩;rcases ins_iff.1 hy with rfl|hy
   ·assumption
   ·exact h1 y hy
  ·refine List.pairwise_cons.2 ⟨fun y hy=>?_,h⟩;rcases List.mem_cons.1 hy with rfl|hy
   ·show f<y.f;omega
   ·have:=h1 y hy;show f<y.f;omega
theorem SlabOk.insq {l:List Qr} (h:SlabOk l) {f:Nat} (hf:f<268435456) (hn:∀q∈l,q.f≠f):SlabOk (insq f l):=by
 refine⟨fun q hq=>?_,S_i h.rise hn,fun q hq=>?_⟩
 ·rcases ins_iff.1 hq with rfl|hq
  ·exact hf
  ·exact h.lt q hq
 ·rcases ins_iff.1 hq with rfl|hq
  ·exact⟨0,by decide,rfl⟩
  ·exact h.any q hq
theorem STake.det {p p1 p2:Pool} {l l1 l2:List Qr} {r1 r2 e1 e2:Nat} (h1:STake p l r1 e1 p1 l1) (h2:STake p l r2 e2 p2 l2):r1=r2∧e1=e2∧p1=p2∧l1=l2:=by
 cases h1 with
 | old i k q hq hk h0 hu hf=>cases h2 with
  | old i' k' q' hq' hk' h0' hu' hf' =>
   have ei:i=i':=by
    rcases Nat.lt_trichotomy i i' with h|h|h
    ·have:=hf' i q h hq k hk;rw [h0] at this;cases this
    ·exact h
    ·have:=hf i' q' h hq' k' hk';rw [h0'] at this;cases this
   subst ei;rw [hq] at hq';injection hq' with hq';subst hq'
   have ek:k=k':=by
    rcases Nat.lt_trichotomy k k' with h|h|h
    ·have:=hu' k h;rw [h0] at this;cases this
    ·exact h
    ·have:=hu k' h;rw [h0'] at this;cases this
   subst ek;exact⟨rfl,rfl,rfl,rfl⟩
  | none h=>have:=h q (List.mem_of_getElem? hq) k hk;rw [h0] at this;cases this
  | fresh h=>have:=h q (List.mem_of_getElem? hq) k hk;rw [h0] at this;cases this
 | none h hn=>cases h2 with
  | old i k q hq hk h0=>have:=h q (List.mem_of_getElem? hq) k hk;rw [h0] at this;cases this
  | none=>exact⟨rfl,rfl,rfl,rfl⟩
  | fresh _ a hf=>exact absurd hf (hn a)
 | fresh h a hf hl=>cases h2 with
  | old i k q hq hk h0=>have:=h q (List.mem_of_getElem? hq) k hk;rw [h0] at this;cases this
  | none _ hn=>exact absurd hf (hn a)
  | fresh _ a' hf' hl' =>
   have:a=a':=by
    rcases Nat.lt_trichotomy a a' with h|h|h
    ·exact absurd hf (hl' a h)
    ·exact h
    ·exact absurd hf' (hl a' h)
   subst this;exact⟨rfl,rfl,rfl,rfl⟩
theorem SDrop.det {p p1 p2:Pool} {l l1 l2:List Qr} {t:Int} {e1 e2:Nat} (hok:SlabOk l) (h1:SDrop p l t e1 p1 l1) (h2:SDrop p l t e2 p2 l2):e1=e2∧p1=p2∧l1=l2:=by
 have uni:∀{i k i' k':Nat} {q q':Qr},l[i]?=some q→l[i']?=some q'→k<4→k'<4→t=4*(q.f:Int)+k→t=4*(q'.f:Int)+k'→i=i'∧k=k'∧q=q':=by
  intro i k i' k' q q' hq hq' hk hk' e e';have hqq:=same_f hok (List.mem_of_getElem? hq) (List.mem_of_getElem? hq') (by omega);subst hqq;refine⟨?_,by omega,rfl⟩;obtain⟨hi,hi2⟩:=List.getElem?_eq_some_iff.1 hq;obtain⟨hi',hi2'⟩:=List.getElem?_eq_some_iff.1 hq';rcases Nat.lt_trichotomy i i' with h|h|h
  ·have:=List.pairwise_iff_getElem.1 hok.rise i i' hi hi' h;rw [hi2,hi2'] at this;omega
  ·exact h
  ·have:=List.pairwise_iff_getElem.1 hok.rise i' i hi' hi h;rw [hi2,hi2'] at this;omega
 cases h1 with
 | none h=>cases h2 with
  | none=>exact⟨rfl,rfl,rfl⟩
  | more i k q hq hk hu ht=>exact absurd ht (h q (List.mem_of_getElem? hq) k hk hu)
  | last i k q hq hk hu ht=>exact absurd ht (h q (List.mem_of_getElem? hq) k hk hu)
 | more i k q hq hk hu ht hm=>cases h2 with
  | none h=>exact absurd ht (h q (List.mem_of_getElem? hq) k hk hu)
  | more i' k' q' hq' hk' hu' ht' hm' =>
   obtain⟨rfl,rfl,rfl⟩:=uni hq hq' hk hk' ht ht';exact⟨rfl,rfl,rfl⟩
  | last i' k' q' hq' hk' hu' ht' hm' =>
   obtain⟨rfl,rfl,rfl⟩:=uni hq hq' hk hk' ht ht';obtain⟨j,j1,j2,j3⟩:=hm;rw [hm' j j1 j2] at j3;cases j3
 | last i k q hq hk hu ht hm=>cases h2 with
  | none h=>exact absurd ht (h q (List.mem_of_getElem? hq) k hk hu)
  | more i' k' q' hq' hk' hu' ht' hm' =>
   obtain⟨rfl,rfl,rfl⟩:=uni hq hq' hk hk' ht ht';obtain⟨j,j1,j2,j3⟩:=hm';rw [hm j j1 j2] at j3;cases j3
  | last i' k' q' hq' hk' hu' ht' hm' =>
   obtain⟨rfl,rfl,rfl⟩:=uni hq hq' hk hk' ht ht';exact⟨rfl,rfl,rfl⟩
theorem R_h {p:Pool} {l:List Qr} {k0 N:Nat} {fn:Nat→Nat} (h:t_c p l) (hl:k0+N≤p.u.length) (hf:∀q∈l,k0≤q.f-p.first→q.f-p.first<k0+N→0<fn (p.u.getD (q.f-p.first) 0)):t_c (p.turned k0 fn N) l:=by
 intro q hq;obtain⟨h1,h2,h3⟩:=h q hq;refine⟨h1,by simp only [Pool.turned,e_];exact h2,?_⟩;show 0<(turn p.u k0 fn N).getD (q.f-p.first) 0;rw [O_b _ _ _ _ _ hl];split
 ·rename_i hc;exact hf q hq hc.1 hc.2
 ·exact h3
theorem PTake.held {p p':Pool} {n al:Int} {r e:Nat} (h:PTake p n al r e p') {l:List Qr} (hl:t_c p l):t_c p' l:=by
 cases h with
 | bad=>exact hl
 | none=>exact hl
 | ok _ a hf=>exact R_h hl hf.2.1 fun q hq _ _=>Nat.one_pos
theorem x_j {q:Qr} {k:Nat} (h:q.u k=false):(q.set k true).set k false=q:=by
 obtain⟨f,u⟩:=q;simp only [Qr.set,Qr.mk.injEq,true_and]
 funext j
 by_cases e:j=k
 ·subst e;simpa using h
 ·simp [e]
theorem R_i (f:Nat):∀l:List Qr,∃i,(insq f l)[i]?=some (Qr.new f)∧(insq f l).take i++(insq f l).drop (i+1)=l
 | []=>⟨0,by simp [insq],by simp [insq]⟩
 | x :: r=>by
  unfold insq;split
  ·obtain⟨i,h1,h2⟩:=R_i f r;exact⟨i+1,by simpa using h1,by simpa using h2⟩
  ·exact⟨0,by simp,by simp⟩
theorem S_h {p:Pool} {a:Nat} (ha:a<p.u.length) (h0:p.u.getD a 0=0):(p.turned a (fun _=>1) 1).turned a (· - 1) 1=p:=by
 obtain⟨first,u⟩:=p;simp only [Pool.turned,Pool.mk.injEq,true_and]
 apply List.ext_getElem?
 intro j;have hl:(turn (turn u a (fun _=>1) 1) a (· - 1) 1).length=u.length:=by rw [e_,e_]
 by_cases hj:j<u.length
 ·have h1:=V_a ⟨first,turn u a (fun _=>1) 1⟩ a (· - 1) j (by simpa [e_] using ha);have h2:=V_a ⟨first,u⟩ a (fun _=>1) j ha;have h3:=V_a ⟨first,u⟩ a (fun _=>1) a ha;simp only [Pool.turned] at h1 h2 h3;rw [List.getElem?_eq_getElem (by omega),List.getElem?_eq_getElem hj];rw [r_ (by omega)] at h1
  congr 1
  rw [h1,h3,h2];simp only at h0;split
  ·rename_i e;subst e;rw [r_ hj] at h0;simp [h0]
  ·rw [r_ hj]
 ·rw [List.getElem?_eq_none (by omega),List.getElem?_eq_none (by omega)]
theorem STake.undo {p p1:Pool} {l l1:List Qr} {r:Nat} (h:STake p l r 0 p1 l1) (hok:SlabOk l):SDrop p1 l1 (r:Int) 0 p l:=by
 generalize he:(0:Nat)=e at h;cases h with
 | old i k q hq hk h0 h1 h2 =>
  have hil:=(List.getElem?_eq_some_iff.1 hq).1;have hy:(l.set i (q.set k true))[i]?=some (q.set k true):=by simp [hil]
  obtain⟨k',hk',hu'⟩:=hok.any q (List.mem_of_getElem? hq);have:=SDrop.more (p:=p) (l:=l.set i (q.set k true)) (t:=((4*q.f+k:Nat):Int)) i k (q.set k true) hy hk (by simp [Qr.set]) (by show ((4*q.f+k:Nat):Int)=4*(q.f:Int)+k;omega)
   ⟨k',hk',(fun e=>by rw [e,h0] at hu';cases hu'),by simp [Qr.set,hu']⟩
  rw [x_j h0,List.set_set] at this;have e2:l.set i q=l:=by
   obtain⟨h3,h4⟩:=List.getElem?_eq_some_iff.1 hq;rw [←h4];exact List.set_getElem_self h3
  rw [e2] at this;exact he ▸ this
 | none=>cases he
 | fresh hf a hfit hl =>
  have ha:a<p.u.length:=by have:=hfit.2.1;omega
  have hz:=hfit.2.2 a (Nat.le_refl _) (by omega);obtain⟨i,h1,h2⟩:=R_i (p.first+a) l;have:=SDrop.last (p:=p.turned a (fun _=>1) 1) (l:=insq (p.first+a) l) (t:=((4*(p.first+a):Nat):Int)) i 0 (Qr.new (p.first+a)) h1 (by decide) rfl (by show ((4*(p.first+a):Nat):Int)=4*((p.first+a:Nat):Int)+((0:Nat):Int);omega)
   (fun k' hk' hne=>by simp [Qr.new,hne])
  rw [h2] at this;have e3:(Qr.new (p.first+a)).f-(p.turned a (fun _=>1) 1).first=a:=by show p.first+a-p.first=a;omega
  rw [e3,S_h ha hz] at this;exact he ▸ this
end Go.Proofs.YtmgjicnipgdjhaaGreatDoor
set_option maxRecDepth 100000
set_option maxHeartbeats 4000000
namespace Go.Proofs.YtmgjicnipgdjhaaGreatDoor
open Go Go.Sh Go.Proofs
open Go.IntKind (i64 u64 u32)
def F36 (m0:Addr) (pa1:Int) (w:World) (Q:KQ):Prop :=
 lp_ w (at0 m0 0) fun a=>A_ prog 81 #[.pointer a,.int .u64 pa1] w fun b c=>I_ b fun d=>Uui d fun e f g=>UnN g (Q (Value.tuple #[.int .u32 e,.int .i64 f]) c)
theorem F36_of {m0 pa1 w Q} (h:F36 m0 pa1 w Q):Ret prog 36 #[.pointer (some m0),.int .u64 pa1] w Q:=co Tryz.func36 h
def F81 (m0:Addr) (pa1:Int) (w:World) (Q:KQ):Prop :=
 A_ prog 153 #[.pointer (some m0),.int .u64 pa1,.int .u64 4] w fun c a=>AsI .i64 c fun b=>BIf (b != 0) (Q (Value.tuple #[.int .u32 0,.int .i64 b]) a) (A_ prog 154 #[.pointer (some m0),.int .u64 pa1,.int .u64 4] a fun d e=>AsI .u32 d fun f=>Q (Value.tuple #[.int .u32 f,.int .i64 0]) e)
theorem F81_of {m0 pa1 w Q} (h:F81 m0 pa1 w Q):Ret prog 81 #[.pointer (some m0),.int .u64 pa1] w Q:=co Tryz.func81 h
def F83 (frames0:Int) (w:World) (Q:KQ):Prop :=
 BIf (decide (frames0<1)) (Q (Value.tuple #[.pointer none,.int .i64 1]) w) (BIf (decide (frames0>65536)) (Q (Value.tuple #[.pointer none,.int .i64 1]) w) (RunV prog (Instr.makeMap 283 none) w fun a b=>AsM a fun c=>New b #[.int .i64 frames0,Value.map c] 285 fun d e=>Q (Value.tuple #[.pointer (some d),.int .i64 0]) e))
theorem F83_of {frames0 w Q} (h:F83 frames0 w Q):Ret prog 83 #[.int .i64 frames0] w Q:=co Tryz.func83 h
def F124 (m0:Addr) (frame1:Int) (w:World) (Q:KQ):Prop :=
 BIf (decide (frame1<0)) (Q (.int .i64 30) w) (li_ w (at0 m0 0) .i64 fun a=>BIf (decide (frame1≥a)) (Q (.int .i64 30) w) (lm_ w (at0 m0 1) fun b=>RunV prog (Builtin.delete_ #[(283:Nat),(3:Nat)] (0:Nat) #[Value.map b,.int .i64 frame1]) w fun c d=>I_ c fun e=>UnN e (Q (.int .i64 0) d)))
theorem F124_of {m0 frame1 w Q} (h:F124 m0 frame1 w Q):Ret prog 124 #[.pointer (some m0),.int .i64 frame1] w Q:=co Tryz.func124 h
def F153 (m0:Addr) (pa1 n2:Int) (w:World) (Q:KQ):Prop :=
 NZ n2 (BIf (pa1.tmod n2 != 0) (Q (.int .i64 2) w) (A_ prog 197 #[.pointer (some m0)] w fun b a=>AsI .u64 b fun c=>BIf (decide (pa1≥c)) (Q (.int .i64 30) a) (Q (.int .i64 0) a)))
theorem F153_of {m0 pa1 n2 w Q} (h:F153 m0 pa1 n2 w Q):Ret prog 153 #[.pointer (some m0),.int .u64 pa1,.int .u64 n2] w Q:=co Tryz.func153 h
def F154 (m0:Addr) (pa1 n2:Int) (w:World) (Q:KQ):Prop :=
 lm_ w (at0 m0 1) fun e=>q_f prog (Instr.lookup 283 (Value.map e) (.int .i64 (i64.wrap (u64.wrap (pa1.tdiv (4096:Int))))) false) w fun f=>AsP f fun c=>BIf c.isNone (Q (.int .u32 0) w) (Sh.Loop [.int .u64 n2,.int .u32 0] w fun g h b=>Uvu h fun a d i=>UnN i (BIf (decide (a>0)) (NilP c fun j=>0≤u64.wrap (u64.wrap (pa1.tmod (4096:Int)+a)-1)∧u64.wrap (u64.wrap (pa1.tmod (4096:Int)+a)-1)<(↑(4096:Nat):Int)∧Ld b (at0 j ((u64.wrap (u64.wrap (pa1.tmod (4096:Int)+a)-1)).toNat*1)) fun k=>AsI .u8 k fun l=>g [.int .u64 (u64.wrap (a-1)),.int .u32 (orI u32 (l_ u32 d (8:Int)) (u32.wrap l))] b) (Q (.int .u32 d) b)))
theorem F154_of {m0 pa1 n2 w Q} (h:F154 m0 pa1 n2 w Q):Ret prog 154 #[.pointer (some m0),.int .u64 pa1,.int .u64 n2] w Q:=co Tryz.func154 h
def F156 (m0:Addr) (w:World) (Q:KQ):Prop :=
 li_ w (at0 m0 0) .i64 fun a=>Q (.int .i64 a) w
theorem F156_of {m0 w Q} (h:F156 m0 w Q):Ret prog 156 #[.pointer (some m0)] w Q:=co Tryz.func156 h
def F184 (m0:Addr) (pa1 v2:Int) (w:World) (Q:KQ):Prop :=
 A_ prog 153 #[.pointer (some m0),.int .u64 pa1,.int .u64 4] w fun c b=>AsI .i64 c fun a=>BIf (a==0) (A_ prog 246 #[.pointer (some m0),.int .u64 pa1,.int .u64 4,.int .u32 v2] b fun d e=>I_ d fun f=>UnN f (Q (.int .i64 a) e)) (Q (.int .i64 a) b)
theorem F184_of {m0 pa1 v2 w Q} (h:F184 m0 pa1 v2 w Q):Ret prog 184 #[.pointer (some m0),.int .u64 pa1,.int .u32 v2] w Q:=co Tryz.func184 h
def F197 (m0:Addr) (w:World) (Q:KQ):Prop :=
 li_ w (at0 m0 0) .i64 fun a=>Q (.int .u64 (u64.wrap (u64.wrap a*4096))) w
theorem F197_of {m0 w Q} (h:F197 m0 w Q):Ret prog 197 #[.pointer (some m0)] w Q:=co Tryz.func197 h
def F198 (m0:Addr) (pa1:Int) (w:World) (Q:KQ):Prop :=
 lm_ w (at0 m0 1) fun d=>q_f prog (Instr.lookup 283 (Value.map d) (.int .i64 (i64.wrap (u64.wrap (pa1.tdiv (4096:Int))))) false) w fun e=>AsP e fun a=>BIf a.isNone (RunP prog (Instr.build 386 #[]) fun f=>New w f.cells (386:Nat) fun b c=>lm_ c (at0 m0 1) fun g=>H_j prog (Instr.mapUpdate 283 (Value.map g) (.int .i64 (i64.wrap (u64.wrap (pa1.tdiv (4096:Int))))) (.pointer (some b))) c fun h=>Q (.pointer (some b)) h) (Q (.pointer a) w)
theorem F198_of {m0 pa1 w Q} (h:F198 m0 pa1 w Q):Ret prog 198 #[.pointer (some m0),.int .u64 pa1] w Q:=co Tryz.func198 h
def F246 (m0:Addr) (pa1 n2 v3:Int) (w:World) (Q:KQ):Prop :=
 A_ prog 198 #[.pointer (some m0),.int .u64 pa1] w fun d e=>AsP d fun f=>Sh.Loop [.int .u64 0,.int .u32 v3] e fun g h b=>Uvu h fun a c i=>UnN i (BIf (decide (a<n2)) (NilP f fun j=>0≤u64.wrap (pa1.tmod (4096:Int)+a)∧u64.wrap (pa1.tmod (4096:Int)+a)<(↑(4096:Nat):Int)∧St b (at0 j ((u64.wrap (pa1.tmod (4096:Int)+a)).toNat*1)) (.int .u8 (IntKind.u8.wrap c)) fun k=>g [.int .u64 (u64.wrap (a+1)),.int .u32 (W_ u32 c (8:Int))] k) (Q (Value.tuple #[]) b))
theorem F246_of {m0 pa1 n2 v3 w Q} (h:F246 m0 pa1 n2 v3 w Q):Ret prog 246 #[.pointer (some m0),.int .u64 pa1,.int .u64 n2,.int .u32 v3] w Q:=co Tryz.func246 h
def F84  (w:World) (Q:KQ):Prop :=
 New w #[.int .u32 0,.int .u32 0,.int .u32 0,.int .u32 0,.int .u32 0,.int .u32 0,.int .u32 0,.int .u32 0,.int .u32 0,.int .u32 0,.int .u32 0,.int .u32 0,.int .u32 0] 288 fun b c=>LdR c { block:=(0:Nat),off:=(0:Nat) } (78:Nat) fun g=>Sh.Loop [.int .i64 0] c fun h i d=>ui_ i .i64 fun a j=>UnN j (BIf (decide (a<13)) (RunP prog (Instr.index 291 (Value.agg g.toArray) (.int .i64 a)) fun k=>V_ k fun l=>T_g l fun m n o p r t u=>UnN u (New d #[.int .i64 0,.int .i64 0,.int .i64 0,.int .i64 0,.int .u32 0,.int .u32 0] 290 fun e v=>S_6 v e (.int .i64 m) (.int .i64 n) (.int .i64 o) (.int .i64 p) (.int .u32 r) (.int .u32 t) fun f=>li_ f.drew (at0 e 5) .u32 fun x=>0≤a∧a<(↑(13:Nat):Int)∧St f.drew (at0 (at0 b 0) (a.toNat*1)) (.int .u32 x) fun y=>h [.int .i64 (i64.wrap (a+1))] y)) (Q (.pointer (some b)) d))
theorem F84_of  (w:World) (Q:KQ) (h:F84  w Q):Ret prog 84 #[] w Q:=co Tryz.func84 h
def F186 (f0:Addr) (w:World) (Q:KQ):Prop :=
 New w #[.pointer (some f0)] 163 fun a a5=>New a5 #[.bool false,.bool false,.bool false,.int .i64 0,.bool false,.bool false,.int .u64 0,.int .u64 0,.int .u32 0,.int .u32 0,.int .u32 0,.int .i64 0] 52 fun h b=>lp_ b a fun a6=>NilP a6 fun a7=>(0:Int)≤3∧(3:Int)<(↑(13:Nat):Int)∧li_ b (at0 (at0 a7 0) 3) .u32 fun a3=>lp_ b.drew a fun i=>NilP i fun j=>(0:Int)≤1∧(1:Int)<(↑(13:Nat):Int)∧li_ b.drew (at0 (at0 j 0) 1) .u32 fun k=>NN (i64.wrap ((14:Int)-i64.wrap (Q_ u32 a3 (7:Int)))) (lp_ b.drew a fun l=>NilP l fun m=>(0:Int)≤2∧(2:Int)<(↑(13:Nat):Int)∧li_ b.drew (at0 (at0 m 0) 2) .u32 fun n=>lp_ b.drew a fun o=>NilP o fun p=>(0:Int)≤4∧(4:Int)<(↑(13:Nat):Int)∧li_ b.drew (at0 (at0 p 0) 4) .u32 fun r=>lp_ b.drew a fun t=>NilP t fun u=>(0:Int)≤10∧(10:Int)<(↑(13:Nat):Int)∧li_ b.drew (at0 (at0 u 0) 10) .u32 fun v=>lp_ b.drew a fun x=>NilP x fun y=>(0:Int)≤11∧(11:Int)<(↑(13:Nat):Int)∧li_ b.drew (at0 (at0 y 0) 11) .u32 fun z=>lp_ b.drew a fun a0=>NilP a0 fun a1=>(0:Int)≤12∧(12:Int)<(↑(13:Nat):Int)∧li_ b.drew (at0 (at0 a1 0) 12) .u32 fun a2=>FnV prog (Value.func (Fn.func 248) #[] #[.pointer (some a)]) [.int .i64 0,.int .i64 0] b.drew fun a8 c=>AsB a8 fun a9=>ce_ c (at0 (at0 a1 0) 12) (.int .u32 a2)∧ce_ c a (.pointer a0)∧ce_ c (at0 (at0 y 0) 11) (.int .u32 z)∧ce_ c a (.pointer x)∧ce_ c (at0 (at0 u 0) 10) (.int .u32 v)∧ce_ c a (.pointer t)∧ce_ c (at0 (at0 p 0) 4) (.int .u32 r)∧ce_ c a (.pointer o)∧ce_ c (at0 (at0 m 0) 2) (.int .u32 n)∧ce_ c a (.pointer l)∧ce_ c (at0 (at0 j 0) 1) (.int .u32 k)∧ce_ c a (.pointer i)∧FnV prog (Value.func (Fn.func 248) #[] #[.pointer (some a)]) [.int .i64 0,.int .i64 28] c fun aa d=>AsB aa fun ab=>ce_ d (at0 (at0 a1 0) 12) (.int .u32 a2)∧ce_ d a (.pointer a0)∧ce_ d (at0 (at0 y 0) 11) (.int .u32 z)∧ce_ d a (.pointer x)∧ce_ d (at0 (at0 u 0) 10) (.int .u32 v)∧ce_ d a (.pointer t)∧ce_ d (at0 (at0 p 0) 4) (.int .u32 r)∧ce_ d a (.pointer o)∧ce_ d (at0 (at0 m 0) 2) (.int .u32 n)∧ce_ d a (.pointer l)∧ce_ d (at0 (at0 j 0) 1) (.int .u32 k)∧ce_ d a (.pointer i)∧FnV prog (Value.func (Fn.func 248) #[] #[.pointer (some a)]) [.int .i64 0,.int .i64 29] d fun ac e=>AsB ac fun ad=>ce_ e (at0 (at0 a1 0) 12) (.int .u32 a2)∧ce_ e a (.pointer a0)∧ce_ e (at0 (at0 y 0) 11) (.int .u32 z)∧ce_ e a (.pointer x)∧ce_ e (at0 (at0 u 0) 10) (.int .u32 v)∧ce_ e a (.pointer t)∧ce_ e (at0 (at0 p 0) 4) (.int .u32 r)∧ce_ e a (.pointer o)∧ce_ e (at0 (at0 m 0) 2) (.int .u32 n)∧ce_ e a (.pointer l)∧ce_ e (at0 (at0 j 0) 1) (.int .u32 k)∧ce_ e a (.pointer i)∧FnV prog (Value.func (Fn.func 248) #[] #[.pointer (some a)]) [.int .i64 3,.int .i64 4] e fun ae f=>AsB ae fun af=>ce_ f (at0 (at0 a1 0) 12) (.int .u32 a2)∧ce_ f a (.pointer a0)∧ce_ f (at0 (at0 y 0) 11) (.int .u32 z)∧ce_ f a (.pointer x)∧ce_ f (at0 (at0 u 0) 10) (.int .u32 v)∧ce_ f a (.pointer t)∧ce_ f (at0 (at0 p 0) 4) (.int .u32 r)∧ce_ f a (.pointer o)∧ce_ f (at0 (at0 m 0) 2) (.int .u32 n)∧ce_ f a (.pointer l)∧ce_ f (at0 (at0 j 0) 1) (.int .u32 k)∧ce_ f a (.pointer i)∧FnV prog (Value.func (Fn.func 248) #[] #[.pointer (some a)]) [.int .i64 3,.int .i64 5] f fun ag g=>AsB ag fun ah=>ce_ g (at0 (at0 a1 0) 12) (.int .u32 a2)∧ce_ g a (.pointer a0)∧ce_ g (at0 (at0 y 0) 11) (.int .u32 z)∧ce_ g a (.pointer x)∧ce_ g (at0 (at0 u 0) 10) (.int .u32 v)∧ce_ g a (.pointer t)∧ce_ g (at0 (at0 p 0) 4) (.int .u32 r)∧ce_ g a (.pointer o)∧ce_ g (at0 (at0 m 0) 2) (.int .u32 n)∧ce_ g a (.pointer l)∧ce_ g (at0 (at0 j 0) 1) (.int .u32 k)∧ce_ g a (.pointer i)∧S_6 g h (.bool a9) (.bool ab) (.bool ad) (.int .i64 (i64.wrap (Q_ u32 a3 (7:Int)))) (.bool af) (.bool ah) fun ai=>St ai (at0 h 6) (.int .u64 (u64.wrap (n_ u32 k (u32.wrap (l_ u32 (1:Int) (i64.wrap ((14:Int)-i64.wrap (Q_ u32 a3 (7:Int))))-1))))) fun aj=>St aj (at0 h 7) (.int .u64 (u64.wrap n)) fun ak=>St ak (at0 h 8) (.int .u32 r) fun al=>St al (at0 h 9) (.int .u32 v) fun am=>St am (at0 h 10) (.int .u32 z) fun an=>St an (at0 h 11) (.int .i64 (i64.wrap (Q_ u32 a2 (255:Int)))) fun a4=>J_ a4 h fun ao ap aq ar au av ax ay az aA aB aC=>Q (Value.agg #[.bool ao,.bool ap,.bool aq,.int .i64 ar,.bool au,.bool av,.int .u64 ax,.int .u64 ay,.int .u32 az,.int .u32 aA,.int .u32 aB,.int .i64 aC]) a4)
theorem F186_of {f0 w Q} (h:F186 f0 w Q):Ret prog 186 #[.pointer (some f0)] w Q:=co Tryz.func186 h
def F206 (t0c0 t0c1 t0c2 t0c3:Int) (w:World) (Q:KQ):Prop :=
 New w #[.int .i64 t0c0,.int .i64 t0c1,.int .i64 t0c2,.int .i64 t0c3] 188 fun f c=>LdR c { block:=(0:Nat),off:=(0:Nat) } (78:Nat) fun g=>Sh.Loop [.int .i64 0,.bool false,.int .i64 0] c fun h i d=>Uibi i fun a j k l=>UnN l (BIf (decide (a<13)) (RunP prog (Instr.index 291 (Value.agg g.toArray) (.int .i64 a)) fun m=>V_ m fun n=>T_g n fun o p r t u v x=>UnN x (New d #[.int .i64 0,.int .i64 0,.int .i64 0,.int .i64 0,.int .u32 0,.int .u32 0] 290 fun e y=>S_6 y e (.int .i64 o) (.int .i64 p) (.int .i64 r) (.int .i64 t) (.int .u32 u) (.int .u32 v) fun b=>Q_c b (at0 e 0) fun z a0 a1 a2=>Q_c b f fun a3 a4 a5 a6=>RunP prog (v_ BinOp.eql 188 (Operand.tmp 12) (Operand.tmp 13) (Value.agg #[.int .i64 z,.int .i64 a0,.int .i64 a1,.int .i64 a2]) (Value.agg #[.int .i64 a3,.int .i64 a4,.int .i64 a5,.int .i64 a6])) fun a7=>AsB a7 fun a8=>BIf a8 (Q (Value.tuple #[.int .i64 a,.bool true]) b) (h [.int .i64 (i64.wrap (a+1)),.bool j,.int .i64 k] b))) (Q (Value.tuple #[.int .i64 0,.bool false]) d))
theorem F206_of {t0c0 t0c1 t0c2 t0c3 w Q} (h:F206 t0c0 t0c1 t0c2 t0c3 w Q):Ret prog 206 #[.agg #[.int .i64 t0c0,.int .i64 t0c1,.int .i64 t0c2,.int .i64 t0c3]] w Q:=co Tryz.func206 h
def F207 (t0c0 t0c1 t0c2 t0c3:Int) (w:World) (Q:KQ):Prop :=
 New w #[.int .i64 t0c0,.int .i64 t0c1,.int .i64 t0c2,.int .i64 t0c3] 188 fun b e=>New e #[Value.nilFunc,.bool false] 345 fun c f=>New f #[.int .i64 0,.int .i64 0,.int .i64 0,.int .i64 0] 390 fun d g=>S_4 g d (.int .i64 1) (.int .i64 2) (.int .i64 3) (.int .i64 4) fun a=>li_ a (at0 b 1) .i64 fun h=>BIf (h != 0) (f_ a c false Q) (li_ a (at0 b 3) .i64 fun i=>BIf (decide (i<0)) (f_ a c false Q) (li_ a (at0 b 0) .i64 fun j=>BIf (j==8) (li_ a (at0 b 3) .i64 fun k=>BIf (decide (k<4)) (li_ a (at0 b 2) .i64 fun l=>BIf (l==3) (L_j 254 a b d c Q) (li_ a (at0 b 2) .i64 fun m=>BIf (m==7) (L_j 254 a b d c Q) (li_ a (at0 b 3) .i64 fun n=>BIf (decide (n<3)) (li_ a (at0 b 2) .i64 fun o=>BIf (o==5) (L_j 254 a b d c Q) (li_ a (at0 b 2) .i64 fun p=>BIf (p==6) (L_j 254 a b d c Q) (li_ a (at0 b 0) .i64 fun r=>BIf (r==7) (li_ a (at0 b 2) .i64 fun t=>BIf (t==8) (li_ a (at0 b 3) .i64 fun u=>BIf (decide (u<4)) (s_h (Value.func (Fn.func 255) #[] #[.pointer (some b)]) a c Q) (li_ a (at0 b 0) .i64 fun v=>BIf (v==7) (li_ a (at0 b 2) .i64 fun x=>BIf (x==5) (li_ a (at0 b 3) .i64 fun y=>BIf (y==4) (g_ (Value.func (Fn.func 256) #[] #[]) (.bool true) a c Q) (li_ a (at0 b 2) .i64 fun z=>BIf (z==10) (li_ a (at0 b 3) .i64 fun a0=>BIf (a0==4) (g_ (Value.func (Fn.func 256) #[] #[]) (.bool true) a c Q) (li_ a (at0 b 3) .i64 fun a1=>BIf (a1==5) (g_ (Value.func (Fn.func 256) #[] #[]) (.bool true) a c Q) (f_ a c false Q))) (f_ a c false Q))) (li_ a (at0 b 2) .i64 fun a2=>BIf (a2==10) (li_ a (at0 b 3) .i64 fun a3=>BIf (a3==4) (g_ (Value.func (Fn.func 256) #[] #[]) (.bool true) a c Q) (li_ a (at0 b 3) .i64 fun a4=>BIf (a4==5) (g_ (Value.func (Fn.func 256) #[] #[]) (.bool true) a c Q) (f_ a c false Q))) (f_ a c false Q))) (f_ a c false Q))) (li_ a (at0 b 0) .i64 fun a5=>BIf (a5==7) (li_ a (at0 b 2) .i64 fun a6=>BIf (a6==5) (li_ a (at0 b 3) .i64 fun a7=>BIf (a7==4) (g_ (Value.func (Fn.func 256) #[] #[]) (.bool true) a c Q) (li_ a (at0 b 2) .i64 fun a8=>BIf (a8==10) (li_ a (at0 b 3) .i64 fun a9=>BIf (a9==4) (g_ (Value.func (Fn.func 256) #[] #[]) (.bool true) a c Q) (li_ a (at0 b 3) .i64 fun aa=>BIf (aa==5) (g_ (Value.func (Fn.func 256) #[] #[]) (.bool true) a c Q) (f_ a c false Q))) (f_ a c false Q))) (li_ a (at0 b 2) .i64 fun ab=>BIf (ab==10) (li_ a (at0 b 3) .i64 fun ac=>BIf (ac==4) (g_ (Value.func (Fn.func 256) #[] #[]) (.bool true) a c Q) (li_ a (at0 b 3) .i64 fun ad=>BIf (ad==5) (g_ (Value.func (Fn.func 256) #[] #[]) (.bool true) a c Q) (f_ a c false Q))) (f_ a c false Q))) (f_ a c false Q))) (li_ a (at0 b 0) .i64 fun ae=>BIf (ae==7) (li_ a (at0 b 2) .i64 fun af=>BIf (af==5) (li_ a (at0 b 3) .i64 fun ag=>BIf (ag==4) (g_ (Value.func (Fn.func 256) #[] #[]) (.bool true) a c Q) (li_ a (at0 b 2) .i64 fun ah=>BIf (ah==10) (li_ a (at0 b 3) .i64 fun ai=>BIf (ai==4) (g_ (Value.func (Fn.func 256) #[] #[]) (.bool true) a c Q) (li_ a (at0 b 3) .i64 fun aj=>BIf (aj==5) (g_ (Value.func (Fn.func 256) #[] #[]) (.bool true) a c Q) (f_ a c false Q))) (f_ a c false Q))) (li_ a (at0 b 2) .i64 fun ak=>BIf (ak==10) (li_ a (at0 b 3) .i64 fun al=>BIf (al==4) (g_ (Value.func (Fn.func 256) #[] #[]) (.bool true) a c Q) (li_ a (at0 b 3) .i64 fun am=>BIf (am==5) (g_ (Value.func (Fn.func 256) #[] #[]) (.bool true) a c Q) (f_ a c false Q))) (f_ a c false Q))) (f_ a c false Q))))) (li_ a (at0 b 0) .i64 fun an=>BIf (an==7) (li_ a (at0 b 2) .i64 fun ao=>BIf (ao==8) (li_ a (at0 b 3) .i64 fun ap=>BIf (decide (ap<4)) (s_h (Value.func (Fn.func 255) #[] #[.pointer (some b)]) a c Q) (li_ a (at0 b 0) .i64 fun aq=>BIf (aq==7) (li_ a (at0 b 2) .i64 fun ar=>BIf (ar==5) (li_ a (at0 b 3) .i64 fun au=>BIf (au==4) (g_ (Value.func (Fn.func 256) #[] #[]) (.bool true) a c Q) (li_ a (at0 b 2) .i64 fun av=>BIf (av==10) (li_ a (at0 b 3) .i64 fun ax=>BIf (ax==4) (g_ (Value.func (Fn.func 256) #[] #[]) (.bool true) a c Q) (li_ a (at0 b 3) .i64 fun ay=>BIf (ay==5) (g_ (Value.func (Fn.func 256) #[] #[]) (.bool true) a c Q) (f_ a c false Q))) (f_ a c false Q))) (li_ a (at0 b 2) .i64 fun az=>BIf (az==10) (li_ a (at0 b 3) .i64 fun aA=>BIf (aA==4) (g_ (Value.func (Fn.func 256) #[] #[]) (.bool true) a c Q) (li_ a (at0 b 3) .i64 fun aB=>BIf (aB==5) (g_ (Value.func (Fn.func 256) #[] #[]) (.bool true) a c Q) (f_ a c false Q))) (f_ a c false Q))) (f_ a c false Q))) (li_ a (at0 b 0) .i64 fun aC=>BIf (aC==7) (li_ a (at0 b 2) .i64 fun aD=>BIf (aD==5) (li_ a (at0 b 3) .i64 fun aE=>BIf (aE==4) (g_ (Value.func (Fn.func 256) #[] #[]) (.bool true) a c Q) (li_ a (at0 b 2) .i64 fun aF=>BIf (aF==10) (li_ a (at0 b 3) .i64 fun aG=>BIf (aG==4) (g_ (Value.func (Fn.func 256) #[] #[]) (.bool true) a c Q) (li_ a (at0 b 3) .i64 fun aH=>BIf (aH==5) (g_ (Value.func (Fn.func 256) #[] #[]) (.bool true) a c Q) (f_ a c false Q))) (f_ a c false Q))) (li_ a (at0 b 2) .i64 fun aI=>BIf (aI==10) (li_ a (at0 b 3) .i64 fun aJ=>BIf (aJ==4) (g_ (Value.func (Fn.func 256) #[] #[]) (.bool true) a c Q) (li_ a (at0 b 3) .i64 fun aK=>BIf (aK==5) (g_ (Value.func (Fn.func 256) #[] #[]) (.bool true) a c Q) (f_ a c false Q))) (f_ a c false Q))) (f_ a c false Q))) (li_ a (at0 b 0) .i64 fun aL=>BIf (aL==7) (li_ a (at0 b 2) .i64 fun aM=>BIf (aM==5) (li_ a (at0 b 3) .i64 fun aN=>BIf (aN==4) (g_ (Value.func (Fn.func 256) #[] #[]) (.bool true) a c Q) (li_ a (at0 b 2) .i64 fun aO=>BIf (aO==10) (li_ a (at0 b 3) .i64 fun aP=>BIf (aP==4) (g_ (Value.func (Fn.func 256) #[] #[]) (.bool true) a c Q) (li_ a (at0 b 3) .i64 fun aQ=>BIf (aQ==5) (g_ (Value.func (Fn.func 256) #[] #[]) (.bool true) a c Q) (f_ a c false Q))) (f_ a c false Q))) (li_ a (at0 b 2) .i64 fun aR=>BIf (aR==10) (li_ a (at0 b 3) .i64 fun aS=>BIf (aS==4) (g_ (Value.func (Fn.func 256) #[] #[]) (.bool true) a c Q) (li_ a (at0 b 3) .i64 fun aT=>BIf (aT==5) (g_ (Value.func (Fn.func 256) #[] #[]) (.bool true) a c Q) (f_ a c false Q))) (f_ a c false Q))) (f_ a c false Q)))))) (li_ a (at0 b 0) .i64 fun aU=>BIf (aU==7) (li_ a (at0 b 2) .i64 fun aV=>BIf (aV==8) (li_ a (at0 b 3) .i64 fun aW=>BIf (decide (aW<4)) (s_h (Value.func (Fn.func 255) #[] #[.pointer (some b)]) a c Q) (li_ a (at0 b 0) .i64 fun aX=>BIf (aX==7) (li_ a (at0 b 2) .i64 fun aY=>BIf (aY==5) (li_ a (at0 b 3) .i64 fun aZ=>BIf (aZ==4) (g_ (Value.func (Fn.func 256) #[] #[]) (.bool true) a c Q) (li_ a (at0 b 2) .i64 fun b0=>BIf (b0==10) (li_ a (at0 b 3) .i64 fun b1=>BIf (b1==4) (g_ (Value.func (Fn.func 256) #[] #[]) (.bool true) a c Q) (li_ a (at0 b 3) .i64 fun b2=>BIf (b2==5) (g_ (Value.func (Fn.func 256) #[] #[]) (.bool true) a c Q) (f_ a c false Q))) (f_ a c false Q))) (li_ a (at0 b 2) .i64 fun b3=>BIf (b3==10) (li_ a (at0 b 3) .i64 fun b4=>BIf (b4==4) (g_ (Value.func (Fn.func 256) #[] #[]) (.bool true) a c Q) (li_ a (at0 b 3) .i64 fun b5=>BIf (b5==5) (g_ (Value.func (Fn.func 256) #[] #[]) (.bool true) a c Q) (f_ a c false Q))) (f_ a c false Q))) (f_ a c false Q))) (li_ a (at0 b 0) .i64 fun b6=>BIf (b6==7) (li_ a (at0 b 2) .i64 fun b7=>BIf (b7==5) (li_ a (at0 b 3) .i64 fun b8=>BIf (b8==4) (g_ (Value.func (Fn.func 256) #[] #[]) (.bool true) a c Q) (li_ a (at0 b 2) .i64 fun b9=>BIf (b9==10) (li_ a (at0 b 3) .i64 fun ba=>BIf (ba==4) (g_ (Value.func (Fn.func 256) #[] #[]) (.bool true) a c Q) (li_ a (at0 b 3) .i64 fun bb=>BIf (bb==5) (g_ (Value.func (Fn.func 256) #[] #[]) (.bool true) a c Q) (f_ a c false Q))) (f_ a c false Q))) (li_ a (at0 b 2) .i64 fun bc=>BIf (bc==10) (li_ a (at0 b 3) .i64 fun bd=>BIf (bd==4) (g_ (Value.func (Fn.func 256) #[] #[]) (.bool true) a c Q) (li_ a (at0 b 3) .i64 fun be=>BIf (be==5) (g_ (Value.func (Fn.func 256) #[] #[]) (.bool true) a c Q) (f_ a c false Q))) (f_ a c false Q))) (f_ a c false Q))) (li_ a (at0 b 0) .i64 fun bf=>BIf (bf==7) (li_ a (at0 b 2) .i64 fun bg=>BIf (bg==5) (li_ a (at0 b 3) .i64 fun bh=>BIf (bh==4) (g_ (Value.func (Fn.func 256) #[] #[]) (.bool true) a c Q) (li_ a (at0 b 2) .i64 fun bi=>BIf (bi==10) (li_ a (at0 b 3) .i64 fun bj=>BIf (bj==4) (g_ (Value.func (Fn.func 256) #[] #[]) (.bool true) a c Q) (li_ a (at0 b 3) .i64 fun bk=>BIf (bk==5) (g_ (Value.func (Fn.func 256) #[] #[]) (.bool true) a c Q) (f_ a c false Q))) (f_ a c false Q))) (li_ a (at0 b 2) .i64 fun bl=>BIf (bl==10) (li_ a (at0 b 3) .i64 fun bm=>BIf (bm==4) (g_ (Value.func (Fn.func 256) #[] #[]) (.bool true) a c Q) (li_ a (at0 b 3) .i64 fun bn=>BIf (bn==5) (g_ (Value.func (Fn.func 256) #[] #[]) (.bool true) a c Q) (f_ a c false Q))) (f_ a c false Q))) (f_ a c false Q)))) (li_ a (at0 b 0) .i64 fun bo=>BIf (bo==7) (li_ a (at0 b 2) .i64 fun bp=>BIf (bp==8) (li_ a (at0 b 3) .i64 fun bq=>BIf (decide (bq<4)) (s_h (Value.func (Fn.func 255) #[] #[.pointer (some b)]) a c Q) (li_ a (at0 b 0) .i64 fun br=>BIf (br==7) (li_ a (at0 b 2) .i64 fun bs=>BIf (bs==5) (li_ a (at0 b 3) .i64 fun bt=>BIf (bt==4) (g_ (Value.func (Fn.func 256) #[] #[]) (.bool true) a c Q) (li_ a (at0 b 2) .i64 fun bu=>BIf (bu==10) (li_ a (at0 b 3) .i64 fun bv=>BIf (bv==4) (g_ (Value.func (Fn.func 256) #[] #[]) (.bool true) a c Q) (li_ a (at0 b 3) .i64 fun bx=>BIf (bx==5) (g_ (Value.func (Fn.func 256) #[] #[]) (.bool true) a c Q) (f_ a c false Q))) (f_ a c false Q))) (li_ a (at0 b 2) .i64 fun bz=>BIf (bz==10) (li_ a (at0 b 3) .i64 fun bA=>BIf (bA==4) (g_ (Value.func (Fn.func 256) #[] #[]) (.bool true) a c Q) (li_ a (at0 b 3) .i64 fun bB=>BIf (bB==5) (g_ (Value.func (Fn.func 256) #[] #[]) (.bool true) a c Q) (f_ a c false Q))) (f_ a c false Q))) (f_ a c false Q))) (li_ a (at0 b 0) .i64 fun bC=>BIf (bC==7) (li_ a (at0 b 2) .i64 fun bD=>BIf (bD==5) (li_ a (at0 b 3) .i64 fun bE=>BIf (bE==4) (g_ (Value.func (Fn.func 256) #[] #[]) (.bool true) a c Q) (li_ a (at0 b 2) .i64 fun bF=>BIf (bF==10) (li_ a (at0 b 3) .i64 fun bG=>BIf (bG==4) (g_ (Value.func (Fn.func 256) #[] #[]) (.bool true) a c Q) (li_ a (at0 b 3) .i64 fun bH=>BIf (bH==5) (g_ (Value.func (Fn.func 256) #[] #[]) (.bool true) a c Q) (f_ a c false Q))) (f_ a c false Q))) (li_ a (at0 b 2) .i64 fun bI=>BIf (bI==10) (li_ a (at0 b 3) .i64 fun bJ=>BIf (bJ==4) (g_ (Value.func (Fn.func 256) #[] #[]) (.bool true) a c Q) (li_ a (at0 b 3) .i64 fun bK=>BIf (bK==5) (g_ (Value.func (Fn.func 256) #[] #[]) (.bool true) a c Q) (f_ a c false Q))) (f_ a c false Q))) (f_ a c false Q))) (li_ a (at0 b 0) .i64 fun bL=>BIf (bL==7) (li_ a (at0 b 2) .i64 fun bM=>BIf (bM==5) (li_ a (at0 b 3) .i64 fun bN=>BIf (bN==4) (g_ (Value.func (Fn.func 256) #[] #[]) (.bool true) a c Q) (li_ a (at0 b 2) .i64 fun bO=>BIf (bO==10) (li_ a (at0 b 3) .i64 fun bP=>BIf (bP==4) (g_ (Value.func (Fn.func 256) #[] #[]) (.bool true) a c Q) (li_ a (at0 b 3) .i64 fun bQ=>BIf (bQ==5) (g_ (Value.func (Fn.func 256) #[] #[]) (.bool true) a c Q) (f_ a c false Q))) (f_ a c false Q))) (li_ a (at0 b 2) .i64 fun bR=>BIf (bR==10) (li_ a (at0 b 3) .i64 fun bS=>BIf (bS==4) (g_ (Value.func (Fn.func 256) #[] #[]) (.bool true) a c Q) (li_ a (at0 b 3) .i64 fun bT=>BIf (bT==5) (g_ (Value.func (Fn.func 256) #[] #[]) (.bool true) a c Q) (f_ a c false Q))) (f_ a c false Q))) (f_ a c false Q)))))
theorem z_k (t0c0 t0c1 t0c2 t0c3:Int) (w:World) (Q:KQ) (h:F207 t0c0 t0c1 t0c2 t0c3 w Q):Ret prog 207 #[.agg #[.int .i64 t0c0,.int .i64 t0c1,.int .i64 t0c2,.int .i64 t0c3]] w Q:=co Tryz.func207 h
def F248c (reg i:Int) (f:Addr) (w:World) (Q:KQ):Prop :=
 lp_ w f fun a=>NilP a fun b=>0≤reg∧reg<(↑(13:Nat):Int)∧li_ w (at0 (at0 b 0) (reg.toNat*1)) .u32 fun c=>NN i (Q (.bool (Q_ u32 (W_ u32 c i) (1:Int)==1)) w)
theorem F248c_of {reg i f w Q} (h:F248c reg i f w Q):Ret prog 248 #[.int .i64 reg,.int .i64 i,.pointer (some f)] w Q:=co Tryz.func248 h
def F254 (kind0:Int) (w:World) (Q:KQ):Prop :=
 New w #[.int .i64 kind0] 3 fun a b=>Q (Value.func (Fn.func 278) #[] #[.pointer (some a)]) b
theorem F254_of {kind0 w Q} (h:F254 kind0 w Q):Ret prog 254 #[.int .i64 kind0] w Q:=co Tryz.func254 h
def F278c (word:Int) (k:Addr) (w:World) (Q:KQ):Prop :=
 New w #[.int .i64 0,.int .i64 0,.int .u32 0,.int .i64 0,.int .u32 0,.bool false,.bool false] 264 fun b f=>li_ f k .i64 fun m=>New f #[.int .i64 0,.int .u32 0,.int .i64 0] 262 fun a n=>S_3 n a (.int .i64 m) (.int .u32 0) (.int .i64 0) fun d=>Join (fun o c=>UnN o (li_ c k .i64 fun p=>BIf (p==2) (St c (at0 a 2) (.int .i64 (i64.wrap (Q_ u32 word (255:Int)))) fun g=>X_g g a fun r t u=>S_7 g b (.int .i64 2) (.int .i64 r) (.int .u32 t) (.int .i64 u) (.int .u32 0) (.bool false) (.bool false) fun h=>i_ h b fun v x y z a0 a1 a2=>Q (Value.agg #[.int .i64 v,.int .i64 x,.int .u32 y,.int .i64 z,.int .u32 a0,.bool a1,.bool a2]) h) (li_ c k .i64 fun a3=>BIf (a3==3) (St c (at0 a 2) (.int .i64 (i64.wrap (Q_ u32 word (255:Int)))) fun i=>X_g i a fun a4 a5 a6=>S_7 i b (.int .i64 2) (.int .i64 a4) (.int .u32 a5) (.int .i64 a6) (.int .u32 0) (.bool false) (.bool false) fun j=>i_ j b fun a7 a8 a9 aa ab ac ad=>Q (Value.agg #[.int .i64 a7,.int .i64 a8,.int .u32 a9,.int .i64 aa,.int .u32 ab,.bool ac,.bool ad]) j) (X_g c a fun ae af ag=>S_7 c b (.int .i64 2) (.int .i64 ae) (.int .u32 af) (.int .i64 ag) (.int .u32 0) (.bool false) (.bool false) fun l=>i_ l b fun ah ai aj ak al am an=>Q (Value.agg #[.int .i64 ah,.int .i64 ai,.int .u32 aj,.int .i64 ak,.int .u32 al,.bool am,.bool an]) l)))) fun e=>li_ d k .i64 fun ao=>BIf (ao==2) (St d (at0 a 1) (.int .u32 (n_ u32 word (4095:Int))) fun ap=>e [] ap) (li_ d k .i64 fun aq=>BIf (aq==4) (St d (at0 a 1) (.int .u32 (n_ u32 word (4095:Int))) fun ar=>e [] ar) (e [] d))
theorem F278c_of {word k w Q} (h:F278c word k w Q):Ret prog 278 #[.int .u32 word,.pointer (some k)] w Q:=co Tryz.func278 h
def F155 (places0:Int) (w:World) (Q:KQ):Prop :=
 BIf (decide (places0<1)) (Q (Value.tuple #[.pointer none,.int .i64 100]) w) (BIf (decide (places0>64)) (Q (Value.tuple #[.pointer none,.int .i64 100]) w) (RunV prog (Instr.makeSlice 348 (.int .i64 places0) (.int .i64 places0)) w fun a b=>t_ a fun c d e=>New b #[Value.slice c d e] 350 fun f g=>Q (Value.tuple #[.pointer (some f),.int .i64 0]) g))
theorem F155_of {places0 w Q} (h:F155 places0 w Q):Ret prog 155 #[.int .i64 places0] w Q:=co Tryz.func155 h
def F208 (t0:Addr) (d1c0 d1c1 d1c2:Int) (w:World) (Q:KQ):Prop :=
 New w #[.int .i64 d1c0,.int .u32 d1c1,.int .i64 d1c2] 262 fun j h=>ls_ h (at0 t0 0) fun k i aq=>Sh.Loop [.int .i64 0,.int .i64 0] h fun l m d=>Uii m fun a c n=>UnN n (BIf (decide (a<(↑i:Int))) (Join (fun o p=>ui_ o .i64 fun r t=>UnN t (l [.int .i64 (i64.wrap (a+1)),.int .i64 r] p)) fun e=>NilP k fun u=>0≤a∧a<(↑i:Int)∧M_f d (at0 u (a.toNat*10)) fun v x y z a0 a1 a2 a3 a4 a5=>New d #[.bool false,.int .i64 0,.int .i64 0,.int .u32 0,.int .u64 0,.int .i64 0,.int .i64 0,.int .u32 0,.bool false,.bool false] 379 fun f a6=>S_10 a6 f (.bool v) (.int .i64 x) (.int .i64 y) (.int .u32 z) (.int .u64 a0) (.int .i64 a1) (.int .i64 a2) (.int .u32 a3) (.bool a4) (.bool a5) fun b=>lb_ b (at0 f 0) fun a7=>BIf a7 (X_g b j fun a8 a9 aa=>H_a b (at0 f 1) fun ab ac ad ae af ag ah ai aj=>A_ prog 209 #[Value.agg #[.int .i64 a8,.int .u32 a9,.int .i64 aa],Value.agg #[.int .i64 ab,.int .i64 ac,.int .u32 ad,.int .u64 ae,.int .i64 af,.int .i64 ag,.int .u32 ah,.bool ai,.bool aj]] b fun ak g=>AsB ak fun al=>BIf al (ls_ g (at0 t0 0) fun am an ar=>NilP am fun ao=>0≤a∧a<(↑an:Int)∧S_10 g (at0 ao (a.toNat*10)) (.bool false) (.int .i64 0) (.int .i64 0) (.int .u32 0) (.int .u64 0) (.int .i64 0) (.int .i64 0) (.int .u32 0) (.bool false) (.bool false) fun ap=>e [.int .i64 (i64.wrap (c+1))] ap) (e [.int .i64 c] g)) (e [.int .i64 c] b)) (Q (.int .i64 c) d))
theorem F208_of {t0 d1c0 d1c1 d1c2 w Q} (h:F208 t0 d1c0 d1c1 d1c2 w Q):Ret prog 208 #[.pointer (some t0),.agg #[.int .i64 d1c0,.int .u32 d1c1,.int .i64 d1c2]] w Q:=co Tryz.func208 h
def F82 (i0 d1 main2:Int) (w:World) (Q:KQ):Prop :=
 New w #[.pointer none,.pointer none,.pointer none] 272 fun c e=>Sh.Loop [.int .i64 0,.int .i64 0,.pointer none] e fun f g b=>Uiip g fun a h i j=>UnN j (BIf (decide (a<3)) (0≤a∧a<(↑(3:Nat):Int)∧∃v15,#[.int .i64 i0,.int .i64 d1,.int .i64 main2][a.toNat*(1:Nat)]?=some v15∧AsI .i64 v15 fun k=>A_ prog 155 #[.int .i64 k] b fun l d=>I_ l fun m=>Upi m fun n o p=>UnN p (BIf (o != 0) (Q (Value.tuple #[.pointer none,.int .i64 100]) d) (0≤a∧a<(↑(3:Nat):Int)∧St d (at0 c (a.toNat*1)) (.pointer n) fun r=>f [.int .i64 (i64.wrap (a+1)),.int .i64 h,.pointer i] r))) ((0:Int)≤0∧(0:Int)<(↑(3:Nat):Int)∧lp_ b (at0 c 0) fun t=>(0:Int)≤1∧(1:Int)<(↑(3:Nat):Int)∧lp_ b (at0 c 1) fun u=>(0:Int)≤2∧(2:Int)<(↑(3:Nat):Int)∧lp_ b (at0 c 2) fun v=>New b #[.pointer t,.pointer u,.pointer v] 282 fun x y=>Q (Value.tuple #[.pointer (some x),.int .i64 0]) y))
theorem F82_of {i0 d1 main2 w Q} (h:F82 i0 d1 main2 w Q):Ret prog 82 #[.int .i64 i0,.int .i64 d1,.int .i64 main2] w Q:=co Tryz.func82 h
def F150 (h0:Addr) (d1c0 d1c1 d1c2:Int) (w:World) (Q:KQ):Prop :=
 New w #[.int .i64 d1c0,.int .u32 d1c1,.int .i64 d1c2] 262 fun c a=>lp_ a.drew (at0 (at0 (at0 h0 0) 0) (0:Nat)) fun m=>X_g a.drew c fun n o p=>lp_ a.drew (at0 (at0 (at0 h0 1) 0) (0:Nat)) fun i=>X_g a.drew c fun j k l=>lp_ a.drew (at0 (at0 (at0 h0 2) 0) (0:Nat)) fun e=>X_g a.drew c fun f g h=>A_ prog 208 #[.pointer m,Value.agg #[.int .i64 n,.int .u32 o,.int .i64 p]] a.drew fun r b=>AsI .i64 r fun t=>(C_3 b c (.int .i64 f) (.int .u32 g) (.int .i64 h) <| tt b)∧ce_ b (at0 (at0 (at0 h0 2) 0) (0:Nat)) (.pointer e)∧(C_3 b c (.int .i64 j) (.int .u32 k) (.int .i64 l) <| tt b)∧ce_ b (at0 (at0 (at0 h0 1) 0) (0:Nat)) (.pointer i)∧A_ prog 208 #[.pointer i,Value.agg #[.int .i64 j,.int .u32 k,.int .i64 l]] b fun u d=>AsI .i64 u fun v=>(C_3 d c (.int .i64 f) (.int .u32 g) (.int .i64 h) <| tt d)∧ce_ d (at0 (at0 (at0 h0 2) 0) (0:Nat)) (.pointer e)∧A_ prog 208 #[.pointer e,Value.agg #[.int .i64 f,.int .u32 g,.int .i64 h]] d fun x y=>AsI .i64 x fun z=>Q (.int .i64 (i64.wrap (i64.wrap (t+v)+z))) y
theorem F150_of {h0 d1c0 d1c1 d1c2 w Q} (h:F150 h0 d1c0 d1c1 d1c2 w Q):Ret prog 150 #[.pointer (some h0),.agg #[.int .i64 d1c0,.int .u32 d1c1,.int .i64 d1c2]] w Q:=co Tryz.func150 h
def F85  (w:World) (Q:KQ):Prop :=
 RunV prog (Instr.makeMap 292 none) w fun a b=>AsM a fun c=>RunV prog (Instr.makeMap 293 none) b fun d e=>AsM d fun f=>New e #[Value.map c,Value.map f] 295 fun g h=>Q (.pointer (some g)) h
theorem F85_of  (w:World) (Q:KQ) (h:F85  w Q):Ret prog 85 #[] w Q:=co Tryz.func85 h
def F146 (t0:Addr) (m1:Value) (c2c0 c2c1 c2c2:Bool) (c2c3:Int) (c2c4 c2c5:Bool) (c2c6 c2c7 c2c8 c2c9 c2c10 c2c11:Int) (w:World) (Q:KQ):Prop :=
 New w #[.pointer (some t0)] 165 fun h k=>New k #[.bool c2c0,.bool c2c1,.bool c2c2,.int .i64 c2c3,.bool c2c4,.bool c2c5,.int .u64 c2c6,.int .u64 c2c7,.int .u32 c2c8,.int .u32 c2c9,.int .u32 c2c10,.int .i64 c2c11] 52 fun b a=>lb_ a (at0 b 0) fun l=>BIf (!l) (FinM [] a fun m=>Q (.int .i64 0) m) (li_ a (at0 b 11) .i64 fun n=>BIf (decide (n<0)) (FinM [] a fun o=>Q (.int .i64 1) o) (li_ a (at0 b 11) .i64 fun p=>BIf (decide (p>255)) (FinM [] a fun r=>Q (.int .i64 1) r) (J_ a b fun t u v x y z a0 a1 a2 a3 a4 a5=>A_ prog 13 #[m1,Value.agg #[.bool t,.bool u,.bool v,.int .i64 x,.bool y,.bool z,.int .u64 a0,.int .u64 a1,.int .u32 a2,.int .u32 a3,.int .u32 a4,.int .i64 a5]] a fun a6 a7=>L_f prog a6 a7 (fun a8 a9 aa ab=>UnC a8 fun ac ad=>V_ ac fun ae=>a_ ae fun af ag ah ai aj ak al am an=>UnN an (UnN ad (New a9 #[.int .i64 0,.int .u32 0,.int .u64 0,.int .i64 0,.int .i64 0,.int .u32 0,.bool false,.bool false] 57 fun f ao=>S_8 ao f (.int .i64 af) (.int .u32 ag) (.int .u64 ah) (.int .i64 ai) (.int .i64 aj) (.int .u32 ak) (.bool al) (.bool am) fun ap=>aa ap fun i=>B_ i f fun aq ar au av ax ay az aA=>New i #[.int .i64 0,.int .i64 0,.int .u32 0,.int .u64 0,.int .i64 0,.int .i64 0,.int .u32 0,.bool false,.bool false] 242 fun g aB=>S_9 aB g (.int .i64 (-1:Int)) (.int .i64 aq) (.int .u32 ar) (.int .u64 au) (.int .i64 av) (.int .i64 ax) (.int .u32 ay) (.bool az) (.bool aA) fun d=>Join (fun aC e=>UnN aC (lp_ e.drew h fun aD=>NilP aD fun aE=>lm_ e.drew (at0 aE 0) fun aF=>H_a e.drew g fun aG aH aI aJ aK aL aM aN aO=>H_j prog (Instr.mapUpdate 292 (Value.map aF) (Value.agg #[.int .i64 aG,.int .i64 aH,.int .u32 aI,.int .u64 aJ,.int .i64 aK,.int .i64 aL,.int .u32 aM,.bool aN,.bool aO]) (Value.agg #[])) e.drew fun aP=>ab aP)) fun j=>lb_ d (at0 (at0 f 4) 2) fun aQ=>BIf aQ (li_ d (at0 b 11) .i64 fun aR=>St d (at0 g 0) (.int .i64 aR) fun aS=>j [] aS) (j [] d)))) fun aT c=>lp_ c.drew h fun aU=>NilP aU fun aV=>lm_ c.drew (at0 aV 1) fun aW=>li_ c.drew (at0 b 11) .i64 fun aX=>J_ c.drew b fun aY aZ b0 b1 b2 b3 b4 b5 b6 b7 b8 b9=>H_j prog (Instr.mapUpdate 293 (Value.map aW) (.int .i64 aX) (Value.agg #[.bool aY,.bool aZ,.bool b0,.int .i64 b1,.bool b2,.bool b3,.int .u64 b4,.int .u64 b5,.int .u32 b6,.int .u32 b7,.int .u32 b8,.int .i64 b9])) c.drew fun ba=>FinM [aT] ba fun bb=>Q (.int .i64 0) bb)))
theorem F146_of {t0 m1 c2c0 c2c1 c2c2 c2c3 c2c4 c2c5 c2c6 c2c7 c2c8 c2c9 c2c10 c2c11 w Q} (h:F146 t0 m1 c2c0 c2c1 c2c2 c2c3 c2c4 c2c5 c2c6 c2c7 c2c8 c2c9 c2c10 c2c11 w Q):Ret prog 146 #[.pointer (some t0),m1,.agg #[.bool c2c0,.bool c2c1,.bool c2c2,.int .i64 c2c3,.bool c2c4,.bool c2c5,.int .u64 c2c6,.int .u64 c2c7,.int .u32 c2c8,.int .u32 c2c9,.int .u32 c2c10,.int .i64 c2c11]] w Q:=co Tryz.func146 h
def F147 (t0:Addr) (m1:Value) (w:World) (Q:KQ):Prop :=
 lm_ w (at0 t0 1) fun u=>RunV prog (Instr.range 293 (Value.map u)) w fun v x=>N_j v fun k=>Sh.Loop [Value.slice none (0:Nat) (0:Nat)] x fun y z a0=>us_ z fun f g h a1=>UnN a1 (RunV prog (Instr.next (.pointer (some { block:=k,off:=(0:Nat) })) false (0:Nat)) a0 fun a2 l=>J_j a2 (A_ prog 203 #[Value.slice f g h,Value.func (Fn.func 204) #[] #[]] l fun a3 a4=>I_ a3 fun a5=>UnN a5 (Q (Value.slice f g h) a4)) fun bG bH=>RunV prog (Instr.entry (.pointer (some { block:=k,off:=(0:Nat) }))) l fun a6 a7=>I_j a6 fun a8 a9=>AsI .i64 a8 fun m=>V_ a9 fun aa=>A_a aa fun ab ac ad ae af ag ah ai aj ak al am an=>UnN an (New a7 #[.bool false,.bool false,.bool false,.int .i64 0,.bool false,.bool false,.int .u64 0,.int .u64 0,.int .u32 0,.int .u32 0,.int .u32 0,.int .i64 0] 52 fun n ao=>S_12 ao n (.bool ab) (.bool ac) (.bool ad) (.int .i64 ae) (.bool af) (.bool ag) (.int .u64 ah) (.int .u64 ai) (.int .u32 aj) (.int .u32 ak) (.int .u32 al) (.int .i64 am) fun o=>lm_ o (at0 t0 0) fun ap=>RunV prog (Instr.range 292 (Value.map ap)) o fun aq ar=>N_j aq fun p=>Sh.Loop [Value.slice f g h] ar fun i au av=>us_ au fun a b c ax=>UnN ax (RunV prog (Instr.next (.pointer (some { block:=p,off:=(0:Nat) })) false (0:Nat)) av fun ay r=>J_j ay (y [Value.slice a b c] r) fun bI bJ=>RunV prog (Instr.entry (.pointer (some { block:=p,off:=(0:Nat) }))) r fun az aA=>I_j az fun aB bK=>V_ aB fun aC=>c_ aC fun aD aE aF aG aH aI aJ aK aL aM=>UnN aM (New aA #[.int .i64 0,.int .i64 0,.int .u32 0,.int .u64 0,.int .i64 0,.int .i64 0,.int .u32 0,.bool false,.bool false] 242 fun d aN=>S_9 aN d (.int .i64 aD) (.int .i64 aE) (.int .u32 aF) (.int .u64 aG) (.int .i64 aH) (.int .i64 aI) (.int .u32 aJ) (.bool aK) (.bool aL) fun t=>H_a t d fun aO aP aQ aR aS aT aU aV aW=>A_ prog 201 #[Value.agg #[.int .i64 aO,.int .i64 aP,.int .u32 aQ,.int .u64 aR,.int .i64 aS,.int .i64 aT,.int .u32 aU,.bool aV,.bool aW],.int .i64 m] t fun aX e=>AsB aX fun aY=>BIf aY (J_ e n fun aZ b0 b1 b2 b3 b4 b5 b6 b7 b8 b9 ba=>B_ e (at0 d 1) fun bb bc bd be bf bg bh bi=>A_ prog 202 #[m1,Value.agg #[.bool aZ,.bool b0,.bool b1,.int .i64 b2,.bool b3,.bool b4,.int .u64 b5,.int .u64 b6,.int .u32 b7,.int .u32 b8,.int .u32 b9,.int .i64 ba],Value.agg #[.int .i64 bb,.int .u32 bc,.int .u64 bd,.int .i64 be,.int .i64 bf,.int .u32 bg,.bool bh,.bool bi]] e fun bj j=>AsB bj fun bk=>BIf (!bk) (H_a j d fun bl bm bn bo bp bq br bs bt=>RunV prog (Instr.buildSlice 258 1 #[(0,Value.agg #[.int .i64 m,.int .i64 bl,.int .i64 bm,.int .u32 bn,.int .u64 bo,.int .i64 bp,.int .i64 bq,.int .u32 br,.bool bs,.bool bt])]) j fun bu bv=>t_ bu fun bx bz bA=>RunV prog (Builtin.append_ #[(258:Nat),(258:Nat)] (258:Nat) #[Value.slice a b c,Value.slice bx bz bA]) bv fun bB bC=>t_ bB fun bD bE bF=>i [Value.slice bD bE bF] bC) (i [Value.slice a b c] j)) (i [Value.slice a b c] e)))))
theorem F147_of {t0 m1 w Q} (h:F147 t0 m1 w Q):Ret prog 147 #[.pointer (some t0),m1] w Q:=co Tryz.func147 h
def F151 (t0:Addr) (d1c0 d1c1 d1c2:Int) (w:World) (Q:KQ):Prop :=
 New w #[.int .i64 d1c0,.int .u32 d1c1,.int .i64 d1c2] 262 fun i e=>lm_ e (at0 t0 0) fun j=>RunV prog (Instr.range 292 (Value.map j)) e fun k l=>N_j k fun f=>Sh.Loop [.int .i64 0] l fun g m n=>ui_ m .i64 fun b o=>UnN o (RunV prog (Instr.next (.pointer (some { block:=f,off:=(0:Nat) })) false (0:Nat)) n fun p h=>J_j p (Q (.int .i64 b) h) fun aC aD=>RunV prog (Instr.entry (.pointer (some { block:=f,off:=(0:Nat) }))) h fun r t=>I_j r fun u aE=>V_ u fun v=>c_ v fun x y z a0 a1 a2 a3 a4 a5 a6=>UnN a6 (New t #[.int .i64 0,.int .i64 0,.int .u32 0,.int .u64 0,.int .i64 0,.int .i64 0,.int .u32 0,.bool false,.bool false] 242 fun c a7=>S_9 a7 c (.int .i64 x) (.int .i64 y) (.int .u32 z) (.int .u64 a0) (.int .i64 a1) (.int .i64 a2) (.int .u32 a3) (.bool a4) (.bool a5) fun d=>X_g d i fun a8 a9 aa=>H_a d c fun ab ac ad ae af ag ah ai aj=>A_ prog 209 #[Value.agg #[.int .i64 a8,.int .u32 a9,.int .i64 aa],Value.agg #[.int .i64 ab,.int .i64 ac,.int .u32 ad,.int .u64 ae,.int .i64 af,.int .i64 ag,.int .u32 ah,.bool ai,.bool aj]] d fun ak a=>AsB ak fun al=>BIf al (lm_ a.drew (at0 t0 0) fun am=>H_a a.drew c fun an ao ap aq ar au av ax ay=>RunV prog (Builtin.delete_ #[(292:Nat),(242:Nat)] (0:Nat) #[Value.map am,Value.agg #[.int .i64 an,.int .i64 ao,.int .u32 ap,.int .u64 aq,.int .i64 ar,.int .i64 au,.int .u32 av,.bool ax,.bool ay]]) a.drew fun az aA=>I_ az fun aB=>UnN aB (g [.int .i64 (i64.wrap (b+1))] aA)) (g [.int .i64 b] a)))
theorem F151_of {t0 d1c0 d1c1 d1c2 w Q} (h:F151 t0 d1c0 d1c1 d1c2 w Q):Ret prog 151 #[.pointer (some t0),.agg #[.int .i64 d1c0,.int .u32 d1c1,.int .i64 d1c2]] w Q:=co Tryz.func151 h
def F163 (x0:Int) (w:World) (Q:KQ):Prop :=
 A_ prog 222 #[.int .u64 x0] w fun a b=>AsI .i64 a fun c=>Q (.int .i64 c) b
theorem A_l {x0 w Q} (h:F163 x0 w Q):Ret prog 163 #[.int .u64 x0] w Q:=co Tryz.func163 h
def F222 (x0:Int) (w:World) (Q:KQ):Prop :=
 Join (fun i c=>Uiv i fun d b j=>UnN j (Join (fun k e=>Uiv k fun f a l=>UnN l (BIf (decide (a≥256)) (0≤IntKind.u8.wrap (W_ u64 a (8:Int))∧∃J17,(⟨(([(0:UInt8),(1:UInt8),(2:UInt8),(2:UInt8),(3:UInt8),(3:UInt8),(3:UInt8),(3:UInt8),(4:UInt8),(4:UInt8),(4:UInt8),(4:UInt8),(4:UInt8),(4:UInt8),(4:UInt8),(4:UInt8),(5:UInt8),(5:UInt8),(5:UInt8),(5:UInt8),(5:UInt8),(5:UInt8),(5:UInt8),(5:UInt8),(5:UInt8),(5:UInt8),(5:UInt8),(5:UInt8),(5:UInt8),(5:UInt8),(5:UInt8),(5:UInt8),(6:UInt8),(6:UInt8),(6:UInt8),(6:UInt8),(6:UInt8),(6:UInt8),(6:UInt8),(6:UInt8),(6:UInt8),(6:UInt8),(6:UInt8),(6:UInt8),(6:UInt8),(6:UInt8),(6:UInt8),(6:UInt8),(6:UInt8),(6:UInt8),(6:UInt8),(6:UInt8),(6:UInt8),(6:UInt8),(6:UInt8),(6:UInt8),(6:UInt8),(6:UInt8),(6:UInt8),(6:UInt8),(6:UInt8),(6:UInt8),(6:UInt8),(6:UInt8)].append [(7:UInt8),(7:UInt8),(7:UInt8),(7:UInt8),(7:UInt8),(7:UInt8),(7:UInt8),(7:UInt8),(7:UInt8),(7:UInt8),(7:UInt8),(7:UInt8),(7:UInt8),(7:UInt8),(7:UInt8),(7:UInt8),(7:UInt8),(7:UInt8),(7:UInt8),(7:UInt8),(7:UInt8),(7:UInt8),(7:UInt8),(7:UInt8),(7:UInt8),(7:UInt8),(7:UInt8),(7:UInt8),(7:UInt8),(7:UInt8),(7:UInt8),(7:UInt8),(7:UInt8),(7:UInt8),(7:UInt8),(7:UInt8),(7:UInt8),(7:UInt8),(7:UInt8),(7:UInt8),(7:UInt8),(7:UInt8),(7:UInt8),(7:UInt8),(7:UInt8),(7:UInt8),(7:UInt8),(7:UInt8),(7:UInt8),(7:UInt8),(7:UInt8),(7:UInt8),(7:UInt8),(7:UInt8),(7:UInt8),(7:UInt8),(7:UInt8),(7:UInt8),(7:UInt8),(7:UInt8),(7:UInt8),(7:UInt8),(7:UInt8),(7:UInt8)]).append ([(8:UInt8),(8:UInt8),(8:UInt8),(8:UInt8),(8:UInt8),(8:UInt8),(8:UInt8),(8:UInt8),(8:UInt8),(8:UInt8),(8:UInt8),(8:UInt8),(8:UInt8),(8:UInt8),(8:UInt8),(8:UInt8),(8:UInt8),(8:UInt8),(8:UInt8),(8:UInt8),(8:UInt8),(8:UInt8),(8:UInt8),(8:UInt8),(8:UInt8),(8:UInt8),(8:UInt8),(8:UInt8),(8:UInt8),(8:UInt8),(8:UInt8),(8:UInt8),(8:UInt8),(8:UInt8),(8:UInt8),(8:UInt8),(8:UInt8),(8:UInt8),(8:UInt8),(8:UInt8),(8:UInt8),(8:UInt8),(8:UInt8),(8:UInt8),(8:UInt8),(8:UInt8),(8:UInt8),(8:UInt8),(8:UInt8),(8:UInt8),(8:UInt8),(8:UInt8),(8:UInt8),(8:UInt8),(8:UInt8),(8:UInt8),(8:UInt8),(8:UInt8),(8:UInt8),(8:UInt8),(8:UInt8),(8:UInt8),(8:UInt8),(8:UInt8)].append [(8:UInt8),(8:UInt8),(8:UInt8),(8:UInt8),(8:UInt8),(8:UInt8),(8:UInt8),(8:UInt8),(8:UInt8),(8:UInt8),(8:UInt8),(8:UInt8),(8:UInt8),(8:UInt8),(8:UInt8),(8:UInt8),(8:UInt8),(8:UInt8),(8:UInt8),(8:UInt8),(8:UInt8),(8:UInt8),(8:UInt8),(8:UInt8),(8:UInt8),(8:UInt8),(8:UInt8),(8:UInt8),(8:UInt8),(8:UInt8),(8:UInt8),(8:UInt8),(8:UInt8),(8:UInt8),(8:UInt8),(8:UInt8),(8:UInt8),(8:UInt8),(8:UInt8),(8:UInt8),(8:UInt8),(8:UInt8),(8:UInt8),(8:UInt8),(8:UInt8),(8:UInt8),(8:UInt8),(8:UInt8),(8:UInt8),(8:UInt8),(8:UInt8),(8:UInt8),(8:UInt8),(8:UInt8),(8:UInt8),(8:UInt8),(8:UInt8),(8:UInt8),(8:UInt8),(8:UInt8),(8:UInt8),(8:UInt8),(8:UInt8),(8:UInt8)])).toArray⟩:ByteArray)[(IntKind.u8.wrap (W_ u64 a (8:Int))).toNat]?=some J17∧Q (.int .i64 (i64.wrap (i64.wrap (f+8)+i64.wrap (↑J17.toNat:Int)))) e) (0≤IntKind.u8.wrap a∧∃J18,(⟨(([(0:UInt8),(1:UInt8),(2:UInt8),(2:UInt8),(3:UInt8),(3:UInt8),(3:UInt8),(3:UInt8),(4:UInt8),(4:UInt8),(4:UInt8),(4:UInt8),(4:UInt8),(4:UInt8),(4:UInt8),(4:UInt8),(5:UInt8),(5:UInt8),(5:UInt8),(5:UInt8),(5:UInt8),(5:UInt8),(5:UInt8),(5:UInt8),(5:UInt8),(5:UInt8),(5:UInt8),(5:UInt8),(5:UInt8),(5:UInt8),(5:UInt8),(5:UInt8),(6:UInt8),(6:UInt8),(6:UInt8),(6:UInt8),(6:UInt8),(6:UInt8),(6:UInt8),(6:UInt8),(6:UInt8),(6:UInt8),(6:UInt8),(6:UInt8),(6:UInt8),(6:UInt8),(6:UInt8),(6:UInt8),(6:UInt8),(6:UInt8),(6:UInt8),(6:UInt8),(6:UInt8),(6:UInt8),(6:UInt8),(6:UInt8),(6:UInt8),(6:UInt8),(6:UInt8),(6:UInt8),(6:UInt8),(6:UInt8),(6:UInt8),(6:UInt8)].append [(7:UInt8),(7:UInt8),(7:UInt8),(7:UInt8),(7:UInt8),(7:UInt8),(7:UInt8),(7:UInt8),(7:UInt8),(7:UInt8),(7:UInt8),(7:UInt8),(7:UInt8),(7:UInt8),(7:UInt8),(7:UInt8),(7:UInt8),(7:UInt8),(7:UInt8),(7:UInt8),(7:UInt8),(7:UInt8),(7:UInt8),(7:UInt8),(7:UInt8),(7:UInt8),(7:UInt8),(7:UInt8),(7:UInt8),(7:UInt8),(7:UInt8),(7:UInt8),(7:UInt8),(7:UInt8),(7:UInt8),(7:UInt8),(7:UInt8),(7:UInt8),(7:UInt8),(7:UInt8),(7:UInt8),(7:UInt8),(7:UInt8),(7:UInt8),(7:UInt8),(7:UInt8),(7:UInt8),(7:UInt8),(7:UInt8),(7:UInt8),(7:UInt8),(7:UInt8),(7:UInt8),(7:UInt8),(7:UInt8),(7:UInt8),(7:UInt8),(7:UInt8),(7:UInt8),(7:UInt8),(7:UInt8),(7:UInt8),(7:UInt8),(7:UInt8)]).append ([(8:UInt8),(8:UInt8),(8:UInt8),(8:UInt8),(8:UInt8),(8:UInt8),(8:UInt8),(8:UInt8),(8:UInt8),(8:UInt8),(8:UInt8),(8:UInt8),(8:UInt8),(8:UInt8),(8:UInt8),(8:UInt8),(8:UInt8),(8:UInt8),(8:UInt8),(8:UInt8),(8:UInt8),(8:UInt8),(8:UInt8),(8:UInt8),(8:UInt8),(8:UInt8),(8:UInt8),(8:UInt8),(8:UInt8),(8:UInt8),(8:UInt8),(8:UInt8),(8:UInt8),(8:UInt8),(8:UInt8),(8:UInt8),(8:UInt8),(8:UInt8),(8:UInt8),(8:UInt8),(8:UInt8),(8:UInt8),(8:UInt8),(8:UInt8),(8:UInt8),(8:UInt8),(8:UInt8),(8:UInt8),(8:UInt8),(8:UInt8),(8:UInt8),(8:UInt8),(8:UInt8),(8:UInt8),(8:UInt8),(8:UInt8),(8:UInt8),(8:UInt8),(8:UInt8),(8:UInt8),(8:UInt8),(8:UInt8),(8:UInt8),(8:UInt8)].append [(8:UInt8),(8:UInt8),(8:UInt8),(8:UInt8),(8:UInt8),(8:UInt8),(8:UInt8),(8:UInt8),(8:UInt8),(8:UInt8),(8:UInt8),(8:UInt8),(8:UInt8),(8:UInt8),(8:UInt8),(8:UInt8),(8:UInt8),(8:UInt8),(8:UInt8),(8:UInt8),(8:UInt8),(8:UInt8),(8:UInt8),(8:UInt8),(8:UInt8),(8:UInt8),(8:UInt8),(8:UInt8),(8:UInt8),(8:UInt8),(8:UInt8),(8:UInt8),(8:UInt8),(8:UInt8),(8:UInt8),(8:UInt8),(8:UInt8),(8:UInt8),(8:UInt8),(8:UInt8),(8:UInt8),(8:UInt8),(8:UInt8),(8:UInt8),(8:UInt8),(8:UInt8),(8:UInt8),(8:UInt8),(8:UInt8),(8:UInt8),(8:UInt8),(8:UInt8),(8:UInt8),(8:UInt8),(8:UInt8),(8:UInt8),(8:UInt8),(8:UInt8),(8:UInt8),(8:UInt8),(8:UInt8),(8:UInt8),(8:UInt8),(8:UInt8)])).toArray⟩:ByteArray)[(IntKind.u8.wrap a).toNat]?=some J18∧Q (.int .i64 (i64.wrap (f+i64.wrap (↑J18.toNat:Int)))) e))) fun g=>BIf (decide (b≥65536)) (g [.int .i64 (i64.wrap (d+16)),.int .u64 (W_ u64 b (16:Int))] c) (g [.int .i64 d,.int .u64 b] c))) fun h=>BIf (decide (x0≥4294967296)) (h [.int .i64 32,.int .u64 (W_ u64 x0 (32:Int))] w) (h [.int .i64 0,.int .u64 x0] w)
theorem y_k {x0 w Q} (h:F222 x0 w Q):Ret prog 222 #[.int .u64 x0] w Q:=co Tryz.func222 h
end Go.Proofs.YtmgjicnipgdjhaaGreatDoor
namespace Go.Sh
open Go.IntKind (i64 u64 u32)
section
variable {a b:Nat}
theorem c_e (ha:a<2^32) (hb:b<2^32):Q_ .u32 a b=((a &&& b:Nat):Int):=by
 unfold Q_;rw [BitVec.toNat_and];show u32.wrap (((BitVec.ofInt 32 a).toNat &&& (BitVec.ofInt 32 b).toNat:Nat):Int)=_;rw [y_ 32 a ha,y_ 32 b hb,T_a _ (Nat.and_lt_two_pow _ hb)]
theorem F_k (ha:a<2^32) (hb:b<2^32):orI .u32 a b=((a ||| b:Nat):Int):=by
 unfold orI;rw [BitVec.toNat_or];show u32.wrap (((BitVec.ofInt 32 a).toNat ||| (BitVec.ofInt 32 b).toNat:Nat):Int)=_;rw [y_ 32 a ha,y_ 32 b hb,T_a _ (Nat.or_lt_two_pow ha hb)]
theorem C_d {n:Nat} (hn:n<32) (h:a <<< n<2^32):l_ .u32 a n=((a <<< n:Nat):Int):=by
 unfold l_;rw [show min (n:Int).toNat u32.bits=n from by rw [Int.toNat_natCast];exact Nat.min_eq_left (Nat.le_of_lt hn)];rw [Nat.shiftLeft_eq] at h ⊢;rw [←T_a _ h]
 congr 1
theorem or_shl8 {x b:Nat} (hx:x<2^24) (hb:b<256):orI .u32 (l_ .u32 x 8) b=((x*256+b:Nat):Int):=by
 have h1:x <<< 8<2^32:=by rw [Nat.shiftLeft_eq];omega
 rw [show (8:Int)=((8:Nat):Int) from rfl,C_d (by decide) h1,F_k h1 (by omega)]
 congr 1
 rw [←Nat.shiftLeft_add_eq_or_of_lt (i:=8) (by omega),Nat.shiftLeft_eq]
end
end Go.Sh
namespace Go.Sh
variable {P:Program}
theorem foldl_set' (l:List Value):∀(k off:Nat) (pre cs:List Value),pre.length=off+k→l.length≤cs.length →
  ((l.zipIdx k).foldl (fun cs (c,j)=>cs.setIfInBounds (off+j) c) (pre++cs).toArray:Array Value)=(pre++l++cs.drop l.length).toArray:=by
 induction l with
 | nil=>intro k off pre cs _ _;simp
 | cons x r ih =>
  intro k off pre cs hp hl;cases cs with
  | nil=>simp at hl
  | cons y t =>
   simp only [List.zipIdx_cons,List.foldl_cons];have:((pre++y :: t).toArray.setIfInBounds (off+k) x:Array Value)=((pre++[x])++t).toArray:=by
    apply Array.ext'
    simp [←hp]
   rw [this,ih (k+1) off (pre++[x]) t (by simp [hp];omega) (by simpa using hl)];simp
theorem X_i (size:Nat):∀(vs:List Value) (n:Nat) (pre cs:List Value),pre.length=n*size→cs.length=vs.length*size→(∀v∈vs,v.cells.size=size) →
  Instr.fill (fun i=>some (i*size,size)) (pre++cs).toArray ((vs.zipIdx n).map fun x=>(x.2,x.1))=some (pre++vs.flatMap fun v=>v.cells.toList).toArray
 | [],n,pre,cs,_,hc,_=>by
  have:cs=[]:=by simpa using hc
  subst this;simp [Instr.fill]
 | v :: vs,n,pre,cs,hp,hc,hv=>by
  have h0:=hv v (by simp);have hcl:size≤cs.length:=by rw [hc,List.length_cons,Nat.add_mul];omega
  simp only [List.zipIdx_cons,List.map_cons,Instr.fill];rw [if_neg (by simp [h0];omega)];have e:=foldl_set' v.cells.toList 0 (n*size) pre cs (by simpa using hp) (by simpa [h0] using hcl);rw [←Array.foldl_toList,Array.toList_zipIdx,e];have:=X_i size vs (n+1) (pre++v.cells.toList) (cs.drop v.cells.toList.length) (by simp [hp,h0,Nat.add_mul]) (by simp [hc,h0,Nat.add_mul]) fun u hu=>hv u (by simp [hu]);rw [this];simp
theorem RunV.buildN {t e:TypeId} {z:Value} {size bytes:Nat} (E:ElemT P t e z size bytes) {w:World} {K:Value→World→Prop} (vs:List Value) (parts:Array (Nat×Value)) (hparts:parts.toList=(vs.zipIdx 0).map fun x=>(x.2,x.1)) (n:Nat) (hn:vs.length=n) (hpos:0<n)
  (hsz:n*size≤16777216) (hv:∀v∈vs,v.cells.size=size)
  (k:∀w',Has w' w.heap.size (vs.flatMap fun v=>v.cells.toList)→Fr0 w w'→w'.heap.size=w.heap.size+1→K (.slice (some ⟨w.heap.size,0,none⟩) n n) w') :
  RunV P (Instr.buildSlice t n parts) w K:=by
 have hi:=E.info;cases hinf:P.info? e with
 | none=>rw [hinf] at hi;cases hi
 | some i =>
  rw [hinf] at hi;simp only [Option.map_some,Option.some.injEq,Prod.mk.injEq] at hi;obtain⟨hz,hs,hb⟩:=hi;refine⟨_,w.alloc (.cells (vs.flatMap fun v=>v.cells.toList).toArray e),?_,k _ (Has.made w _ e) (Fr.made w _) (by simp)⟩;have h1:0<n*size:=Nat.mul_pos hpos E.pos;have h0:n*size≠0:=by omega
  have hle:¬(n*size>2^24):=by omega
  have hfill:=X_i size vs 0 [] ((List.range (n*size)).map (fun x=>z.cells[x%z.cells.size]!)) (by simp) (by simp [hn]) hv;have e2:(Array.range (n*size)).map (fun x=>z.cells[x%z.cells.size]!)=([]++(List.range (n*size)).map (fun x=>z.cells[x%z.cells.size]!)).toArray:=by
   apply Array.ext';simp
  simp only [Instr.buildSlice,Sem.run_bind,N_ E.und,Result.andThen_ok,o_ (show k_c P e=some size by simp [k_c,hinf,hs]),if_neg hle,if_neg h0,
   M_b (show d_e P e=some z by simp [d_e,hinf,hz]),Sem.run_pure,hparts,e2,hfill]
  simp [newRow]
theorem RunV.build0 {t e:TypeId} {z:Value} {size bytes:Nat} (E:ElemT P t e z size bytes) {w:World} {K:Value→World→Prop} (B:Nat) (hB:B≤w.heap.size)
  (k:∀p w',Sl w' B e size p 0 0 []→Fr0 w w'→(∀b,On p b→w.heap.size≤b)→K (.slice p 0 0) w'):RunV P (Instr.buildSlice t 0 #[]) w K:=by
 have hi:=E.info;cases hinf:P.info? e with
 | none=>rw [hinf] at hi;cases hi
 | some i =>
  rw [hinf] at hi;simp only [Option.map_some,Option.some.injEq,Prod.mk.injEq] at hi;obtain⟨hz,hs,hb⟩:=hi;refine⟨.slice (some ⟨w.heap.size,0,none⟩) 0 0,w.alloc (.cells #[] e),?_,k (some ⟨w.heap.size,0,none⟩) _ ⟨by simp,.inr ⟨w.heap.size,0,#[],rfl,hB,?_,by omega,by simp only [maxLen];omega,by simp,by simp⟩⟩ (Fr.made w _) ?_⟩
  ·simp [Instr.buildSlice,N_ E.und,o_ (show k_c P e=some size by simp [k_c,hinf,hs]),Instr.fill,newRow]
   congr 2
   apply Array.ext';simp
  ·show (w.heap.push _)[w.heap.size]?=_;simp
  ·rintro b ⟨a,ha,rfl⟩;injection ha with ha;subst ha;exact Nat.le_refl _
end Go.Sh
namespace Go.Sh
variable {P:Program}
end Go.Sh
namespace Go.Sh
variable {P:Program}
def MapIs (w:World) (b:Nat) (k:IntKind) (m:List (Int×Value)):Prop :=
 ∃(es:List MapEntry) (clock:Nat),w.heap[b]?=some (.map es.toArray clock)∧es.map (fun e=>(e.key,e.val))=m.map (fun x=>(.int k x.1,x.2)) ∧
  (es.map (·.born)).Nodup∧(∀e∈es,e.born<clock)∧(m.map (·.1)).Nodup
def at? (m:List (Int×Value)) (x:Int):Option Value:=(m.find? fun p=>p.1==x).map (·.2)
theorem D_b {k:IntKind} {x:Int}:∀(es:List MapEntry) (m:List (Int×Value)) (i:Nat),es.map (fun e=>(e.key,e.val))=m.map (fun p=>(.int k p.1,p.2)) →
  ∃r,Instr.findNow (.int k) (.int k x) es i=some r∧r.map (·.2)=at? m x∧∀j v,r=some (j,v)→∃n,j=i+n∧(m.map (·.1))[n]?=some x∧∀n',n'<n→(m.map (·.1))[n']?≠some x
 | [],[],i,_=>⟨none,rfl,rfl,fun j v h=>by cases h⟩
 | [],_ :: _,i,h=>by simp at h
 | _ :: _,[],i,h=>by simp at h
 | e :: es,p :: m,i,h=>by
  simp only [List.map_cons,List.cons.injEq,Prod.mk.injEq] at h;obtain⟨⟨h1,h2⟩,h3⟩:=h;have hs:Instr.sameNow (.int k) (.int k x) e.key=some (x==p.1):=by rw [h1];simp [Instr.sameNow]
  by_cases hx:x=p.1
  ·refine⟨some (i,e.val),?_,?_,?_⟩
   ·simp only [Instr.findNow,hs];simp [hx]
   ·simp [at?,hx,h2]
   ·intro j v h;injection h with h;injection h with h4 h5;subst h4
    exact⟨0,rfl,by simp [hx],fun n' hn'=>by omega⟩
  ·obtain⟨r,hr,ha,hp⟩:=D_b es m (i+1) h3;refine⟨r,?_,?_,?_⟩
   ·simp only [Instr.findNow,hs];rw [show (x==p.1)=false by simpa using hx];exact hr
   ·rw [ha];unfold at?;rw [List.find?_cons_of_neg (by simpa using fun h=>hx h.symm)]
   ·intro j v h;obtain⟨n,h4,h5,h6⟩:=hp j v h;refine⟨n+1,by omega,by simpa using h5,fun n' hn'=>?_⟩;cases n' with
    | zero=>simp;exact fun h=>hx h.symm
    | succ n'=>simpa using h6 n' (by omega)
theorem Z_a {k:IntKind} {kt:TypeId} (hk:P.underlying kt=some (.int k)) (b:Bool) (x:Int) (w:World):(Instr.checkKey b 10000 kt (.int k x)).run P w=.ok () w:=by
 unfold Instr.checkKey;simp [N_ hk]
structure MapT (P:Program) (t kt et:TypeId) (k:IntKind) (z:Value):Prop where
 und:P.underlying t=some (.map kt et)
 key:P.underlying kt=some (.int k)
 zero:d_e P et=some z
theorem M_d {t kt et:TypeId} {k:IntKind} {z:Value} (E:MapT P t kt et k z) {w:World} {b:Nat} {m:List (Int×Value)} (h:MapIs w b k m) (x:Int) {K:Value→Prop}
  (hK:K (.tuple #[(at? m x).getD z,.bool (at? m x).isSome])):q_f P (Instr.lookup t (.map (some b)) (.int k x) true) w K:=by
 obtain⟨es,clock,hb,he,_,_,_⟩:=h;obtain⟨r,hr,ha,_⟩:=D_b (x:=x) es m 0 he;refine⟨_,?_,hK⟩;unfold Instr.lookup;have hg:(getObj b).run P w=.ok (.map es.toArray clock) w:=by simp [getObj,Sem.run,hb]
 simp only [Sem.run_bind,N_ E.und,Result.andThen_ok,hg,Z_a E.key,Instr.findKey,N_ E.key,hr,Sem.run_pure];cases r with
 | none =>
  simp only [Option.map_none] at ha;simp [Sem.run_bind,M_b E.zero,←ha]
 | some p =>
  obtain⟨j,v⟩:=p;simp only [Option.map_some] at ha;simp [←ha]
theorem MapIs.heap {w w':World} {b:Nat} {k:IntKind} {m:List (Int×Value)} (h:MapIs w b k m) (hb:w'.heap[b]?=w.heap[b]?):MapIs w' b k m:=by
 obtain⟨es,clock,h1,h2⟩:=h;exact⟨es,clock,by rw [hb];exact h1,h2⟩
theorem MapIs.fr {S:Nat→Prop} {w w':World} {b:Nat} {k:IntKind} {m:List (Int×Value)} (h:MapIs w b k m) (f:Fr S w w') (hS:¬S b):MapIs w' b k m:=by
 have hlt:b<w.heap.size:=by
  obtain⟨es,clock,h1,_⟩:=h;exact (Array.getElem?_eq_some_iff.1 h1).1
 exact h.heap (f.block b hlt hS)
theorem B_b {t:TypeId} {w:World} (k:IntKind) {K:Value→World→Prop} (hK:∀w',MapIs w' w.heap.size k []→Fr0 w w'→w'.heap.size=w.heap.size+1→K (.map (some w.heap.size)) w') :
  RunV P (Instr.makeMap t none) w K:=by
 refine⟨_,w.alloc (.map #[] 0),rfl,hK _ ⟨[],0,?_,rfl,by simp,by simp,by simp⟩ ⟨rfl,rfl,rfl,by simp,fun b hb _=>?_⟩ (by simp)⟩
 ·show (w.heap.push _)[w.heap.size]?=_;simp
 ·show (w.heap.push _)[b]?=_;rw [Array.getElem?_push,if_neg (by omega)]
theorem v_f {w:World} {b:Nat} {es:Array MapEntry} {clock:Nat} (hb:w.heap[b]?=some (.map es clock)) (o:Obj):(setObj b o).run P w=.ok () { w with heap:=w.heap.setIfInBounds b o }:=by
 simp [setObj,Sem.run,hb]
theorem Fr.set {w:World} {b:Nat} {o:Obj}:Fr (·=b) w { w with heap:=w.heap.setIfInBounds b o } :=
 ⟨rfl,rfl,rfl,by simp,fun c hc hn=>by simp only [Array.getElem?_setIfInBounds];rw [if_neg (fun h=>hn h.symm)]⟩
theorem P_a {t kt et:TypeId} {k:IntKind} {z:Value} (E:MapT P t kt et k z) {w:World} {b:Nat} {m:List (Int×Value)} (h:MapIs w b k m) {x:Int} (hx:at? m x=none) (v:Value) {K:World→Prop}
  (hK:∀w',MapIs w' b k (m++[(x,v)])→Fr (·=b) w w'→w'.heap.size=w.heap.size→K w'):H_j P (Instr.mapUpdate t (.map (some b)) (.int k x) v) w K:=by
 obtain⟨es,clock,hb,he,hn1,hn2,hn3⟩:=h;have hlt:b<w.heap.size:=(Array.getElem?_eq_some_iff.1 hb).1;obtain⟨r,hr,ha,_⟩:=D_b (x:=x) es m 0 he;rw [hx] at ha;obtain rfl:r=none:=by cases r with|none=>rfl|some p=>cases ha
 have hg:(getObj b).run P w=.ok (.map es.toArray clock) w:=by simp [getObj,Sem.run,hb]
 refine⟨_,?_,hK { w with heap:=w.heap.setIfInBounds b (.map (es.toArray.push { key:=.int k x,val:=v,born:=clock }) (clock+1)) } ?_ Fr.set (by simp)⟩
 ·unfold Instr.mapUpdate;simp only [Sem.run_bind,N_ E.und,Result.andThen_ok,hg,Z_a E.key,Instr.findKey,N_ E.key,hr,Sem.run_pure];exact v_f hb _
 ·refine⟨es++[{ key:=.int k x,val:=v,born:=clock }],clock+1,by simp [hlt],by simp [he],?_,?_,?_⟩
  ·rw [List.map_append,List.nodup_append];refine⟨hn1,by simp,?_⟩;intro a ha1 c hc;obtain⟨e,he1,rfl⟩:=List.mem_map.1 ha1;have:=hn2 e he1;simp at hc;omega
  ·intro e he1;rcases List.mem_append.1 he1 with h1|h1
   ·have:=hn2 e h1;omega
   ·simp at h1;subst h1;simp
  ·rw [List.map_append,List.nodup_append];refine⟨hn3,by simp,?_⟩;intro a ha1 c hc;simp at hc;subst hc;rintro rfl;obtain⟨p,hp,he2⟩:=List.mem_map.1 ha1;unfold at? at hx;simp only [Option.map_eq_none_iff,List.find?_eq_none] at hx;exact hx p hp (by simpa using he2)
theorem k_a {t kt et:TypeId} {k:IntKind} {z:Value} (E:MapT P t kt et k z) {w:World} {b:Nat} {m:List (Int×Value)} (h:MapIs w b k m) (x:Int) {K:Value→Prop}
  (hK:K ((at? m x).getD z)):q_f P (Instr.lookup t (.map (some b)) (.int k x) false) w K:=by
 obtain⟨es,clock,hb,he,_,_,_⟩:=h;obtain⟨r,hr,ha,_⟩:=D_b (x:=x) es m 0 he;refine⟨_,?_,hK⟩;unfold Instr.lookup;have hg:(getObj b).run P w=.ok (.map es.toArray clock) w:=by simp [getObj,Sem.run,hb]
 simp only [Sem.run_bind,N_ E.und,Result.andThen_ok,hg,Z_a E.key,Instr.findKey,N_ E.key,hr,Sem.run_pure];cases r with
 | none =>
  simp only [Option.map_none] at ha;simp [Sem.run_bind,M_b E.zero,←ha]
 | some p =>
  obtain⟨j,v⟩:=p;simp only [Option.map_some] at ha;simp [←ha]
theorem B_c {α β:Type} (f:α→β):∀(l:List α) (j:Nat),(l.eraseIdx j).map f=(l.map f).eraseIdx j
 | [],_=>by simp
 | _ :: _,0=>by simp
 | a :: l,j+1=>by simp [B_c f l j]
theorem A_f {t kt et ty:TypeId} {k:IntKind} {z:Value} (E:MapT P t kt et k z) {w:World} {b:Nat} {m:List (Int×Value)} (h:MapIs w b k m) (x:Int) {K:Value→World→Prop}
  (hK:∀w',MapIs w' b k (m.filter fun p=>p.1 != x)→Fr (·=b) w w'→w'.heap.size=w.heap.size→K (.tuple #[]) w'):RunV P (Builtin.delete_ #[t,kt] ty #[.map (some b),.int k x]) w K:=by
 obtain⟨es,clock,hb,he,hn1,hn2,hn3⟩:=h;have hlt:b<w.heap.size:=(Array.getElem?_eq_some_iff.1 hb).1;obtain⟨r,hr,ha,hpos⟩:=D_b (x:=x) es m 0 he;have hg:(getObj b).run P w=.ok (.map es.toArray clock) w:=by simp [getObj,Sem.run,hb]
 cases r with
 | none =>
  simp only [Option.map_none] at ha;refine⟨_,_,?_,hK { w with heap:=w.heap.setIfInBounds b (.map es.toArray clock) } ?_ Fr.set (by simp)⟩
  ·unfold Builtin.delete_;simp only [List.getElem?_toArray,List.getElem?_cons_zero,List.getElem?_cons_succ,Sem.run_bind,N_ E.und,Result.andThen_ok,hg,Z_a E.key,Instr.findKey,N_ E.key,hr,Sem.run_pure,v_f hb]
  ·have hf:m.filter (fun p=>p.1 != x)=m:=by
    rw [List.filter_eq_self];intro p hp;have ha2:=ha.symm;unfold at? at ha2;simp only [Option.map_eq_none_iff,List.find?_eq_none] at ha2;simpa using ha2 p hp
   rw [hf];exact⟨es,clock,by simp [hlt],he,hn1,hn2,hn3⟩
 | some p =>
  obtain⟨j,v⟩:=p;obtain⟨n,hj,h5,h6⟩:=hpos j v rfl;rw [Nat.zero_add] at hj;subst hj;refine⟨_,_,?_,hK { w with heap:=w.heap.setIfInBounds b (.map (es.toArray.eraseIdxIfInBounds j) clock) } ?_ Fr.set (by simp)⟩
  ·unfold Builtin.delete_;simp only [List.getElem?_toArray,List.getElem?_cons_zero,List.getElem?_cons_succ,Sem.run_bind,N_ E.und,Result.andThen_ok,hg,Z_a E.key,Instr.findKey,N_ E.key,hr,Sem.run_pure,v_f hb]
  ·have hjl:j<m.length:=by have:=(List.getElem?_eq_some_iff.1 h5).1;simpa using this
   have hel:es.length=m.length:=by have:=congrArg List.length he;simpa using this
   have hf:m.filter (fun p=>p.1 != x)=m.eraseIdx j:=by
    clear hK h6 hr ha hb hg hpos hn1 hn2 he hel
    induction m generalizing j with
    | nil=>simp at hjl
    | cons p m ih =>
     simp only [List.map_cons,List.nodup_cons] at hn3;cases j with
     | zero =>
      simp at h5;rw [List.filter_cons_of_neg (by simp [h5]),List.eraseIdx_cons_zero,List.filter_eq_self];intro q hq;have:q.1≠x:=fun h=>hn3.1 (by rw [h5,←h];exact List.mem_map.2 ⟨q,hq,rfl⟩);simpa using this
     | succ j =>
      have hne:p.1≠x:=fun h=>hn3.1 (by
       rw [h];rw [List.map_cons,List.getElem?_cons_succ] at h5;exact List.mem_of_getElem? h5)
      rw [List.filter_cons_of_pos (by simpa using hne),List.eraseIdx_cons_succ,ih hn3.2 j (by simpa using h5) (by simpa using hjl)]
   rw [hf];have e1:es.toArray.eraseIdxIfInBounds j=(es.eraseIdx j).toArray:=by
    simp
   refine⟨es.eraseIdx j,clock,by rw [e1];simp [hlt],?_,?_,?_,?_⟩
   ·rw [B_c,B_c,he]
   ·rw [B_c];exact hn1.sublist (List.eraseIdx_sublist _ _)
   ·exact fun e he1=>hn2 e (List.mem_of_mem_eraseIdx he1)
   ·rw [B_c];exact hn3.sublist (List.eraseIdx_sublist _ _)
def r_i (m:List (Int×Value)) (x:Int) (v:Value):List (Int×Value):=m.map fun p=>if p.1=x then (x,v) else p
theorem q_i (m:List (Int×Value)) (x:Int) (v:Value):(r_i m x v).map (·.1)=m.map (·.1):=by
 unfold r_i;rw [List.map_map]
 apply List.map_congr_left
 intro p _;simp only [Function.comp];split
 ·rename_i h;exact h.symm
 ·rfl
def Z_d (w:World) (b:Nat):Prop:=∃clock,w.heap[b]?=some (.map #[] clock)
theorem o_g {t kt et:TypeId} (hu:P.underlying t=some (.map kt et)) {w:World} {b:Nat} (h:Z_d w b) {K:Value→World→Prop}
  (hK:∀w' c,w'.heap[w.heap.size]?=some (.mapIter (some b) c #[] c)→Z_d w' b→Fr0 w w'→K (.pointer (some ⟨w.heap.size,0,none⟩)) w'):RunV P (Instr.range t (.map (some b))) w K:=by
 obtain⟨clock,hb⟩:=h;have hlt:b<w.heap.size:=(Array.getElem?_eq_some_iff.1 hb).1;have hg:(getObj b).run P w=.ok (.map #[] clock) w:=by simp [getObj,Sem.run,hb]
 refine⟨_,w.alloc (.mapIter (some b) clock #[] clock),?_,hK _ clock ?_ ⟨clock,?_⟩ ⟨rfl,rfl,rfl,by simp,fun c hc _=>?_⟩⟩
 ·unfold Instr.range;simp only [Sem.run_bind,N_ hu,Result.andThen_ok,hg,Sem.run_pure];simp
 ·show (w.heap.push _)[w.heap.size]?=_;simp
 ·show (w.heap.push _)[b]?=_;rw [Array.getElem?_push,if_neg (by omega)];exact hb
 ·show (w.heap.push _)[c]?=_;rw [Array.getElem?_push,if_neg (by omega)]
theorem M_i {ty:TypeId} {w:World} {b r c:Nat} (h:Z_d w b) (hr:w.heap[r]?=some (.mapIter (some b) c #[] c)) {K:Value→World→Prop}
  (hK:∀w',Qt w w'→K (.tuple #[.bool false]) w'):RunV P (Instr.next (.pointer (some ⟨r,0,none⟩)) false ty) w K:=by
 obtain⟨clock,hb⟩:=h;refine⟨_,w,?_,hK _ (Qt.refl _)⟩;rcases run_next_at (P:=P) w ty r b c c #[] #[] clock hr hb (by simp) (Nat.le_refl _) with ⟨_,h⟩|⟨e,he,_⟩
 ·exact h
 ·simp [leftOf] at he
end Go.Sh
namespace Go.Sh
theorem LdC {w:World} {a:Addr} {v:Value} {K:Value→Prop} (h:w.cell? a=some v) (k:K v):Ld w a K:=⟨v,h,k⟩
theorem New2 {w:World} {t:TypeId} {z0 z1 v0 v1:Value} {K:Addr→World→Prop} (k:∀w',Has w' w.heap.size [v0,v1]→Fr0 w w'→w'.heap.size=w.heap.size+1→K ⟨w.heap.size,0,none⟩ w') (h0:v0.oneCell'=true:=by rfl) (h1:v1.oneCell'=true:=by rfl) :
  New w #[z0,z1] t fun a w1=>St w1 a v0 fun w2=>St w2 (at0 a 1) v1 fun w3=>K a w3:=by
 refine New.mk fun w1 n0 f0 s0=>?_;simp only [H_,Nat.zero_add];refine n0.st (by simp) h0 fun w2 n1 f1 s1=>?_;refine n1.st (by simp) h1 fun w3 n2 f2 s2=>?_;have hf:Fr (·=w.heap.size) w w3:=(f0.mono (fun _ _ h=>h.elim)) |>.trans f1 |>.trans f2;exact k w3 (by simpa using n2) (hf.mono fun x hx h=>by omega) (by omega)
theorem New3 {w:World} {t:TypeId} {z0 z1 z2 v0 v1 v2:Value} {K:Addr→World→Prop} (k:∀w',Has w' w.heap.size [v0,v1,v2]→Fr0 w w'→w'.heap.size=w.heap.size+1→K ⟨w.heap.size,0,none⟩ w') (h0:v0.oneCell'=true:=by rfl) (h1:v1.oneCell'=true:=by rfl) (h2:v2.oneCell'=true:=by rfl) :
  New w #[z0,z1,z2] t fun a w1=>St w1 a v0 fun w2=>St w2 (at0 a 1) v1 fun w3=>St w3 (at0 a 2) v2 fun w4=>K a w4:=by
 refine New.mk fun w1 n0 f0 s0=>?_;simp only [H_,Nat.zero_add];refine n0.st (by simp) h0 fun w2 n1 f1 s1=>?_;refine n1.st (by simp) h1 fun w3 n2 f2 s2=>?_;refine n2.st (by simp) h2 fun w4 n3 f3 s3=>?_;have hf:Fr (·=w.heap.size) w w4:=(f0.mono (fun _ _ h=>h.elim)) |>.trans f1 |>.trans f2 |>.trans f3;exact k w4 (by simpa using n3) (hf.mono fun x hx h=>by omega) (by omega)
theorem New4 {w:World} {t:TypeId} {z0 z1 z2 z3 v0 v1 v2 v3:Value} {K:Addr→World→Prop} (k:∀w',Has w' w.heap.size [v0,v1,v2,v3]→Fr0 w w'→w'.heap.size=w.heap.size+1→K ⟨w.heap.size,0,none⟩ w') (h0:v0.oneCell'=true:=by rfl) (h1:v1.oneCell'=true:=by rfl) (h2:v2.oneCell'=true:=by rfl) (h3:v3.oneCell'=true:=by rfl) :
  New w #[z0,z1,z2,z3] t fun a w1=>St w1 a v0 fun w2=>St w2 (at0 a 1) v1 fun w3=>St w3 (at0 a 2) v2 fun w4=>St w4 (at0 a 3) v3 fun w5=>K a w5:=by
 refine New.mk fun w1 n0 f0 s0=>?_;simp only [H_,Nat.zero_add];refine n0.st (by simp) h0 fun w2 n1 f1 s1=>?_;refine n1.st (by simp) h1 fun w3 n2 f2 s2=>?_;refine n2.st (by simp) h2 fun w4 n3 f3 s3=>?_;refine n3.st (by simp) h3 fun w5 n4 f4 s4=>?_;have hf:Fr (·=w.heap.size) w w5:=(f0.mono (fun _ _ h=>h.elim)) |>.trans f1 |>.trans f2 |>.trans f3 |>.trans f4;exact k w5 (by simpa using n4) (hf.mono fun x hx h=>by omega) (by omega)
theorem New6 {w:World} {t:TypeId} {z0 z1 z2 z3 z4 z5 v0 v1 v2 v3 v4 v5:Value} {K:Addr→World→Prop} (k:∀w',Has w' w.heap.size [v0,v1,v2,v3,v4,v5]→Fr0 w w'→w'.heap.size=w.heap.size+1→K ⟨w.heap.size,0,none⟩ w') (h0:v0.oneCell'=true:=by rfl) (h1:v1.oneCell'=true:=by rfl) (h2:v2.oneCell'=true:=by rfl) (h3:v3.oneCell'=true:=by rfl) (h4:v4.oneCell'=true:=by rfl) (h5:v5.oneCell'=true:=by rfl) :
  New w #[z0,z1,z2,z3,z4,z5] t fun a w1=>St w1 a v0 fun w2=>St w2 (at0 a 1) v1 fun w3=>St w3 (at0 a 2) v2 fun w4=>St w4 (at0 a 3) v3 fun w5=>St w5 (at0 a 4) v4 fun w6=>St w6 (at0 a 5) v5 fun w7=>K a w7:=by
 refine New.mk fun w1 n0 f0 s0=>?_;simp only [H_,Nat.zero_add];refine n0.st (by simp) h0 fun w2 n1 f1 s1=>?_;refine n1.st (by simp) h1 fun w3 n2 f2 s2=>?_;refine n2.st (by simp) h2 fun w4 n3 f3 s3=>?_;refine n3.st (by simp) h3 fun w5 n4 f4 s4=>?_;refine n4.st (by simp) h4 fun w6 n5 f5 s5=>?_;refine n5.st (by simp) h5 fun w7 n6 f6 s6=>?_;have hf:Fr (·=w.heap.size) w w7:=(f0.mono (fun _ _ h=>h.elim)) |>.trans f1 |>.trans f2 |>.trans f3 |>.trans f4 |>.trans f5 |>.trans f6;exact k w7 (by simpa using n6) (hf.mono fun x hx h=>by omega) (by omega)
theorem New7 {w:World} {t:TypeId} {z0 z1 z2 z3 z4 z5 z6 v0 v1 v2 v3 v4 v5 v6:Value} {K:Addr→World→Prop} (k:∀w',Has w' w.heap.size [v0,v1,v2,v3,v4,v5,v6]→Fr0 w w'→w'.heap.size=w.heap.size+1→K ⟨w.heap.size,0,none⟩ w') (h0:v0.oneCell'=true:=by rfl) (h1:v1.oneCell'=true:=by rfl) (h2:v2.oneCell'=true:=by rfl) (h3:v3.oneCell'=true:=by rfl) (h4:v4.oneCell'=true:=by rfl) (h5:v5.oneCell'=true:=by rfl) (h6:v6.oneCell'=true:=by rfl) :
  New w #[z0,z1,z2,z3,z4,z5,z6] t fun a w1=>St w1 a v0 fun w2=>St w2 (at0 a 1) v1 fun w3=>St w3 (at0 a 2) v2 fun w4=>St w4 (at0 a 3) v3 fun w5=>St w5 (at0 a 4) v4 fun w6=>St w6 (at0 a 5) v5 fun w7=>St w7 (at0 a 6) v6 fun w8=>K a w8:=by
 refine New.mk fun w1 n0 f0 s0=>?_;simp only [H_,Nat.zero_add];refine n0.st (by simp) h0 fun w2 n1 f1 s1=>?_;refine n1.st (by simp) h1 fun w3 n2 f2 s2=>?_;refine n2.st (by simp) h2 fun w4 n3 f3 s3=>?_;refine n3.st (by simp) h3 fun w5 n4 f4 s4=>?_;refine n4.st (by simp) h4 fun w6 n5 f5 s5=>?_;refine n5.st (by simp) h5 fun w7 n6 f6 s6=>?_;refine n6.st (by simp) h6 fun w8 n7 f7 s7=>?_;have hf:Fr (·=w.heap.size) w w8:=(f0.mono (fun _ _ h=>h.elim)) |>.trans f1 |>.trans f2 |>.trans f3 |>.trans f4 |>.trans f5 |>.trans f6 |>.trans f7;exact k w8 (by simpa using n7) (hf.mono fun x hx h=>by omega) (by omega)
theorem K_j {w:World} {t:TypeId} {z0 z1 z2 z3 z4 z5 z6 z7 v0 v1 v2 v3 v4 v5 v6 v7:Value} {K:Addr→World→Prop} (k:∀w',Has w' w.heap.size [v0,v1,v2,v3,v4,v5,v6,v7]→Fr0 w w'→w'.heap.size=w.heap.size+1→K ⟨w.heap.size,0,none⟩ w') (h0:v0.oneCell'=true:=by rfl) (h1:v1.oneCell'=true:=by rfl) (h2:v2.oneCell'=true:=by rfl) (h3:v3.oneCell'=true:=by rfl) (h4:v4.oneCell'=true:=by rfl) (h5:v5.oneCell'=true:=by rfl) (h6:v6.oneCell'=true:=by rfl) (h7:v7.oneCell'=true:=by rfl) :
  New w #[z0,z1,z2,z3,z4,z5,z6,z7] t fun a w1=>St w1 a v0 fun w2=>St w2 (at0 a 1) v1 fun w3=>St w3 (at0 a 2) v2 fun w4=>St w4 (at0 a 3) v3 fun w5=>St w5 (at0 a 4) v4 fun w6=>St w6 (at0 a 5) v5 fun w7=>St w7 (at0 a 6) v6 fun w8=>St w8 (at0 a 7) v7 fun w9=>K a w9:=by
 refine New.mk fun w1 n0 f0 s0=>?_;simp only [H_,Nat.zero_add];refine n0.st (by simp) h0 fun w2 n1 f1 s1=>?_;refine n1.st (by simp) h1 fun w3 n2 f2 s2=>?_;refine n2.st (by simp) h2 fun w4 n3 f3 s3=>?_;refine n3.st (by simp) h3 fun w5 n4 f4 s4=>?_;refine n4.st (by simp) h4 fun w6 n5 f5 s5=>?_;refine n5.st (by simp) h5 fun w7 n6 f6 s6=>?_;refine n6.st (by simp) h6 fun w8 n7 f7 s7=>?_;refine n7.st (by simp) h7 fun w9 n8 f8 s8=>?_;have hf:Fr (·=w.heap.size) w w9:=(f0.mono (fun _ _ h=>h.elim)) |>.trans f1 |>.trans f2 |>.trans f3 |>.trans f4 |>.trans f5 |>.trans f6 |>.trans f7 |>.trans f8;exact k w9 (by simpa using n8) (hf.mono fun x hx h=>by omega) (by omega)
theorem New10 {w:World} {t:TypeId} {z0 z1 z2 z3 z4 z5 z6 z7 z8 z9 v0 v1 v2 v3 v4 v5 v6 v7 v8 v9:Value} {K:Addr→World→Prop} (k:∀w',Has w' w.heap.size [v0,v1,v2,v3,v4,v5,v6,v7,v8,v9]→Fr0 w w'→w'.heap.size=w.heap.size+1→K ⟨w.heap.size,0,none⟩ w') (h0:v0.oneCell'=true:=by rfl) (h1:v1.oneCell'=true:=by rfl) (h2:v2.oneCell'=true:=by rfl) (h3:v3.oneCell'=true:=by rfl) (h4:v4.oneCell'=true:=by rfl) (h5:v5.oneCell'=true:=by rfl) (h6:v6.oneCell'=true:=by rfl) (h7:v7.oneCell'=true:=by rfl) (h8:v8.oneCell'=true:=by rfl) (h9:v9.oneCell'=true:=by rfl) :
  New w #[z0,z1,z2,z3,z4,z5,z6,z7,z8,z9] t fun a w1=>St w1 a v0 fun w2=>St w2 (at0 a 1) v1 fun w3=>St w3 (at0 a 2) v2 fun w4=>St w4 (at0 a 3) v3 fun w5=>St w5 (at0 a 4) v4 fun w6=>St w6 (at0 a 5) v5 fun w7=>St w7 (at0 a 6) v6 fun w8=>St w8 (at0 a 7) v7 fun w9=>St w9 (at0 a 8) v8 fun w10=>St w10 (at0 a 9) v9 fun w11=>K a w11:=by
 refine New.mk fun w1 n0 f0 s0=>?_;simp only [H_,Nat.zero_add];refine n0.st (by simp) h0 fun w2 n1 f1 s1=>?_;refine n1.st (by simp) h1 fun w3 n2 f2 s2=>?_;refine n2.st (by simp) h2 fun w4 n3 f3 s3=>?_;refine n3.st (by simp) h3 fun w5 n4 f4 s4=>?_;refine n4.st (by simp) h4 fun w6 n5 f5 s5=>?_;refine n5.st (by simp) h5 fun w7 n6 f6 s6=>?_;refine n6.st (by simp) h6 fun w8 n7 f7 s7=>?_;refine n7.st (by simp) h7 fun w9 n8 f8 s8=>?_;refine n8.st (by simp) h8 fun w10 n9 f9 s9=>?_;refine n9.st (by simp) h9 fun w11 n10 f10 s10=>?_;have hf:Fr (·=w.heap.size) w w11:=(f0.mono (fun _ _ h=>h.elim)) |>.trans f1 |>.trans f2 |>.trans f3 |>.trans f4 |>.trans f5 |>.trans f6 |>.trans f7 |>.trans f8 |>.trans f9 |>.trans f10;exact k w11 (by simpa using n10) (hf.mono fun x hx h=>by omega) (by omega)
theorem New12 {w:World} {t:TypeId} {z0 z1 z2 z3 z4 z5 z6 z7 z8 z9 z10 z11 v0 v1 v2 v3 v4 v5 v6 v7 v8 v9 v10 v11:Value} {K:Addr→World→Prop} (k:∀w',Has w' w.heap.size [v0,v1,v2,v3,v4,v5,v6,v7,v8,v9,v10,v11]→Fr0 w w'→w'.heap.size=w.heap.size+1→K ⟨w.heap.size,0,none⟩ w') (h0:v0.oneCell'=true:=by rfl) (h1:v1.oneCell'=true:=by rfl) (h2:v2.oneCell'=true:=by rfl) (h3:v3.oneCell'=true:=by rfl) (h4:v4.oneCell'=true:=by rfl) (h5:v5.oneCell'=true:=by rfl) (h6:v6.oneCell'=true:=by rfl) (h7:v7.oneCell'=true:=by rfl) (h8:v8.oneCell'=true:=by rfl) (h9:v9.oneCell'=true:=by rfl) (h10:v10.oneCell'=true:=by rfl) (h11:v11.oneCell'=true:=by rfl) :
  New w #[z0,z1,z2,z3,z4,z5,z6,z7,z8,z9,z10,z11] t fun a w1=>St w1 a v0 fun w2=>St w2 (at0 a 1) v1 fun w3=>St w3 (at0 a 2) v2 fun w4=>St w4 (at0 a 3) v3 fun w5=>St w5 (at0 a 4) v4 fun w6=>St w6 (at0 a 5) v5 fun w7=>St w7 (at0 a 6) v6 fun w8=>St w8 (at0 a 7) v7 fun w9=>St w9 (at0 a 8) v8 fun w10=>St w10 (at0 a 9) v9 fun w11=>St w11 (at0 a 10) v10 fun w12=>St w12 (at0 a 11) v11 fun w13=>K a w13:=by
 refine New.mk fun w1 n0 f0 s0=>?_;simp only [H_,Nat.zero_add];refine n0.st (by simp) h0 fun w2 n1 f1 s1=>?_;refine n1.st (by simp) h1 fun w3 n2 f2 s2=>?_;refine n2.st (by simp) h2 fun w4 n3 f3 s3=>?_;refine n3.st (by simp) h3 fun w5 n4 f4 s4=>?_;refine n4.st (by simp) h4 fun w6 n5 f5 s5=>?_;refine n5.st (by simp) h5 fun w7 n6 f6 s6=>?_;refine n6.st (by simp) h6 fun w8 n7 f7 s7=>?_;refine n7.st (by simp) h7 fun w9 n8 f8 s8=>?_;refine n8.st (by simp) h8 fun w10 n9 f9 s9=>?_;refine n9.st (by simp) h9 fun w11 n10 f10 s10=>?_;refine n10.st (by simp) h10 fun w12 n11 f11 s11=>?_;refine n11.st (by simp) h11 fun w13 n12 f12 s12=>?_;have hf:Fr (·=w.heap.size) w w13:=(f0.mono (fun _ _ h=>h.elim)) |>.trans f1 |>.trans f2 |>.trans f3 |>.trans f4 |>.trans f5 |>.trans f6 |>.trans f7 |>.trans f8 |>.trans f9 |>.trans f10 |>.trans f11 |>.trans f12;exact k w13 (by simpa using n12) (hf.mono fun x hx h=>by omega) (by omega)
theorem Set2 {w1:World} {b:Nat} {z0 z1 v0 v1:Value} {K:World→Prop} (n0:Has w1 b [z0,z1]) (k:∀w',Has w' b [v0,v1]→Fr (·=b) w1 w'→w'.heap.size=w1.heap.size→K w') (h0:v0.oneCell'=true:=by rfl) (h1:v1.oneCell'=true:=by rfl) :
  St w1 ⟨b,0,none⟩ v0 fun w2=>St w2 ⟨b,1,none⟩ v1 fun w3=>K w3:=by
 refine n0.st (by simp) h0 fun w2 n1 f1 s1=>?_;refine n1.st (by simp) h1 fun w3 n2 f2 s2=>?_;exact k w3 (by simpa using n2) (f1 |>.trans f2) (by omega)
theorem h_i {w1:World} {b:Nat} {z0 z1 z2 z3 z4 z5 z6 v0 v1 v2 v3 v4 v5 v6:Value} {K:World→Prop} (n0:Has w1 b [z0,z1,z2,z3,z4,z5,z6]) (k:∀w',Has w' b [v0,v1,v2,v3,v4,v5,v6]→Fr (·=b) w1 w'→w'.heap.size=w1.heap.size→K w') (h0:v0.oneCell'=true:=by rfl) (h1:v1.oneCell'=true:=by rfl) (h2:v2.oneCell'=true:=by rfl) (h3:v3.oneCell'=true:=by rfl) (h4:v4.oneCell'=true:=by rfl) (h5:v5.oneCell'=true:=by rfl) (h6:v6.oneCell'=true:=by rfl) :
  St w1 ⟨b,0,none⟩ v0 fun w2=>St w2 ⟨b,1,none⟩ v1 fun w3=>St w3 ⟨b,2,none⟩ v2 fun w4=>St w4 ⟨b,3,none⟩ v3 fun w5=>St w5 ⟨b,4,none⟩ v4 fun w6=>St w6 ⟨b,5,none⟩ v5 fun w7=>St w7 ⟨b,6,none⟩ v6 fun w8=>K w8:=by
 refine n0.st (by simp) h0 fun w2 n1 f1 s1=>?_;refine n1.st (by simp) h1 fun w3 n2 f2 s2=>?_;refine n2.st (by simp) h2 fun w4 n3 f3 s3=>?_;refine n3.st (by simp) h3 fun w5 n4 f4 s4=>?_;refine n4.st (by simp) h4 fun w6 n5 f5 s5=>?_;refine n5.st (by simp) h5 fun w7 n6 f6 s6=>?_;refine n6.st (by simp) h6 fun w8 n7 f7 s7=>?_;exact k w8 (by simpa using n7) (f1 |>.trans f2 |>.trans f3 |>.trans f4 |>.trans f5 |>.trans f6 |>.trans f7) (by omega)
theorem Set8 {w1:World} {b:Nat} {z0 z1 z2 z3 z4 z5 z6 z7 v0 v1 v2 v3 v4 v5 v6 v7:Value} {K:World→Prop} (n0:Has w1 b [z0,z1,z2,z3,z4,z5,z6,z7]) (k:∀w',Has w' b [v0,v1,v2,v3,v4,v5,v6,v7]→Fr (·=b) w1 w'→w'.heap.size=w1.heap.size→K w') (h0:v0.oneCell'=true:=by rfl) (h1:v1.oneCell'=true:=by rfl) (h2:v2.oneCell'=true:=by rfl) (h3:v3.oneCell'=true:=by rfl) (h4:v4.oneCell'=true:=by rfl) (h5:v5.oneCell'=true:=by rfl) (h6:v6.oneCell'=true:=by rfl) (h7:v7.oneCell'=true:=by rfl) :
  St w1 ⟨b,0,none⟩ v0 fun w2=>St w2 ⟨b,1,none⟩ v1 fun w3=>St w3 ⟨b,2,none⟩ v2 fun w4=>St w4 ⟨b,3,none⟩ v3 fun w5=>St w5 ⟨b,4,none⟩ v4 fun w6=>St w6 ⟨b,5,none⟩ v5 fun w7=>St w7 ⟨b,6,none⟩ v6 fun w8=>St w8 ⟨b,7,none⟩ v7 fun w9=>K w9:=by
 refine n0.st (by simp) h0 fun w2 n1 f1 s1=>?_;refine n1.st (by simp) h1 fun w3 n2 f2 s2=>?_;refine n2.st (by simp) h2 fun w4 n3 f3 s3=>?_;refine n3.st (by simp) h3 fun w5 n4 f4 s4=>?_;refine n4.st (by simp) h4 fun w6 n5 f5 s5=>?_;refine n5.st (by simp) h5 fun w7 n6 f6 s6=>?_;refine n6.st (by simp) h6 fun w8 n7 f7 s7=>?_;refine n7.st (by simp) h7 fun w9 n8 f8 s8=>?_;exact k w9 (by simpa using n8) (f1 |>.trans f2 |>.trans f3 |>.trans f4 |>.trans f5 |>.trans f6 |>.trans f7 |>.trans f8) (by omega)
theorem Set12 {w1:World} {b:Nat} {z0 z1 z2 z3 z4 z5 z6 z7 z8 z9 z10 z11 v0 v1 v2 v3 v4 v5 v6 v7 v8 v9 v10 v11:Value} {K:World→Prop} (n0:Has w1 b [z0,z1,z2,z3,z4,z5,z6,z7,z8,z9,z10,z11]) (k:∀w',Has w' b [v0,v1,v2,v3,v4,v5,v6,v7,v8,v9,v10,v11]→Fr (·=b) w1 w'→w'.heap.size=w1.heap.size→K w') (h0:v0.oneCell'=true:=by rfl) (h1:v1.oneCell'=true:=by rfl) (h2:v2.oneCell'=true:=by rfl) (h3:v3.oneCell'=true:=by rfl) (h4:v4.oneCell'=true:=by rfl) (h5:v5.oneCell'=true:=by rfl) (h6:v6.oneCell'=true:=by rfl) (h7:v7.oneCell'=true:=by rfl) (h8:v8.oneCell'=true:=by rfl) (h9:v9.oneCell'=true:=by rfl) (h10:v10.oneCell'=true:=by rfl) (h11:v11.oneCell'=true:=by rfl) :
  St w1 ⟨b,0,none⟩ v0 fun w2=>St w2 ⟨b,1,none⟩ v1 fun w3=>St w3 ⟨b,2,none⟩ v2 fun w4=>St w4 ⟨b,3,none⟩ v3 fun w5=>St w5 ⟨b,4,none⟩ v4 fun w6=>St w6 ⟨b,5,none⟩ v5 fun w7=>St w7 ⟨b,6,none⟩ v6 fun w8=>St w8 ⟨b,7,none⟩ v7 fun w9=>St w9 ⟨b,8,none⟩ v8 fun w10=>St w10 ⟨b,9,none⟩ v9 fun w11=>St w11 ⟨b,10,none⟩ v10 fun w12=>St w12 ⟨b,11,none⟩ v11 fun w13=>K w13:=by
 refine n0.st (by simp) h0 fun w2 n1 f1 s1=>?_;refine n1.st (by simp) h1 fun w3 n2 f2 s2=>?_;refine n2.st (by simp) h2 fun w4 n3 f3 s3=>?_;refine n3.st (by simp) h3 fun w5 n4 f4 s4=>?_;refine n4.st (by simp) h4 fun w6 n5 f5 s5=>?_;refine n5.st (by simp) h5 fun w7 n6 f6 s6=>?_;refine n6.st (by simp) h6 fun w8 n7 f7 s7=>?_;refine n7.st (by simp) h7 fun w9 n8 f8 s8=>?_;refine n8.st (by simp) h8 fun w10 n9 f9 s9=>?_;refine n9.st (by simp) h9 fun w11 n10 f10 s10=>?_;refine n10.st (by simp) h10 fun w12 n11 f11 s11=>?_;refine n11.st (by simp) h11 fun w13 n12 f12 s12=>?_;exact k w13 (by simpa using n12) (f1 |>.trans f2 |>.trans f3 |>.trans f4 |>.trans f5 |>.trans f6 |>.trans f7 |>.trans f8 |>.trans f9 |>.trans f10 |>.trans f11 |>.trans f12) (by omega)
end Go.Sh
namespace Go.Proofs.YtmgjicnipgdjhaaGreatDoor
open Go Go.Sh
open Go.IntKind (i64 u64 u32)
abbrev Ro:=Nat→Nat×Nat
def RExt (w:World) (ro ro':Ro):Prop:=∀b,b<w.heap.size→ro' b=ro b
theorem RExt.refl (w:World) (ro:Ro):RExt w ro ro:=fun _ _=>rfl
theorem RExt.trans {w w':World} {a b c:Ro} (h:RExt w a b) (k:RExt w' b c) (hs:w.heap.size≤w'.heap.size):RExt w a c:=fun x hx=>(k x (Nat.lt_of_lt_of_le hx hs)).trans (h x hx)
def Ro.put (ro:Ro) (b:Nat) (r:Nat×Nat):Ro:=fun x=>if x=b then r else ro x
theorem Ro.put_same (ro:Ro) (b:Nat) (r:Nat×Nat):ro.put b r b=r:=by simp [Ro.put]
theorem Ro.put_ne {ro:Ro} {b x:Nat} {r:Nat×Nat} (h:x≠b):ro.put b r x=ro x:=by simp [Ro.put,h]
theorem RExt.put {w:World} {ro:Ro} {b:Nat} {r:Nat×Nat} (h:w.heap.size≤b):RExt w ro (ro.put b r):=fun x hx=>Ro.put_ne (by omega)
abbrev FrK (l:List Nat) (ro:Ro) (w w':World):Prop:=Fr (fun b=>(ro b).1∈l) w w'
theorem FrK.then {l:List Nat} {ro ro':Ro} {w w1 w2:World} (h:FrK l ro w w1) (e:RExt w ro ro') (k:FrK l ro' w1 w2):FrK l ro w w2 :=
 ⟨k.os.trans h.os,k.output.trans h.output,k.tape.trans h.tape,Nat.le_trans h.size k.size,fun b hb hn =>
  (k.block b (Nat.lt_of_lt_of_le hb h.size) (by rw [e b hb];exact hn)).trans (h.block b hb hn)⟩
def z_ (mem:Nat→Nat) (f:Nat):List Value:=(List.range 4096).map fun i=>.int .u8 ((mem (4096*f+i):Nat):Int)
def upd (mem:Nat→Nat) (a b:Nat):Nat→Nat:=fun x=>if x=a then b else mem x
theorem R_a (mem:Nat→Nat) (f:Nat):(z_ mem f).length=4096:=by simp [z_]
theorem z_a {mem:Nat→Nat} {f i:Nat} (h:i<4096):(z_ mem f)[i]?=some (.int .u8 ((mem (4096*f+i):Nat):Int)):=by simp [z_,h]
theorem N_g {mem:Nat→Nat} {f i b:Nat} (h:i<4096):(z_ mem f).set i (.int .u8 (b:Int))=z_ (upd mem (4096*f+i) b) f:=by
 apply List.ext_getElem?
 intro j;rw [List.getElem?_set];by_cases hj:j<4096
 ·rw [z_a hj,z_a hj];by_cases hij:i=j
  ·subst hij;simp [upd,R_a,h]
  ·rw [if_neg hij,upd,if_neg (by omega)]
 ·rw [List.getElem?_eq_none (by rw [R_a];omega),List.getElem?_eq_none (by rw [R_a];omega)];split
  ·rw [if_neg (by rw [R_a];omega)]
  ·rfl
theorem D_f {mem:Nat→Nat} {f g i b:Nat} (h:f≠g) (hi:i<4096):z_ (upd mem (4096*f+i) b) g=z_ mem g:=by
 unfold z_
 apply List.map_congr_left
 intro j hj;rw [List.mem_range] at hj;rw [upd,if_neg (by omega)]
structure RamL (w:World) (ro:Ro) (m h fr:Nat) (L:List (Int×Value)) (mem:Nat→Nat):Prop where
 st:Has w m [.int .i64 (fr:Int),.map (some h)]
 rm:ro m=(1,0)
 held:MapIs w h .i64 L
 rh:ro h=(2,0)
 has:∀x v,at? L x=some v→∃fb f:Nat,x=(f:Int)∧f<fr∧v=.pointer (some ⟨fb,0,none⟩)∧ro fb=(3,f)∧Has w fb (z_ mem f)
 zero:∀f:Nat,at? L (f:Int)=none→∀i,i<4096→mem (4096*f+i)=0
 byte:∀a,mem a<256
 small:fr≤65536
theorem K_a {w:World} {b:Nat} {k:IntKind} {m:List (Int×Value)} (h:MapIs w b k m):b<w.heap.size:=by
 obtain⟨es,clock,h1,_⟩:=h;exact (Array.getElem?_eq_some_iff.1 h1).1
theorem RamL.ext {w:World} {ro ro':Ro} {m h fr:Nat} {L:List (Int×Value)} {mem:Nat→Nat} (H:RamL w ro m h fr L mem) (e:RExt w ro ro'):RamL w ro' m h fr L mem:=by
 refine⟨H.st,(e m H.st.lt).trans H.rm,H.held,(e h (K_a H.held)).trans H.rh,fun x v hx=>?_,H.zero,H.byte,H.small⟩;obtain⟨fb,f,h1,h2,h3,h4,h5⟩:=H.has x v hx;exact⟨fb,f,h1,h2,h3,(e fb h5.lt).trans h4,h5⟩
theorem RamL.fr {w w':World} {ro:Ro} {m h fr:Nat} {L:List (Int×Value)} {mem:Nat→Nat} (H:RamL w ro m h fr L mem) {S:Nat→Prop} (f:Fr S w w') (hS:∀b,(ro b).1=1∨(ro b).1=2∨(ro b).1=3→¬S b):RamL w' ro m h fr L mem:=by
 refine⟨H.st.fr f (hS _ (.inl (by rw [H.rm]))),H.rm,H.held.fr f (hS _ (.inr (.inl (by rw [H.rh])))),H.rh,fun x v hx=>?_,H.zero,H.byte,H.small⟩;obtain⟨fb,g,h1,h2,h3,h4,h5⟩:=H.has x v hx;exact⟨fb,g,h1,h2,h3,h4,h5.fr f (hS _ (.inr (.inr (by rw [h4]))))⟩
theorem RamL.fr0 {w w':World} {ro:Ro} {m h fr:Nat} {L:List (Int×Value)} {mem:Nat→Nat} (H:RamL w ro m h fr L mem) (f:Fr0 w w'):RamL w' ro m h fr L mem:=H.fr f fun _ _ h=>h
def setB (mem:Nat→Nat) (pa v:Nat):Nat→(Nat→Nat)
 | 0=>mem
 | i+1=>upd (setB mem pa v i) (pa+i) (v/256^i%256)
def p_i (mem:Nat→Nat) (pa v:Nat):Nat→Nat:=setB mem pa v 4
def getW (mem:Nat→Nat) (pa:Nat):Nat:=((mem (pa+3)*256+mem (pa+2))*256+mem (pa+1))*256+mem pa
theorem T283:MapT prog 283 3 330 .i64 (.pointer none):=⟨by kernel_rfl,by kernel_rfl,by kernel_rfl⟩
theorem bld386 (w:World):(Instr.build 386 #[]).run prog w=.ok (.agg (Array.replicate 4096 (.int .u8 0))) w:=by kernel_rfl
theorem f197 {w:World} {m h fr:Nat} (hs:Has w m [.int .i64 (fr:Int),.map (some h)]) (hf:fr≤65536):Ret prog 197 #[.pointer (some ⟨m,0,none⟩)] w fun v w'=>v=.int .u64 ((fr*4096:Nat):Int)∧w'=w:=by
 refine F197_of ?_;unfold F197;try dsimp only [li_]
 refine hs.ld rfl (AsI_int.2 ⟨?_,rfl⟩);rw [b_a (n:=(fr:Int)) (by omega) (by omega),b_a (by omega) (by omega)];exact congrArg (Value.int .u64) (by omega)
def wErr (fr pa:Nat):Nat:=if pa%4≠0 then 2 else if fr*4096≤pa then 30 else 0
theorem f153 {w:World} {m h fr:Nat} (hs:Has w m [.int .i64 (fr:Int),.map (some h)]) (hf:fr≤65536) (pa:Nat):Ret prog 153 #[.pointer (some ⟨m,0,none⟩),.int .u64 (pa:Int),.int .u64 4] w fun v w'=>v=.int .i64 (wErr fr pa:Nat)∧w'=w:=by
 refine F153_of ?_;unfold F153 wErr;refine NZ.mk (by decide) ?_;rw [show (4:Int)=((4:Nat):Int) from rfl,←Int.ofNat_tmod];refine b_ (fun h=>?_) (fun h=>?_)
 ·rw [if_pos (by omega)];exact⟨rfl,rfl⟩
 ·rw [if_neg (by omega)];refine Ret.use (f197 hs hf) ?_;rintro _ _ ⟨rfl,hw⟩;obtain rfl:=hw.symm;rw [AsI_int];refine C_ (fun h=>?_) (fun h=>?_)
  ·rw [if_pos (by omega)];exact⟨rfl,rfl⟩
  ·rw [if_neg (by omega)];exact⟨rfl,rfl⟩
theorem i_f {pa:Nat} (h:pa<268435456):i64.wrap (u64.wrap ((pa:Int).tdiv 4096))=((pa/4096:Nat):Int):=by
 rw [show (4096:Int)=((4096:Nat):Int) from rfl,←Int.ofNat_tdiv,b_a (by omega) (by omega),w64 (by omega) (by omega)]
theorem f154 {w:World} {ro:Ro} {m h fr:Nat} {L:List (Int×Value)} {mem:Nat→Nat} (H:RamL w ro m h fr L mem) (pa:Nat) (hp:wErr fr pa=0) :
  Ret prog 154 #[.pointer (some ⟨m,0,none⟩),.int .u64 (pa:Int),.int .u64 4] w fun v w'=>v=.int .u32 (getW mem pa:Nat)∧w'=w:=by
 have hs:=H.small;have hp4:pa%4=0:=by unfold wErr at hp;split at hp<;>omega
 have hlt:pa<fr*4096:=by unfold wErr at hp;split at hp;omega;split at hp<;>omega
 have hpa:pa<268435456:=by omega
 have hst:=H.st;refine F154_of ?_;unfold F154;try dsimp only [Uvu,lm_,ui_]
 try simp only [hst.ld_iff,P_,H_,List.getElem?_cons_zero,List.getElem?_cons_succ,Option.some.injEq,exists_eq_left',AsI_int,AsB_bool,AsP_pointer,AsSl_slice,AsM_map,F_,UnC_cons,UnN_nil,G_,Nat.zero_add,Nat.reduceAdd,Nat.mul_one]
 rw [i_f hpa];refine k_a T283 H.held _ ?_;have hb:=H.byte;have hdm:pa=4096*(pa/4096)+pa%4096:=by omega
 cases hat:at? L ((pa/4096:Nat):Int) with
 | none =>
  simp only [Option.getD_none,AsP_pointer,Option.isNone_none,K_];have hz:=H.zero _ hat;refine⟨?_,trivial⟩;unfold getW;have z:∀j,j<4→mem (pa+j)=0:=fun j hj=>by
   have:=hz (pa%4096+j) (by omega)
   rwa [show 4096*(pa/4096)+(pa%4096+j)=pa+j by omega] at this
  have z0:=z 0 (by omega);rw [z 1 (by omega),z 2 (by omega),z 3 (by omega),show mem pa=0 from z0]
  rfl
 | some v =>
  obtain⟨fb,f,h1,h2,rfl,h4,h5⟩:=H.has _ _ hat;obtain rfl:f=pa/4096:=by omega
  simp only [Option.getD_some,AsP_pointer,Option.isNone_some,E_];obtain⟨g,hg⟩:∃g:Nat→Nat,g=fun k=>match k with|0=>0|1=>mem (pa+3)|2=>mem (pa+3)*256+mem (pa+2)|3=>(mem (pa+3)*256+mem (pa+2))*256+mem (pa+1)|_=>getW mem pa:=⟨_,rfl⟩
  refine Loop.by (fun s w'=>∃k:Nat,k≤4∧s=[.int .u64 ((4-k:Nat):Int),.int .u32 (g k:Nat)]∧w'=w) (fun s _=>match s with | [.int _ i,_]=>i.toNat|_=>0) ⟨0,by omega,by rw [hg];rfl,rfl⟩ ?_
  rintro _ _ ⟨k,hk,rfl,hw⟩;obtain rfl:=hw.symm;simp only [UnC_cons,UnN_nil,AsI_int,G_,H_,Nat.zero_add];refine C_ (fun hlt'=>?_) (fun hge=>?_)
  ·have hk4:k<4:=by omega
   have e1:u64.wrap (u64.wrap ((pa:Int).tmod 4096+((4-k:Nat):Int))-1)=((pa%4096+(3-k):Nat):Int):=by
    rw [show (4096:Int)=((4096:Nat):Int) from rfl,←Int.ofNat_tmod,b_a (n:=((pa%4096:Nat):Int)+((4-k:Nat):Int)) (by omega) (by omega),b_a (by omega) (by omega)];omega
   rw [e1];have hj:pa%4096+(3-k)<4096:=by omega
   refine⟨by omega,by omega,?_⟩;rw [Int.toNat_natCast];refine h5.ld (z_a hj) (AsI_int.2 ?_);rw [show 4096*(pa/4096)+(pa%4096+(3-k))=pa+(3-k) by omega];have hbk:=hb (pa+(3-k));have e2:u64.wrap (((4-k:Nat):Int)-1)=((4-(k+1):Nat):Int):=by rw [b_a (by omega) (by omega)];omega
   have e3:orI .u32 (l_ .u32 ((g k:Nat):Int) 8) (u32.wrap ((mem (pa+(3-k)):Nat):Int))=((g (k+1):Nat):Int):=by
    have b1:=hb (pa+3);have b2:=hb (pa+2);have b3:=hb (pa+1);rw [k_i (by omega) (by omega),or_shl8 _ hbk]
    ·subst hg;have:k=0∨k=1∨k=2∨k=3:=by omega
     rcases this with rfl|rfl|rfl|rfl
     ·simp
     ·rfl
     ·rfl
     ·rfl
    ·subst hg;have:k=0∨k=1∨k=2∨k=3:=by omega
     rcases this with rfl|rfl|rfl|rfl<;>simp only<;>omega
   rw [e2,e3];exact⟨⟨k+1,by omega,rfl,by trivial⟩,by show ((4-(k+1):Nat):Int).toNat<((4-k:Nat):Int).toNat;omega⟩
  ·obtain rfl:k=4:=by omega
   exact⟨by subst hg;rfl,trivial⟩
theorem f81 {w:World} {ro:Ro} {m h fr:Nat} {L:List (Int×Value)} {mem:Nat→Nat} (H:RamL w ro m h fr L mem) (pa:Nat) :
  Ret prog 81 #[.pointer (some ⟨m,0,none⟩),.int .u64 (pa:Int)] w fun v w'=>v=.tuple #[.int .u32 ((if wErr fr pa=0 then getW mem pa else 0:Nat):Int),.int .i64 (wErr fr pa:Nat)]∧w'=w:=by
 refine F81_of ?_;unfold F81;refine Ret.use (f153 H.st H.small pa) ?_;rintro _ _ ⟨rfl,hw⟩;obtain rfl:=hw.symm;rw [AsI_int];refine b_ (fun h=>?_) (fun h=>?_)
 ·rw [if_neg (by omega)];exact⟨rfl,rfl⟩
 ·have h0:wErr fr pa=0:=by omega
  refine Ret.use (f154 H pa h0) ?_;rintro _ _ ⟨rfl,hw⟩;obtain rfl:=hw.symm;rw [AsI_int,if_pos h0,h0];exact⟨rfl,rfl⟩
abbrev ramK:List Nat:=[2,3]
theorem U_b {L:List (Int×Value)} {x:Int} {v:Value} (h:at? L x=none):at? (L++[(x,v)]) x=some v:=by
 unfold at? at *;simp only [Option.map_eq_none_iff] at h;rw [List.find?_append,h];simp
theorem N_e {L:List (Int×Value)} {x y:Int} {v:Value} (h:y≠x):at? (L++[(x,v)]) y=at? L y:=by
 unfold at?;rw [List.find?_append];have:List.find? (fun p:Int×Value=>p.1==y) [(x,v)]=none:=by
  rw [List.find?_cons_of_neg (by simpa using fun e=>h e.symm)];rfl
 rw [this,Option.or_none]
theorem f198 {w:World} {ro:Ro} {m h fr:Nat} {L:List (Int×Value)} {mem:Nat→Nat} (H:RamL w ro m h fr L mem) (pa:Nat) (hlt:pa<fr*4096) :
  Ret prog 198 #[.pointer (some ⟨m,0,none⟩),.int .u64 (pa:Int)] w fun v w'=>∃fb ro' L',v=.pointer (some ⟨fb,0,none⟩)∧RExt w ro ro'∧RamL w' ro' m h fr L' mem∧at? L' ((pa/4096:Nat):Int)=some (.pointer (some ⟨fb,0,none⟩))∧FrK ramK ro w w':=by
 have hs:=H.small;have hpa:pa<268435456:=by omega
 have hst:=H.st;refine F198_of ?_;unfold F198;try dsimp only [lm_]
 simp only [H_,Nat.zero_add];refine hst.ld rfl (AsM_map.2 ?_);rw [i_f hpa];refine k_a T283 H.held _ ?_;cases hat:at? L ((pa/4096:Nat):Int) with
 | some v =>
  obtain⟨fb,f,h1,h2,rfl,h4,h5⟩:=H.has _ _ hat;simp only [Option.getD_some,AsP_pointer,Option.isNone_some,E_];exact⟨fb,ro,L,rfl,RExt.refl _ _,H,hat,Fr.refl _ _⟩
 | none =>
  simp only [Option.getD_none,AsP_pointer,Option.isNone_none,K_];refine⟨_,bld386,?_⟩;refine New.mk fun w1 n1 f1 s1=>?_;have H1:=H.fr0 f1;refine H1.st.ld rfl (AsM_map.2 ?_);refine P_a T283 H1.held hat _ fun w2 m2 f2 s2=>?_;have hm:=H.st.lt;have hh:=K_a H.held;obtain⟨b,hb⟩:∃b,w.heap.size=b:=⟨_,rfl⟩;rw [hb] at n1 m2 ⊢;have hext:RExt w ro (ro.put b (3,pa/4096)):=RExt.put (by omega);have n2:=n1.fr f2 (by omega);refine⟨b,ro.put b (3,pa/4096),L++[(((pa/4096:Nat):Int),.pointer (some ⟨b,0,none⟩))],rfl,hext,?_,U_b hat,?_⟩
  ·have hz:=H.zero _ hat;have hcell:(Value.agg (Array.replicate 4096 (.int .u8 0))).cells.toList=z_ mem (pa/4096):=by
    show (Array.replicate 4096 (Value.int .u8 0)).toList=_;rw [Array.toList_replicate]
    apply List.ext_getElem?
    intro j;by_cases hj:j<4096
    ·rw [z_a hj,hz j hj,List.getElem?_replicate,if_pos hj];rfl
    ·rw [List.getElem?_eq_none (by rw [List.length_replicate];omega),List.getElem?_eq_none (by rw [R_a];omega)]
   rw [hcell] at n2;have hmh:m≠h:=fun e=>by have h1:=H.rm;have h2:=H.rh;rw [e,h2] at h1;cases h1
   refine⟨H1.st.fr f2 hmh,(hext m hm).trans H.rm,m2,(hext h hh).trans H.rh,fun x v hx=>?_,fun f hf=>?_,H.byte,H.small⟩
   ·by_cases e:x=((pa/4096:Nat):Int)
    ·subst e;rw [U_b hat] at hx;injection hx with hx;subst hx
     exact⟨b,pa/4096,rfl,by omega,rfl,Ro.put_same _ _ _,n2⟩
    ·rw [N_e e] at hx;obtain⟨fb,f,h1,h2,h3,h4,h5⟩:=H1.has x v hx;obtain⟨fb',f',h1',h2',h3',h4',h5'⟩:=H.has x v hx;have hfb:fb'=fb:=by rw [h3] at h3';injection h3' with h3';injection h3' with h3';injection h3' with h3';exact h3'.symm
     subst hfb;exact⟨fb',f,h1,h2,h3,(hext fb' h5'.lt).trans h4,h5.fr f2 (fun e=>by rw [e,H.rh] at h4;cases h4)⟩
   ·by_cases e:(f:Int)=((pa/4096:Nat):Int)
    ·rw [e,U_b hat] at hf;cases hf
    ·rw [N_e e] at hf;exact H.zero f hf
  ·have g1:FrK ramK ro w w1:=f1.mono fun _ _ h=>h.elim;refine g1.trans (f2.mono fun x _ h=>?_);subst h;rw [H.rh];simp
theorem RamL.store {w:World} {ro:Ro} {m h fr:Nat} {L:List (Int×Value)} {mem:Nat→Nat} (H:RamL w ro m h fr L mem) {f fb i b:Nat} (hat:at? L (f:Int)=some (.pointer (some ⟨fb,0,none⟩))) (hi:i<4096) (hb:b<256) {K:World→Prop}
  (k:∀w',RamL w' ro m h fr L (upd mem (4096*f+i) b)→FrK ramK ro w w'→w'.heap.size=w.heap.size→K w'):St w ⟨fb,i,none⟩ (.int .u8 (b:Int)) K:=by
 obtain⟨fb',f',h1,h2,h3,h4,h5⟩:=H.has _ _ hat;obtain rfl:f=f':=by omega
 obtain rfl:fb=fb':=by injection h3 with h3;injection h3 with h3;injection h3
 refine h5.st (by rw [R_a];exact hi) rfl fun w' n' f' s'=>?_;rw [N_g hi] at n';have ne:∀x,ro x≠(3,f)→x≠fb:=fun x hx e=>hx (by rw [e];exact h4);refine k w' ⟨H.st.fr f' (ne _ (by rw [H.rm];simp)),H.rm,H.held.fr f' (ne _ (by rw [H.rh];simp)),H.rh,fun x v hx=>?_,fun g hg j hj=>?_,fun a=>?_,H.small⟩ (f'.mono fun x _ e=>by subst e;rw [h4];simp) s'
 ·obtain⟨gb,g,g1,g2,g3,g4,g5⟩:=H.has x v hx;by_cases e:g=f
  ·subst e;have:x=(g:Int):=g1;subst this;rw [hat] at hx;injection hx with hx
   rw [←hx] at g3;injection g3 with g3;injection g3 with g3;injection g3 with g3
   subst g3;exact⟨fb,g,rfl,g2,hx.symm,g4,n'⟩
  ·refine⟨gb,g,g1,g2,g3,g4,?_⟩;rw [D_f (fun h=>e h.symm) hi];exact g5.fr f' (ne _ (by rw [g4];simp;exact e))
 ·unfold upd;have:g≠f:=fun e=>by rw [e,hat] at hg;cases hg
  rw [if_neg (by omega)];exact H.zero g hg j hj
 ·unfold upd;split
  ·exact hb
  ·exact H.byte a
theorem f246 {w:World} {ro:Ro} {m h fr:Nat} {L:List (Int×Value)} {mem:Nat→Nat} (H:RamL w ro m h fr L mem) (pa v:Nat) (hp:wErr fr pa=0) (hv:v<2^32) :
  Ret prog 246 #[.pointer (some ⟨m,0,none⟩),.int .u64 (pa:Int),.int .u64 4,.int .u32 (v:Int)] w fun r w'=>r=.tuple #[]∧∃ro' L',RExt w ro ro'∧RamL w' ro' m h fr L' (p_i mem pa v)∧FrK ramK ro w w':=by
 have hp4:pa%4=0:=by unfold wErr at hp;split at hp<;>omega
 have hlt:pa<fr*4096:=by unfold wErr at hp;split at hp;omega;split at hp<;>omega
 refine F246_of ?_;unfold F246;try dsimp only [Uvu,ui_]
 refine Ret.use (f198 H pa hlt) ?_;rintro _ w1 ⟨fb,ro1,L1,rfl,he1,H1,hat,hf1⟩;rw [AsP_pointer];refine Loop.by (fun s w'=>∃i:Nat,i≤4∧s=[.int .u64 (i:Int),.int .u32 ((v/256^i:Nat):Int)]∧RamL w' ro1 m h fr L1 (setB mem pa v i)∧FrK ramK ro1 w1 w') (fun s _=>match s with | [.int _ i,_]=>4-i.toNat|_=>0)
  ⟨0,by omega,by simp,H1,Fr.refl _ _⟩ ?_
 rintro _ w2 ⟨i,hi,rfl,H2,hf2⟩;simp only [UnC_cons,UnN_nil,AsI_int,G_];refine C_ (fun h4=>?_) (fun h4=>?_)
 ·have e1:u64.wrap ((pa:Int).tmod 4096+(i:Int))=((pa%4096+i:Nat):Int):=by
   rw [show (4096:Int)=((4096:Nat):Int) from rfl,←Int.ofNat_tmod,b_a (by omega) (by omega)];omega
  rw [e1];have hj:pa%4096+i<4096:=by omega
  refine⟨by omega,by omega,?_⟩;simp only [Int.toNat_natCast,H_,Nat.zero_add,Nat.mul_one];have e2:IntKind.u8.wrap ((v/256^i:Nat):Int)=((v/256^i%256:Nat):Int):=by rw [IntKind.wrap_u8];omega
  have e3:W_ .u32 ((v/256^i:Nat):Int) 8=((v/256^(i+1):Nat):Int):=by
   rw [show (8:Int)=((8:Nat):Int) from rfl,J_a (by decide),Nat.shiftRight_eq_div_pow,Nat.div_div_eq_div_mul,Nat.pow_succ 256 i]
  rw [e2,e3,b_a (n:=(i:Int)+1) (by omega) (by omega)];refine H2.store hat hj (by omega) fun w3 H3 hf3 s3=>?_;rw [show 4096*(pa/4096)+(pa%4096+i)=pa+i by omega] at H3;exact⟨⟨i+1,by omega,rfl,H3,hf2.trans hf3⟩,by show 4-((i:Int)+1).toNat<4-(i:Int).toNat;omega⟩
 ·obtain rfl:i=4:=by omega
  refine⟨trivial,ro1,L1,he1,H2,?_⟩;exact FrK.then hf1 he1 hf2
end Go.Proofs.YtmgjicnipgdjhaaGreatDoor
