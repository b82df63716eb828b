import Derived.Test.YtmgjicnipgdjhaaGreatDoorP10
import Derived.Test.YtmgjicnipgdjhaaGreatDoorTie
import Derived.Test.YtmgjicnipgdjhaaGreatDoorCards
import Derived.Deep.Slices
set_option linter.unusedVariables false
set_option linter.unusedSimpArgs false
set_option maxRecDepth 100000
namespace Go.Proofs.YtmgjicnipgdjhaaGreatDoor
open Go Go.Sh Go.Fr
open Go.ChangeShapes Go.WideShapes Go.ChangeAt Go.WideElems Go.RowKit
theorem own:ownKnob Tryz.prog.godebug=none:=by kernel_rfl
theorem laidOut:laidOutB prog=true:=by kernel_rfl
section
variable {H:Type} {enc:TypeId×Value→H}
theorem L_ {α:Type} {cs l:List α} {off m j:Nat} {v:α} (h:(cs.drop off).take m=l) (hj:l[j]?=some v):cs[off+j]?=some v:=by
 subst h;have hjm:j<m:=by
  have:=(List.getElem?_eq_some_iff.1 hj).1;rw [List.length_take] at this;omega
 rw [List.getElem?_take,if_pos hjm,List.getElem?_drop] at hj;exact hj
theorem d_k {W:World} {base:Nat} {sp:Nat→Bool} {held:Bool} {t:TypeId} {fs:Array Field} {fuel:Nat} {cs:List Value} {x:DataW H×List MemPlace} (ht:prog.underlying t=some (.struct fs)) (h:DataW.trod enc prog W base sp held fuel t cs=some x) {i:Nat} {f:Field} (hf:fs[i]?=some f) :
  ∃n parts y,x.1=.agg parts∧parts[i]?=some y.1∧DataW.trod enc prog W base sp held n f.type ((cs.drop f.offset).take (prog.cellsOf f.type))=some y:=by
 obtain⟨xs,n,rfl,rfl,hcl,hxl,hfld⟩:=DataW.trod_struct ht h;have hi:i<fs.size:=(Array.getElem?_eq_some_iff.1 hf).1;have:=hfld i f hf;obtain⟨y,hy⟩:∃y,xs[i]?=some y:=⟨_,List.getElem?_eq_getElem (by omega)⟩;rw [hy] at this;exact⟨n,xs.map (·.1),y,rfl,by rw [List.getElem?_map,hy];rfl,this⟩
theorem p_ {W:World} {base:Nat} {sp:Nat→Bool} {held:Bool} {t:TypeId} {fs:Array Field} {fuel:Nat} {cs:List Value} {x:DataW H×List MemPlace} (ht:prog.underlying t=some (.struct fs)) (h:DataW.trod enc prog W base sp held fuel t cs=some x) {i u o:Nat} (hf:(fs[i]?).map (fun f=>(f.type,f.offset))=some (u,o))
  {k:IntKind} (hu:prog.underlying u=some (.int k)):∃z,cs[o]?=some (.int k z)∧(Lit.int k z).wf=true∧∃parts,x.1=.agg parts∧parts[i]?=some (.lit (.int k z)):=by
 obtain⟨f,hf1,hf2⟩:=Option.map_eq_some_iff.1 hf;injection hf2 with e1 e2
 obtain⟨n,parts,y,h1,h2,h3⟩:=d_k ht h hf1;rw [e1,e2] at h3;obtain⟨z,h4,h5,h6⟩:=DataW.trod_int hu h3;rw [h5] at h2;exact⟨z,by have:=L_ h4 (j:=0) rfl;rwa [Nat.add_zero] at this,h6,parts,h1,h2⟩
theorem s_d {W:World} {base:Nat} {sp:Nat→Bool} {held:Bool} {t:TypeId} {fs:Array Field} {fuel:Nat} {cs:List Value} {x:DataW H×List MemPlace} (ht:prog.underlying t=some (.struct fs)) (h:DataW.trod enc prog W base sp held fuel t cs=some x) {i u o:Nat} (hf:(fs[i]?).map (fun f=>(f.type,f.offset))=some (u,o))
  (hu:prog.underlying u=some .bool):∃z,cs[o]?=some (.bool z):=by
 obtain⟨f,hf1,hf2⟩:=Option.map_eq_some_iff.1 hf;injection hf2 with e1 e2
 obtain⟨n,parts,y,h1,h2,h3⟩:=d_k ht h hf1;rw [e1,e2] at h3;obtain⟨z,h4,h5⟩:=DataW.trod_bool hu h3;exact⟨z,by have:=L_ h4 (j:=0) rfl;rwa [Nat.add_zero] at this⟩
theorem D_e {W:World} {base:Nat} {sp:Nat→Bool} {held:Bool} {t:TypeId} {fs:Array Field} {fuel:Nat} {cs:List Value} {x:DataW H×List MemPlace} (ht:prog.underlying t=some (.struct fs)) (h:DataW.trod enc prog W base sp held fuel t cs=some x) {i u o m:Nat} (hf:(fs[i]?).map (fun f=>(f.type,f.offset))=some (u,o))
  (hc:prog.cellsOf u=m):∃n y parts,DataW.trod enc prog W base sp held n u ((cs.drop o).take m)=some y∧x.1=.agg parts∧parts[i]?=some y.1:=by
 obtain⟨f,hf1,hf2⟩:=Option.map_eq_some_iff.1 hf;injection hf2 with e1 e2
 obtain⟨n,parts,y,h1,h2,h3⟩:=d_k ht h hf1;rw [e1,e2,hc] at h3;exact⟨n,y,parts,h3,h1,h2⟩
theorem wf64 {n:Int} (h:(Lit.int .i64 n).wf=true):I64 n:=by
 simp only [Lit.wf,Bool.and_eq_true,decide_eq_true_eq] at h;exact h
theorem wf32 {n:Int} (h:(Lit.int .u32 n).wf=true):∃m:Nat,n=(m:Int)∧m<4294967296:=by
 simp only [Lit.wf,Bool.and_eq_true,decide_eq_true_eq] at h;have h:0≤n∧n≤4294967295:=h;exact⟨n.toNat,by omega,by omega⟩
theorem wfu64 {n:Int} (h:(Lit.int .u64 n).wf=true):∃m:Nat,n=(m:Int):=by
 simp only [Lit.wf,Bool.and_eq_true,decide_eq_true_eq] at h;have h:0≤n∧n≤18446744073709551615:=h;exact⟨n.toNat,by omega⟩
theorem Q_e:prog.underlying 3=some (.int .i64):=by kernel_rfl
theorem und5:prog.underlying 5=some (.int .u8):=by kernel_rfl
theorem und30:prog.underlying 30=some (.int .u64):=by kernel_rfl
theorem d_g:prog.underlying 35=some (.int .u32):=by kernel_rfl
theorem und76:prog.underlying 76=some (.int .u64):=by kernel_rfl
theorem n_i:prog.underlying 23=some (.struct (prog.fieldsOf 23)):=by kernel_rfl
theorem d_j:prog.underlying 25=some (.struct (prog.fieldsOf 25)):=by kernel_rfl
theorem c_g:prog.underlying 37=some (.struct (prog.fieldsOf 37)):=by kernel_rfl
theorem b_j:prog.underlying 40=some (.struct (prog.fieldsOf 40)):=by kernel_rfl
theorem P_e:prog.underlying 42=some (.struct (prog.fieldsOf 42)):=by kernel_rfl
theorem a_j:prog.underlying 57=some (.struct (prog.fieldsOf 57)):=by kernel_rfl
theorem u_h:prog.underlying 188=some (.struct (prog.fieldsOf 188)):=by kernel_rfl
theorem c_j:prog.underlying 290=some (.struct (prog.fieldsOf 290)):=by kernel_rfl
theorem und26:prog.underlying 26=some (.slice 42):=by kernel_rfl
theorem und33:prog.underlying 33=some (.slice 57):=by kernel_rfl
theorem und34:prog.underlying 34=some (.slice 35):=by kernel_rfl
theorem und38:prog.underlying 38=some (.slice 172):=by kernel_rfl
theorem cells23:prog.cellsOf 23=6:=by kernel_rfl
theorem s_k:prog.cellsOf 37=4:=by kernel_rfl
theorem cells40:prog.cellsOf 40=5:=by kernel_rfl
theorem cells42:prog.cellsOf 42=17:=by kernel_rfl
theorem cells57:prog.cellsOf 57=8:=by kernel_rfl
theorem cells33:prog.cellsOf 33=1:=by kernel_rfl
theorem cells34:prog.cellsOf 34=1:=by kernel_rfl
theorem cells35:prog.cellsOf 35=1:=by kernel_rfl
theorem cells38:prog.cellsOf 38=1:=by kernel_rfl
theorem cells25:prog.cellsOf 25=9:=by kernel_rfl
theorem list9 {l:List Value} (hl:l.length=9) {a0 a1 a2 a3 a4 a5 a6 a7 a8:Value} (h0:l[0]?=some a0) (h1:l[1]?=some a1) (h2:l[2]?=some a2) (h3:l[3]?=some a3) (h4:l[4]?=some a4) (h5:l[5]?=some a5) (h6:l[6]?=some a6) (h7:l[7]?=some a7) (h8:l[8]?=some a8) :
  l=[a0,a1,a2,a3,a4,a5,a6,a7,a8]:=by
 match l,hl with
 | [x0,x1,x2,x3,x4,x5,x6,x7,x8],_=>simp at h0 h1 h2 h3 h4 h5 h6 h7 h8;subst h0 h1 h2 h3 h4 h5 h6 h7 h8;rfl
theorem open_world {W:World} {base:Nat} {v:Value} {d:DataW H} {ps:List MemPlace} (hv:Value.okWide prog W .any base 25 v) (h:DataW.Trod enc prog W 0 (fun _=>true) true 25 v d ps) :
  ∃c0 c1 c2 c3 c4 c5 c6 c7 c8,v=.agg #[.int .i64 c0,.int .i64 c1,.int .i64 c2,.int .i64 c3,.int .i64 c4,.int .i64 c5,.int .i64 c6,.int .i64 c7,.int .i64 c8]∧I64 c7∧I64 c8:=by
 obtain⟨cs,rfl,hsz⟩:=okWide_struct d_j hv;obtain⟨fuel,hf⟩:=h;have hf:DataW.trod enc prog W 0 (fun _=>true) true fuel 25 cs.toList=some (d,ps):=hf;rw [cells25] at hsz;obtain⟨n,y,_,hs,_⟩:=D_e d_j hf (i:=0) (u:=23) (o:=0) (m:=6) (by kernel_rfl) cells23;obtain⟨z0,e0,_⟩:=p_ n_i hs (i:=0) (u:=3) (o:=0) (by kernel_rfl) Q_e;obtain⟨z1,e1,_⟩:=p_ n_i hs (i:=1) (u:=3) (o:=1) (by kernel_rfl) Q_e;obtain⟨z2,e2,_⟩:=p_ n_i hs (i:=2) (u:=3) (o:=2) (by kernel_rfl) Q_e;obtain⟨z3,e3,_⟩:=p_ n_i hs (i:=3) (u:=3) (o:=3) (by kernel_rfl) Q_e;obtain⟨z4,e4,_⟩:=p_ n_i hs (i:=4) (u:=3) (o:=4) (by kernel_rfl) Q_e;obtain⟨z5,e5,_⟩:=p_ n_i hs (i:=5) (u:=3) (o:=5) (by kernel_rfl) Q_e;obtain⟨z6,e6,_⟩:=p_ d_j hf (i:=1) (u:=3) (o:=6) (by kernel_rfl) Q_e;obtain⟨z7,e7,w7,_⟩:=p_ d_j hf (i:=2) (u:=3) (o:=7) (by kernel_rfl) Q_e;obtain⟨z8,e8,w8,_⟩:=p_ d_j hf (i:=3) (u:=3) (o:=8) (by kernel_rfl) Q_e;have g:∀{j:Nat} {v:Value},((cs.toList.drop 0).take 6)[j]?=some v→cs.toList[j]?=some v:=fun hj=>by
  have:=L_ rfl hj
  rwa [Nat.zero_add] at this
 have hl:=list9 (by simpa using hsz) (g e0) (g e1) (g e2) (g e3) (g e4) (g e5) e6 e7 e8;refine⟨z0,z1,z2,z3,z4,z5,z6,z7,z8,?_,wf64 w7,wf64 w8⟩
 congr 1
 rw [←Array.toList_inj,hl]
theorem c_h {α:Type} {g:α→List Value} {size:Nat} (hg:∀x,(g x).length=size) (hs:0<size) {W:World} {n:Nat} {O:Nat→α} {a:Addr} (h:∀i,i<n→∀j v,j<size→(g (O i))[j]?=some v→W.cell? ((a.add (i*size)).add j)=some v) :
  Rd W (some a) (((List.range n).map O).flatMap g)∧(0<n→a.block<W.heap.size):=by
 have first:0<n→a.spot=none∧a.block<W.heap.size:=by
  intro hn;obtain⟨v,hv⟩:∃v,(g (O 0))[0]?=some v:=⟨(g (O 0))[0]'(by rw [hg];exact hs),List.getElem?_eq_getElem _⟩;have h0:=h 0 hn 0 v hs hv;rw [Nat.zero_mul] at h0;simp only [Addr.add,if_true] at h0;have hb:=p_h h0;refine⟨?_,hb⟩;unfold World.cell? at h0;split at h0
  ·split at h0
   ·cases h0
   ·rename_i hsp;simpa using hsp
  ·cases h0
 refine⟨fun i v hv=>?_,fun hn=>(first hn).2⟩;have hlen:i<n*size:=by
  have:=(List.getElem?_eq_some_iff.1 hv).1;rw [k_b hg,List.length_map,List.length_range] at this;exact this
 have hin:i/size<n:=by rw [Nat.div_lt_iff_lt_mul hs];exact hlen
 have e:i=i/size*size+i%size:=by have:=Nat.div_add_mod i size;rw [Nat.mul_comm] at this;exact this.symm
 have h1:((List.range n).map O)[i/size]?=some (O (i/size)):=by rw [List.getElem?_map,List.getElem?_range hin];rfl
 rw [e,l_b hg _ (i/size) (i%size) (Nat.mod_lt _ hs) _ h1] at hv;have hc:=h (i/size) hin (i%size) v (Nat.mod_lt _ hs) hv;have hsp:=(first (Nat.lt_of_le_of_lt (Nat.zero_le _) hin)).1;obtain⟨ab,ao,asp⟩:=a;simp only at hsp;subst hsp;refine⟨ab,ao,rfl,?_⟩;rw [←n_a,←n_a,H_,H_] at hc;rw [e,←Nat.add_assoc];exact hc
instance:Inhabited Tr:=⟨⟨0,0,0,0,0,0,false,false⟩⟩
theorem tr_open {W:World} {fuel:Nat} {cs:List Value} {x:DataW H×List MemPlace} (h:DataW.trod enc prog W 0 (fun _=>true) true fuel 57 cs=some x):∃t:Tr,t.wf∧∀j v,j<8→t.cells[j]?=some v→cs[j]?=some v:=by
 obtain⟨z0,e0,_⟩:=p_ a_j h (i:=0) (u:=3) (o:=0) (by kernel_rfl) Q_e;obtain⟨z1,e1,w1,_⟩:=p_ a_j h (i:=1) (u:=35) (o:=1) (by kernel_rfl) d_g;obtain⟨z2,e2,w2,_⟩:=p_ a_j h (i:=2) (u:=30) (o:=2) (by kernel_rfl) und30;obtain⟨z3,e3,_⟩:=p_ a_j h (i:=3) (u:=3) (o:=3) (by kernel_rfl) Q_e;obtain⟨n,y,_,hs,_⟩:=D_e a_j h (i:=4) (u:=37) (o:=4) (m:=4) (by kernel_rfl) s_k;obtain⟨z4,e4,_⟩:=p_ c_g hs (i:=0) (u:=3) (o:=0) (by kernel_rfl) Q_e;obtain⟨z5,e5,w5,_⟩:=p_ c_g hs (i:=1) (u:=35) (o:=1) (by kernel_rfl) d_g;obtain⟨z6,e6⟩:=s_d c_g hs (i:=2) (u:=4) (o:=2) (by kernel_rfl) und4;obtain⟨z7,e7⟩:=s_d c_g hs (i:=3) (u:=4) (o:=3) (by kernel_rfl) und4;obtain⟨m1,rfl,l1⟩:=wf32 w1;obtain⟨m2,rfl⟩:=wfu64 w2;obtain⟨m5,rfl,l5⟩:=wf32 w5;refine⟨⟨z0,m1,m2,z3,z4,m5,z6,z7⟩,l1,fun j v hj hv=>?_⟩;rcases j with _|_|_|_|_|_|_|_|j
 ·rw [←hv];exact e0
 ·rw [←hv];exact e1
 ·rw [←hv];exact e2
 ·rw [←hv];exact e3
 ·rw [←hv];exact L_ (off:=4) (m:=4) (j:=0) rfl e4
 ·rw [←hv];exact L_ (off:=4) (m:=4) (j:=1) rfl e5
 ·rw [←hv];exact L_ (off:=4) (m:=4) (j:=2) rfl e6
 ·rw [←hv];exact L_ (off:=4) (m:=4) (j:=3) rfl e7
 ·omega
def Small (t:TypeId) (d:DataW H):Prop:=∀x∈d.weights prog t,x≤reachBytes
theorem j_c {t e:TypeId} {b:Nat} {elems spare:List (DataW H)} (ht:prog.underlying t=some (.slice e)) (hb:prog.bytesOf e=b) (h:Small t (.slice elems spare)):(elems.length+spare.length)*b≤reachBytes∧∀d∈elems,Small e d:=by
 unfold Small at h;simp only [DataW.weights,ht,hb] at h;refine⟨h _ (by simp),fun d hd x hx=>h x ?_⟩;have:∀l:List (DataW H),d∈l→x∈DataW.weightsAll prog e l:=by
  intro l
  induction l with
  | nil=>intro h;simp at h
  | cons y r ih =>
   intro h;simp only [DataW.weightsAll,List.mem_append];rcases List.mem_cons.1 h with rfl|h
   ·exact .inl hx
   ·exact .inr (ih h)
 simp [this elems hd]
theorem small_each {ts:List TypeId} {ds:List (DataW H)}:∀{i:Nat} {t:TypeId} {d:DataW H},(∀x∈DataW.weightsEach prog ts ds,x≤reachBytes)→ts[i]?=some t→ds[i]?=some d→Small t d:=by
 induction ts generalizing ds with
 | nil=>intro i t d _ h1 _;simp at h1
 | cons u r ih =>
  intro i t d h h1 h2;cases ds with
  | nil=>simp at h2
  | cons y s =>
   simp only [DataW.weightsEach,List.mem_append] at h;cases i with
   | zero =>
    simp at h1 h2;subst h1 h2;exact fun x hx=>h x (.inl hx)
   | succ i=>exact ih (fun x hx=>h x (.inr hx)) (by simpa using h1) (by simpa using h2)
theorem F_e {t:TypeId} {fs:Array Field} {parts:List (DataW H)} (ht:prog.underlying t=some (.struct fs)) (h:Small t (.agg parts)) {i:Nat} {u:TypeId} {d:DataW H} (hu:(fs.toList.map (·.type))[i]?=some u) (hd:parts[i]?=some d):Small u d:=by
 unfold Small at h;simp only [DataW.weights,ht] at h;exact small_each h hu hd
theorem R_k {W:World} {fuel:Nat} {cs:List Value} {x:DataW H×List MemPlace} (h:DataW.trod enc prog W 0 (fun _=>true) true fuel 33 cs=some x) (hsm:Small 33 x.1) :
  ∃q n c,∃l:List Tr,cs=[.slice q n c]∧n=l.length∧l.length≤c∧Rd W q (D_ l)∧(∀t∈l,t.wf)∧(l≠[]→∀b,On q b→b<W.heap.size)∧l.length≤2932031007402∧(q=none→c=0):=by
 rcases Deep.open_slice und33 h with ⟨rfl,_⟩|⟨a,n,c,m,nn,D,Pl,rfl,_,hlc,hcm,hm,rfl,hel⟩
 ·exact⟨none,0,0,[],rfl,rfl,Nat.le_refl _,Rd.nil _ _,by simp,fun h=>absurd rfl h,by simp,fun _=>rfl⟩
 have hm':n≤m:=by rw [hm];split<;>omega
 rw [cells57] at hel;have each:∀i,i<n→∃t:Tr,t.wf∧∀j v,j<8→t.cells[j]?=some v→W.cell? ((a.add (i*8)).add j)=some v:=by
  intro i hi;obtain⟨cs',hc,ht⟩:=hel i (by omega);obtain⟨_,_,hget⟩:=World.cells?_some hc;obtain⟨t,ht1,ht2⟩:=tr_open ht;exact⟨t,ht1,fun j v hj hv=>by rw [hget j hj];exact ht2 j v hj hv⟩
 obtain⟨O,hO⟩:=Deep.choose_lt (α:=Tr) (p:=fun i t=>t.wf∧∀j v,j<8→t.cells[j]?=some v→W.cell? ((a.add (i*8)).add j)=some v) each;obtain⟨k1,k2⟩:=c_h X_b (by decide) (fun i hi=>(hO i hi).2);have hs:=(j_c und33 (b:=48) (by kernel_rfl) hsm).1;refine⟨some a,n,c,(List.range n).map O,rfl,by simp,by simpa using hlc,k1,fun t ht=>?_,fun hne b hb=>?_,?_,fun h=>by cases h⟩
 ·obtain⟨i,hi,rfl⟩:=List.mem_map.1 ht;exact (hO i (List.mem_range.1 hi)).1
 ·obtain⟨a',ha,rfl⟩:=hb;obtain rfl:=Option.some.inj ha;refine k2 (Nat.pos_of_ne_zero fun h=>hne ?_);subst h;rfl
 ·simp only [List.length_map,List.length_range] at hs ⊢;unfold reachBytes at hs;omega
theorem vas_open {W:World} {fuel:Nat} {cs:List Value} {x:DataW H×List MemPlace} (h:DataW.trod enc prog W 0 (fun _=>true) true fuel 34 cs=some x) (hsm:Small 34 x.1) :
  ∃q n c,∃l:List Nat,cs=[.slice q n c]∧n=l.length∧Rd W q (l.map fun v=>Value.int .u32 ((v:Nat):Int))∧(∀v∈l,v<4294967296)∧l.length≤35184372087808:=by
 rcases Deep.open_slice und34 h with ⟨rfl,_⟩|⟨a,n,c,m,nn,D,Pl,rfl,_,hlc,hcm,hm,rfl,hel⟩
 ·exact⟨none,0,0,[],rfl,rfl,Rd.nil _ _,by simp,by simp⟩
 have hm':n≤m:=by rw [hm];split<;>omega
 rw [cells35] at hel;have each:∀i,i<n→∃z:Nat,z<4294967296∧∀j v,j<1→([Value.int .u32 ((z:Nat):Int)])[j]?=some v→W.cell? ((a.add (i*1)).add j)=some v:=by
  intro i hi;obtain⟨cs',hc,ht⟩:=hel i (by omega);obtain⟨_,_,hget⟩:=World.cells?_some hc;obtain⟨z,rfl,_,hw⟩:=DataW.trod_int d_g ht;obtain⟨m1,rfl,l1⟩:=wf32 hw;exact⟨m1,l1,fun j v hj hv=>by rw [hget j hj];exact hv⟩
 obtain⟨O,hO⟩:=Deep.choose_lt (α:=Nat) (p:=fun i z=>z<4294967296∧∀j v,j<1→([Value.int .u32 ((z:Nat):Int)])[j]?=some v→W.cell? ((a.add (i*1)).add j)=some v) each;obtain⟨k1,k2⟩:=c_h (g:=fun z:Nat=>[Value.int .u32 ((z:Nat):Int)]) (size:=1) (fun _=>rfl) (by decide) (fun i hi=>(hO i hi).2);have hs:=(j_c und34 (b:=4) (by kernel_rfl) hsm).1;have e:∀l:List Nat,l.flatMap (fun z:Nat=>[Value.int .u32 ((z:Nat):Int)])=l.map fun v=>Value.int .u32 ((v:Nat):Int):=by
  intro l
  induction l with
  | nil=>rfl
  | cons x r ih=>simp [ih]
 rw [e] at k1;refine⟨some a,n,c,(List.range n).map O,rfl,by simp,k1,fun t ht=>?_,?_⟩
 ·obtain⟨i,hi,rfl⟩:=List.mem_map.1 ht;exact (hO i (List.mem_range.1 hi)).1
 ·simp only [List.length_map,List.length_range] at hs ⊢;unfold reachBytes at hs;omega
end
end Go.Proofs.YtmgjicnipgdjhaaGreatDoor
