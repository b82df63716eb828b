import Derived.Test.YtmgjicnipgdjhaaGreatDoorP03
import Derived.Laws.CopyRow
import Derived.Lib.Overlaps
set_option linter.unusedVariables false
set_option linter.unusedSimpArgs false
set_option maxRecDepth 100000
set_option maxHeartbeats 4000000
namespace Go.Proofs.YtmgjicnipgdjhaaGreatDoor
open Go Go.Sh Go.Proofs
open Go.IntKind (i64 u64 u32)
def F12 (e0:Addr) (w:World) (Q:KQ):Prop :=
 lm_ w (at0 e0 4) fun a=>A_ prog 49 #[Value.map a] w fun b c=>A_ prog 48 #[b] c fun d e=>t_ d fun f g h=>Q (Value.slice f g h) e
theorem F12_of {e0 w Q} (h:F12 e0 w Q):Ret prog 12 #[.pointer (some e0)] w Q:=co Tryz.func12 h
def F16 (e0:Addr) (at1:Int) (w:World) (Q:KQ):Prop :=
 lm_ w (at0 e0 4) fun a=>q_f prog (Instr.lookup 120 (Value.map a) (.int .u64 at1) true) w fun b=>I_ b fun c=>Upb c fun d e f=>UnN f (BIf (!e) (Q (Value.slice none (0:Nat) (0:Nat)) w) (NilP d fun g=>ls_ w (at0 g 2) fun h i j=>A_ prog 52 #[Value.slice h i j] w fun k l=>t_ k fun m n o=>Q (Value.slice m n o) l))
theorem F16_of {e0 at1 w Q} (h:F16 e0 at1 w Q):Ret prog 16 #[.pointer (some e0),.int .u64 at1] w Q:=co Tryz.func16 h
def F18 (e0:Addr) (at1:Int) (w:World) (Q:KQ):Prop :=
 lm_ w (at0 e0 4) fun c=>q_f prog (Instr.lookup 120 (Value.map c) (.int .u64 at1) true) w fun d=>I_ d fun e=>Upb e fun b f g=>UnN g (BIf (!f) (Q (.int .i64 140) w) (NilP b fun h=>ls_ w (at0 h 2) fun y i z=>BIf (decide ((↑i:Int)>0)) (Q (.int .i64 141) w) (lm_ w (at0 e0 4) fun j=>RunV prog (Builtin.delete_ #[(120:Nat),(30:Nat)] (0:Nat) #[Value.map j,.int .u64 at1]) w fun k a=>I_ k fun l=>UnN l (lp_ a.drew (at0 e0 1) fun m=>NilP b fun n=>li_ a.drew (at0 n 0) .i64 fun o=>NilP b fun p=>li_ a.drew (at0 p 1) .i64 fun r=>A_ prog 47 #[.pointer m,.int .i64 o,.int .i64 r] a.drew fun t u=>I_ t fun v=>Uii v fun a0 a1 x=>UnN x (Q (.int .i64 0) u)))))
theorem F18_of {e0 at1 w Q} (h:F18 e0 at1 w Q):Ret prog 18 #[.pointer (some e0),.int .u64 at1] w Q:=co Tryz.func18 h
def F19 (e0:Addr) (at1 asid2:Int) (w:World) (Q:KQ):Prop :=
 A_ prog 53 #[.pointer (some e0),.int .u64 at1,.int .i64 asid2,Value.agg #[.int .i64 0,.int .u32 0,.bool true,.bool false],Value.slice none (0:Nat) (0:Nat)] w fun m b=>I_ m fun n=>Upsi n fun a aG aH aI e o=>UnN o (BIf (e != 0) (Q (.int .i64 e) b) (NilP a fun p=>ls_ b (at0 p 2) fun aJ r aK=>BIf ((↑r:Int)==0) (Q (.int .i64 e) b) (NilP a fun t=>ls_ b (at0 t 2) fun u h aL=>Sh.Loop [.int .i64 0] b fun v x f=>ui_ x .i64 fun c y=>UnN y (BIf (decide (c<(↑h:Int))) (NilP u fun z=>0≤c∧c<(↑h:Int)∧B_ f (at0 z (c.toNat*8)) fun a0 a1 a2 a3 a4 a5 a6 a7=>New f #[.int .i64 0,.int .u32 0,.int .u64 0,.int .i64 0,.int .i64 0,.int .u32 0,.bool false,.bool false] 57 fun i a8=>S_8 a8 i (.int .i64 a0) (.int .u32 a1) (.int .u64 a2) (.int .i64 a3) (.int .i64 a4) (.int .u32 a5) (.bool a6) (.bool a7) fun j=>B_ j i fun a9 aa ab ac ad ae af ag=>A_ prog 54 #[.pointer (some e0),.int .u64 at1,.pointer a,Value.agg #[.int .i64 a9,.int .u32 aa,.int .u64 ab,.int .i64 ac,.int .i64 ad,.int .u32 ae,.bool af,.bool ag],.int .u32 0] j fun ah ai=>I_ ah fun aj=>UnN aj (v [.int .i64 (i64.wrap (c+1))] ai)) (A_ prog 55 #[.pointer (some e0),.int .i64 2,.int .u32 (u32.wrap asid2)] f fun ak k=>I_ ak fun al=>UnN al (NilP a fun am=>lm_ k (at0 am 3) fun an=>A_ prog 57 #[Value.map an] k fun ao ap=>A_ prog 56 #[ao] ap fun aq ar=>t_ aq fun au l aM=>Sh.Loop [.int .i64 0] ar fun av ax g=>ui_ ax .i64 fun d ay=>UnN ay (BIf (decide (d<(↑l:Int))) (NilP au fun az=>0≤d∧d<(↑l:Int)∧li_ g (at0 az (d.toNat*1)) .u32 fun aA=>A_ prog 58 #[.pointer (some e0),.int .u64 at1,.pointer a,.int .u32 aA] g fun aB aC=>I_ aB fun aD=>UnN aD (av [.int .i64 (i64.wrap (d+1))] aC)) (NilP a fun aE=>St g (at0 aE 2) (Value.slice none (0:Nat) (0:Nat)) fun aF=>Q (.int .i64 0) aF))))))))
theorem F19_of {e0 at1 asid2 w Q} (h:F19 e0 at1 asid2 w Q):Ret prog 19 #[.pointer (some e0),.int .u64 at1,.int .i64 asid2] w Q:=co Tryz.func19 h
def F22 (e0:Addr) (w:World) (Q:KQ):Prop :=
 lp_ w (at0 e0 2) fun a=>A_ prog 59 #[.pointer a] w fun b c=>t_ b fun d e f=>Q (Value.slice d e f) c
theorem F22_of {e0 w Q} (h:F22 e0 w Q):Ret prog 22 #[.pointer (some e0)] w Q:=co Tryz.func22 h
def F24 (e0:Addr) (at1:Int) (l2:Option Addr) (l2n l2c:Nat) (w:World) (Q:KQ):Prop :=
 lm_ w (at0 e0 4) fun aa=>q_f prog (Instr.lookup 120 (Value.map aa) (.int .u64 at1) true) w fun ab=>I_ ab fun ac=>Upb ac fun b ad ae=>UnN ae (BIf (!ad) (Q (.int .i64 140) w) (A_ prog 60 #[.pointer (some e0),.pointer b,Value.slice l2 l2n l2c] w fun af l=>AsI .i64 af fun m=>BIf (m != 0) (Q (.int .i64 m) l) (A_ prog 61 #[.pointer (some e0),.pointer b,Value.slice l2 l2n l2c] l fun ag n=>I_ ag fun ah=>um_ ah fun ai aj=>UnC aj fun bQ ak=>ui_ ak .i64 fun o al=>UnN al (BIf (o != 0) (Q (.int .i64 o) n) (Sh.Loop [.int .i64 0] n fun am an g=>ui_ an .i64 fun c ao=>UnN ao (BIf (decide (c<(↑l2n:Int))) (NilP l2 fun ap=>0≤c∧c<(↑l2n:Int)∧B_ g (at0 ap (c.toNat*8)) fun aq ar au av ax ay az aA=>New g #[.int .i64 0,.int .u32 0,.int .u64 0,.int .i64 0,.int .i64 0,.int .u32 0,.bool false,.bool false] 57 fun a aB=>S_8 aB a (.int .i64 aq) (.int .u32 ar) (.int .u64 au) (.int .i64 av) (.int .i64 ax) (.int .u32 ay) (.bool az) (.bool aA) fun p=>Join (fun aC h=>UnN aC (B_ h.drew a fun r t u v x y z a0=>B_ h.drew a fun aD aE aF aG aH aI aJ aK=>A_ prog 65 #[Value.agg #[.int .i64 aD,.int .u32 aE,.int .u64 aF,.int .i64 aG,.int .i64 aH,.int .u32 aI,.bool aJ,.bool aK]] h.drew fun aL i=>AsI .u32 aL fun aM=>(C_8 i a (.int .i64 r) (.int .u32 t) (.int .u64 u) (.int .i64 v) (.int .i64 x) (.int .u32 y) (.bool z) (.bool a0) <| tt i)∧A_ prog 54 #[.pointer (some e0),.int .u64 at1,.pointer b,Value.agg #[.int .i64 r,.int .u32 t,.int .u64 u,.int .i64 v,.int .i64 x,.int .u32 y,.bool z,.bool a0],.int .u32 aM] i fun aN a1=>I_ aN fun aO=>UnN aO (li_ a1 (at0 a 1) .u32 fun aP=>A_ prog 66 #[.pointer b,.int .u32 aP] a1 fun aQ j=>I_ aQ fun aR=>Uib aR fun aS bR aT=>UnN aT (NilP b fun a2=>ls_ j.drew (at0 a2 2) fun a3 a4 a5=>B_ j.drew a fun aU aV aW aX aY aZ b0 b1=>RunV prog (Instr.buildSlice 33 1 #[(0,Value.agg #[.int .i64 aU,.int .u32 aV,.int .u64 aW,.int .i64 aX,.int .i64 aY,.int .u32 aZ,.bool b0,.bool b1])]) j.drew fun b2 a6=>t_ b2 fun b3 b4 b5=>ce_ a6 (at0 a2 2) (Value.slice a3 a4 a5)∧A_ prog 67 #[Value.slice a3 a4 a5,.int .i64 aS,Value.slice b3 b4 b5] a6 fun b6 b7=>t_ b6 fun b8 b9 ba=>NilP b fun bb=>St b7 (at0 bb 2) (Value.slice b8 b9 ba) fun bc=>am [.int .i64 (i64.wrap (c+1))] bc)))) fun a7=>q_f prog (Instr.lookup 147 (Value.map ai) (.int .i64 c) true) p fun bd=>I_ bd fun be=>UnC be fun bf bg=>V_ bf fun bh=>Uib bh fun bi bj bk=>UnN bk (ub_ bg fun bl bm=>UnN bm (New p #[.int .i64 0,.bool false] 151 fun d bn=>St bn d (.int .i64 bi) fun bo=>St bo (at0 d 1) (.bool bj) fun e=>BIf bl (Join (fun bp k=>UnN bp (li_ k (at0 d 0) .i64 fun bq=>li_ k (at0 a 3) .i64 fun br=>A_ prog 63 #[Value.agg #[.int .i64 1,.int .u64 (u64.wrap (u64.wrap bq*1024)),.int .i64 br,.bool false,.int .i64 0,.int .u32 0,.bool false,.bool false]] k fun bs a8=>I_ bs fun bt=>Uui bt fun bu bS bv=>UnN bv (li_ a8 (at0 a 1) .u32 fun bx=>RunV prog (Instr.buildSlice 34 1 #[(0,.int .u32 bu)]) a8 fun bz bA=>t_ bz fun bB bC bD=>A_ prog 64 #[.pointer (some e0),.int .u64 (u64.wrap (at1+u64.wrap (u64.wrap (u32.wrap (bx.tdiv (1048576:Int)))*4))),Value.slice bB bC bD] bA fun bE f=>I_ bE fun bF=>UnN bF (NilP b fun bG=>lm_ f.drew (at0 bG 3) fun bH=>li_ f.drew (at0 a 1) .u32 fun bI=>li_ f.drew (at0 d 0) .i64 fun bJ=>H_j prog (Instr.mapUpdate 131 (Value.map bH) (.int .u32 (u32.wrap (bI.tdiv (1048576:Int)))) (.int .i64 bJ)) f.drew fun bK=>a7 [] bK)))) fun a9=>lb_ e (at0 d 1) fun bL=>BIf bL (lp_ e.drew (at0 e0 0) fun bM=>li_ e.drew (at0 d 0) .i64 fun bN=>A_ prog 62 #[.pointer bM,.int .i64 (i64.wrap (bN.tdiv (4:Int))),.int .i64 1] e.drew fun bO bP=>AsI .i64 bO fun bT=>a9 [] bP) (a9 [] e)) (a7 [] e)))) (Q (.int .i64 0) g)))))))
theorem F24_of {e0 at1 l2 l2n l2c w Q} (h:F24 e0 at1 l2 l2n l2c w Q):Ret prog 24 #[.pointer (some e0),.int .u64 at1,.slice l2 l2n l2c] w Q:=co Tryz.func24 h
def F29 (e0:Addr) (at1:Int) (l2:Option Addr) (l2n l2c:Nat) (w:World) (Q:KQ):Prop :=
 lm_ w (at0 e0 4) fun f=>q_f prog (Instr.lookup 120 (Value.map f) (.int .u64 at1) true) w fun g=>I_ g fun h=>Upb h fun b i j=>UnN j (BIf (!i) (Q (.int .i64 140) w) (A_ prog 60 #[.pointer (some e0),.pointer b,Value.slice l2 l2n l2c] w fun k c=>AsI .i64 k fun d=>BIf (d != 0) (Q (.int .i64 d) c) (A_ prog 61 #[.pointer (some e0),.pointer b,Value.slice l2 l2n l2c] c fun l e=>I_ l fun m=>um_ m fun x n=>UnC n fun o p=>ui_ p .i64 fun a r=>UnN r (BIf (a==0) (FnY prog o [] e fun t u=>I_ t fun v=>UnN v (Q (.int .i64 a) u)) (Q (.int .i64 a) e)))))
theorem F29_of {e0 at1 l2 l2n l2c w Q} (h:F29 e0 at1 l2 l2n l2c w Q):Ret prog 29 #[.pointer (some e0),.int .u64 at1,.slice l2 l2n l2c] w Q:=co Tryz.func29 h
def F40 (m0 p1:Addr) (n2:Int) (w:World) (Q:KQ):Prop :=
 A_ prog 21 #[.pointer (some p1)] w fun j k=>V_ j fun l=>Uii l fun m n o=>UnN o (New k #[.int .i64 0,.int .i64 0] 68 fun a p=>St p a (.int .i64 m) fun r=>St r (at0 a 1) (.int .i64 n) fun b=>BIf (decide (n2<1)) (Q (Value.tuple #[.pointer none,.int .i64 1]) b.drew) (BIf (decide (n2>7)) (Q (Value.tuple #[.pointer none,.int .i64 1]) b.drew) (li_ b.drew (at0 a 1) .i64 fun t=>BIf (decide (t>0)) (li_ b.drew (at0 a 0) .i64 fun d=>li_ b.drew (at0 a 1) .i64 fun e=>A_ prog 86 #[.pointer (some m0)] b.drew fun u c=>AsI .i64 u fun v=>ce_ c (at0 a 1) (.int .i64 e)∧ce_ c (at0 a 0) (.int .i64 d)∧BIf (decide (i64.wrap (d+e)>v)) (Q (Value.tuple #[.pointer none,.int .i64 1]) c) (A_ prog 87 #[.pointer (some p1)] c fun x f=>I_ x fun y=>Upi y fun z g a0=>UnN a0 (BIf (g != 0) (Q (Value.tuple #[.pointer none,.int .i64 g]) f) (RunV prog (Instr.makeMap 120 none) f fun a1 a2=>AsM a1 fun a3=>New a2 #[.pointer (some m0),.pointer (some p1),.pointer z,.int .i64 n2,Value.map a3] 124 fun a4 a5=>Q (Value.tuple #[.pointer (some a4),.int .i64 0]) a5)))) (A_ prog 87 #[.pointer (some p1)] b.drew fun a6 h=>I_ a6 fun a7=>Upi a7 fun a8 i a9=>UnN a9 (BIf (i != 0) (Q (Value.tuple #[.pointer none,.int .i64 i]) h) (RunV prog (Instr.makeMap 120 none) h fun aa ab=>AsM aa fun ac=>New ab #[.pointer (some m0),.pointer (some p1),.pointer a8,.int .i64 n2,Value.map ac] 124 fun ad ae=>Q (Value.tuple #[.pointer (some ad),.int .i64 0]) ae))))))
theorem F40_of {m0 p1 n2 w Q} (h:F40 m0 p1 n2 w Q):Ret prog 40 #[.pointer (some m0),.pointer (some p1),.int .i64 n2] w Q:=co Tryz.func40 h
def F41 (e0:Addr) (w:World) (Q:KQ):Prop :=
 Join (fun h d=>ui_ h .i64 fun a i=>UnN i (lp_ d (at0 e0 1) fun j=>A_ prog 46 #[.pointer j,.int .i64 a,.int .i64 a] d fun k c=>I_ k fun l=>Uii l fun b e m=>UnN m (BIf (e != 0) (Q (Value.tuple #[.int .u64 0,.int .i64 e]) c) (lp_ c (at0 e0 0) fun n=>A_ prog 62 #[.pointer n,.int .i64 b,.int .i64 a] c fun o f=>AsI .i64 o fun a0=>lm_ f (at0 e0 4) fun p=>RunV prog (Instr.makeMap 131 none) f fun r t=>AsM r fun u=>New t #[.int .i64 b,.int .i64 a,Value.slice none (0:Nat) (0:Nat),Value.map u] 133 fun v x=>H_j prog (Instr.mapUpdate 120 (Value.map p) (.int .u64 (u64.wrap (u64.wrap b*4096))) (.pointer (some v))) x fun y=>Q (Value.tuple #[.int .u64 (u64.wrap (u64.wrap b*4096)),.int .i64 0]) y)))) fun g=>li_ w (at0 e0 3) .i64 fun z=>BIf (z==1) (g [.int .i64 2] w) (g [.int .i64 1] w)
theorem F41_of {e0 w Q} (h:F41 e0 w Q):Ret prog 41 #[.pointer (some e0)] w Q:=co Tryz.func41 h
def F43 (e0:Addr) (at1 va2:Int) (w:World) (Q:KQ):Prop :=
 New w #[.int .i64 0,.int .u32 0,.int .u64 0,.int .i64 0,.int .i64 0,.int .u32 0,.bool false,.bool false] 57 fun a b=>lm_ b (at0 e0 4) fun i=>q_f prog (Instr.lookup 120 (Value.map i) (.int .u64 at1) true) b fun j=>I_ j fun k=>Upb k fun e l m=>UnN m (BIf (!l) (S_8 b a (.int .i64 0) (.int .u32 0) (.int .u64 0) (.int .i64 0) (.int .i64 0) (.int .u32 0) (.bool false) (.bool false) fun f=>B_ f a fun n o p r t u v x=>Q (Value.tuple #[Value.agg #[.int .i64 n,.int .u32 o,.int .u64 p,.int .i64 r,.int .i64 t,.int .u32 u,.bool v,.bool x],.bool false]) f) (A_ prog 66 #[.pointer e,.int .u32 va2] b fun y c=>I_ y fun z=>Uib z fun d a0 a1=>UnN a1 (BIf (!a0) (S_8 c a (.int .i64 0) (.int .u32 0) (.int .u64 0) (.int .i64 0) (.int .i64 0) (.int .u32 0) (.bool false) (.bool false) fun g=>B_ g a fun a2 a3 a4 a5 a6 a7 a8 a9=>Q (Value.tuple #[Value.agg #[.int .i64 a2,.int .u32 a3,.int .u64 a4,.int .i64 a5,.int .i64 a6,.int .u32 a7,.bool a8,.bool a9],.bool false]) g) (NilP e fun aa=>ls_ c (at0 aa 2) fun ab ac ax=>NilP ab fun ad=>0≤d∧d<(↑ac:Int)∧B_ c (at0 ad (d.toNat*8)) fun ae af ag ah ai aj ak al=>S_8 c a (.int .i64 ae) (.int .u32 af) (.int .u64 ag) (.int .i64 ah) (.int .i64 ai) (.int .u32 aj) (.bool ak) (.bool al) fun h=>B_ h a fun am an ao ap aq ar au av=>Q (Value.tuple #[Value.agg #[.int .i64 am,.int .u32 an,.int .u64 ao,.int .i64 ap,.int .i64 aq,.int .u32 ar,.bool au,.bool av],.bool true]) h))))
theorem F43_of {e0 at1 va2 w Q} (h:F43 e0 at1 va2 w Q):Ret prog 43 #[.pointer (some e0),.int .u64 at1,.int .u32 va2] w Q:=co Tryz.func43 h
def F44 (e0:Addr) (at1 asid2:Int) (vas3:Option Addr) (vas3n vas3c:Nat) (w:World) (Q:KQ):Prop :=
 A_ prog 53 #[.pointer (some e0),.int .u64 at1,.int .i64 asid2,Value.agg #[.int .i64 0,.int .u32 0,.bool true,.bool false],Value.slice vas3 vas3n vas3c] w fun r h=>I_ r fun t=>Upsi t fun b u i b0 j v=>UnN v (BIf (j != 0) (Q (.int .i64 j) h) (Sh.Loop [.int .i64 0] h fun x y d=>ui_ y .i64 fun c z=>UnN z (BIf (decide (c<(↑i:Int))) (Join (fun a0 a1=>UnN a0 (x [.int .i64 (i64.wrap (c+1))] a1)) fun e=>NilP u fun a2=>0≤c∧c<(↑i:Int)∧B_ d (at0 a2 (c.toNat*8)) fun a3 a4 a5 a6 a7 a8 a9 aa=>New d #[.int .i64 0,.int .u32 0,.int .u64 0,.int .i64 0,.int .i64 0,.int .u32 0,.bool false,.bool false] 57 fun a ab=>S_8 ab a (.int .i64 a3) (.int .u32 a4) (.int .u64 a5) (.int .i64 a6) (.int .i64 a7) (.int .u32 a8) (.bool a9) (.bool aa) fun k=>B_ k a fun ac ad ae af ag ah ai aj=>A_ prog 54 #[.pointer (some e0),.int .u64 at1,.pointer b,Value.agg #[.int .i64 ac,.int .u32 ad,.int .u64 ae,.int .i64 af,.int .i64 ag,.int .u32 ah,.bool ai,.bool aj],.int .u32 0] k fun ak l=>I_ ak fun al=>UnN al (li_ l (at0 a 1) .u32 fun am=>A_ prog 55 #[.pointer (some e0),.int .i64 1,.int .u32 (u32.wrap (am+u32.wrap asid2))] l fun an m=>I_ an fun ao=>UnN ao (li_ m (at0 a 1) .u32 fun ap=>A_ prog 66 #[.pointer b,.int .u32 ap] m fun aq n=>I_ aq fun ar=>Uib ar fun o b1 au=>UnN au (NilP b fun av=>ls_ n (at0 av 2) fun ax ay az=>A_ prog 88 #[Value.slice ax ay az,.int .i64 o,.int .i64 (i64.wrap (o+1))] n fun aA aB=>t_ aA fun aC aD aE=>NilP b fun aF=>St aB (at0 aF 2) (Value.slice aC aD aE) fun p=>B_ p a fun aG aH aI aJ aK aL aM aN=>A_ prog 89 #[Value.agg #[.int .i64 aG,.int .u32 aH,.int .u64 aI,.int .i64 aJ,.int .i64 aK,.int .u32 aL,.bool aM,.bool aN]] p fun aO f=>AsB aO fun aP=>BIf aP (NilP b fun aQ=>ls_ f (at0 aQ 2) fun aR aS aT=>A_ prog 90 #[Value.slice aR aS aT,Value.func (Fn.func 91) #[] #[.pointer (some a)]] f fun aU g=>AsB aU fun aV=>BIf (!aV) (li_ g (at0 a 1) .u32 fun aW=>A_ prog 58 #[.pointer (some e0),.int .u64 at1,.pointer b,.int .u32 (u32.wrap (aW.tdiv (1048576:Int)))] g fun aX aY=>I_ aX fun aZ=>UnN aZ (e [] aY)) (e [] g)) (e [] f))))) (Q (.int .i64 0) d))))
theorem F44_of {e0 at1 asid2 vas3 vas3n vas3c w Q} (h:F44 e0 at1 asid2 vas3 vas3n vas3c w Q):Ret prog 44 #[.pointer (some e0),.int .u64 at1,.int .i64 asid2,.slice vas3 vas3n vas3c] w Q:=co Tryz.func44 h
def F45 (e0:Addr) (at1 asid2 leaf3c0 leaf3c1:Int) (leaf3c2 leaf3c3:Bool) (vas4:Option Addr) (vas4n vas4c:Nat) (w:World) (Q:KQ):Prop :=
 New w #[.int .i64 leaf3c0,.int .u32 leaf3c1,.bool leaf3c2,.bool leaf3c3] 37 fun i j=>t_a j i fun a2 a3 a4 a5=>A_ prog 53 #[.pointer (some e0),.int .u64 at1,.int .i64 asid2,Value.agg #[.int .i64 a2,.int .u32 a3,.bool a4,.bool a5],Value.slice vas4 vas4n vas4c] j fun a6 k=>I_ a6 fun a7=>Upsi a7 fun c a8 l ba m a9=>UnN a9 (BIf (m != 0) (Q (.int .i64 m) k) (Sh.Loop [.int .i64 0] k fun aa ab d=>ui_ ab .i64 fun b ac=>UnN ac (BIf (decide (b<(↑l:Int))) (NilP a8 fun ad=>0≤b∧b<(↑l:Int)∧B_ d (at0 ad (b.toNat*8)) fun ae af ag ah ai aj ak al=>New d #[.int .i64 0,.int .u32 0,.int .u64 0,.int .i64 0,.int .i64 0,.int .u32 0,.bool false,.bool false] 57 fun a am=>S_8 am a (.int .i64 ae) (.int .u32 af) (.int .u64 ag) (.int .i64 ah) (.int .i64 ai) (.int .u32 aj) (.bool ak) (.bool al) fun n=>B_ n a fun an ao ap aq ar au av ax=>A_ prog 54 #[.pointer (some e0),.int .u64 at1,.pointer c,Value.agg #[.int .i64 an,.int .u32 ao,.int .u64 ap,.int .i64 aq,.int .i64 ar,.int .u32 au,.bool av,.bool ax],.int .u32 0] n fun ay o=>I_ ay fun az=>UnN az (li_ o (at0 a 1) .u32 fun aA=>A_ prog 55 #[.pointer (some e0),.int .i64 1,.int .u32 (u32.wrap (aA+u32.wrap asid2))] o fun aB p=>I_ aB fun aC=>UnN aC (t_a p i fun aD aE aF aG=>S_4 p (at0 a 4) (.int .i64 aD) (.int .u32 aE) (.bool aF) (.bool aG) fun e=>B_ e.drew a fun r t u v x y z a0=>B_ e.drew a fun aH aI aJ aK aL aM aN aO=>A_ prog 65 #[Value.agg #[.int .i64 aH,.int .u32 aI,.int .u64 aJ,.int .i64 aK,.int .i64 aL,.int .u32 aM,.bool aN,.bool aO]] e.drew fun aP f=>AsI .u32 aP fun aQ=>(C_8 f a (.int .i64 r) (.int .u32 t) (.int .u64 u) (.int .i64 v) (.int .i64 x) (.int .u32 y) (.bool z) (.bool a0) <| tt f)∧A_ prog 54 #[.pointer (some e0),.int .u64 at1,.pointer c,Value.agg #[.int .i64 r,.int .u32 t,.int .u64 u,.int .i64 v,.int .i64 x,.int .u32 y,.bool z,.bool a0],.int .u32 aQ] f fun aR a1=>I_ aR fun aS=>UnN aS (li_ a1 (at0 a 1) .u32 fun aT=>A_ prog 66 #[.pointer c,.int .u32 aT] a1 fun aU g=>I_ aU fun aV=>Uib aV fun h bb aW=>UnN aW (NilP c fun aX=>ls_ g.drew (at0 aX 2) fun aY aZ bc=>B_ g.drew a fun b0 b1 b2 b3 b4 b5 b6 b7=>NilP aY fun b8=>0≤h∧h<(↑aZ:Int)∧S_8 g.drew (at0 b8 (h.toNat*8)) (.int .i64 b0) (.int .u32 b1) (.int .u64 b2) (.int .i64 b3) (.int .i64 b4) (.int .u32 b5) (.bool b6) (.bool b7) fun b9=>aa [.int .i64 (i64.wrap (b+1))] b9))))) (Q (.int .i64 0) d))))
theorem F45_of {e0 at1 asid2 leaf3c0 leaf3c1 leaf3c2 leaf3c3 vas4 vas4n vas4c w Q} (h:F45 e0 at1 asid2 leaf3c0 leaf3c1 leaf3c2 leaf3c3 vas4 vas4n vas4c w Q):Ret prog 45 #[.pointer (some e0),.int .u64 at1,.int .i64 asid2,.agg #[.int .i64 leaf3c0,.int .u32 leaf3c1,.bool leaf3c2,.bool leaf3c3],.slice vas4 vas4n vas4c] w Q:=co Tryz.func45 h
def F53 (e0:Addr) (at1 asid2 leaf3c0 leaf3c1:Int) (leaf3c2 leaf3c3:Bool) (vas4:Option Addr) (vas4n vas4c:Nat) (w:World) (Q:KQ):Prop :=
 New w #[.int .i64 leaf3c0,.int .u32 leaf3c1,.bool leaf3c2,.bool leaf3c3] 37 fun d a=>lm_ a (at0 e0 4) fun p=>q_f prog (Instr.lookup 120 (Value.map p) (.int .u64 at1) true) a fun r=>I_ r fun t=>Upb t fun g u v=>UnN v (BIf (!u) (Q (Value.tuple #[.pointer none,Value.slice none (0:Nat) (0:Nat),.int .i64 140]) a) (BIf (decide (asid2<0)) (Q (Value.tuple #[.pointer none,Value.slice none (0:Nat) (0:Nat),.int .i64 1]) a) (BIf (decide (asid2>255)) (Q (Value.tuple #[.pointer none,Value.slice none (0:Nat) (0:Nat),.int .i64 1]) a) (li_ a (at0 d 0) .i64 fun x=>BIf (decide (x<0)) (Q (Value.tuple #[.pointer none,Value.slice none (0:Nat) (0:Nat),.int .i64 1]) a) (li_ a (at0 d 0) .i64 fun y=>BIf (decide (y>7)) (Q (Value.tuple #[.pointer none,Value.slice none (0:Nat) (0:Nat),.int .i64 1]) a) (li_ a (at0 d 1) .u32 fun z=>BIf (decide (z>63)) (Q (Value.tuple #[.pointer none,Value.slice none (0:Nat) (0:Nat),.int .i64 1]) a) (lb_ a (at0 d 2) fun a0=>BIf (!a0) (Q (Value.tuple #[.pointer none,Value.slice none (0:Nat) (0:Nat),.int .i64 1]) a) (RunV prog (Instr.makeMap 131 none) a fun a1 a2=>AsM a1 fun h=>Sh.Loop [.int .i64 0,Value.slice none (0:Nat) (0:Nat),.int .i64 0,Value.slice none (0:Nat) (0:Nat),.pointer none] a2 fun a3 a4 i=>Uisisp a4 fun b l m n a5 a6 a7 a8 a9 aa=>UnN aa (BIf (decide (b<(↑vas4n:Int))) (NilP vas4 fun ab=>0≤b∧b<(↑vas4n:Int)∧li_ i (at0 ab (b.toNat*1)) .u32 fun ac=>A_ prog 66 #[.pointer g,.int .u32 ac] i fun ad e=>I_ ad fun ae=>Uib ae fun j af ag=>UnN ag (BIf (!af) (Q (Value.tuple #[.pointer none,Value.slice none (0:Nat) (0:Nat),.int .i64 142]) e) (NilP g fun ah=>ls_ e (at0 ah 2) fun ai aj aU=>NilP ai fun ak=>0≤j∧j<(↑aj:Int)∧B_ e (at0 ak (j.toNat*8)) fun al am an ao ap aq ar au=>New e #[.int .i64 0,.int .u32 0,.int .u64 0,.int .i64 0,.int .i64 0,.int .u32 0,.bool false,.bool false] 57 fun f av=>S_8 av f (.int .i64 al) (.int .u32 am) (.int .u64 an) (.int .i64 ao) (.int .i64 ap) (.int .u32 aq) (.bool ar) (.bool au) fun k=>li_ k (at0 f 1) .u32 fun o=>q_f prog (Instr.lookup 131 (Value.map h) (.int .u32 o) false) k fun ax=>AsI .i64 ax fun ay=>H_j prog (Instr.mapUpdate 131 (Value.map h) (.int .u32 o) (.int .i64 (i64.wrap (ay+1)))) k fun c=>li_ c (at0 f 1) .u32 fun az=>q_f prog (Instr.lookup 131 (Value.map h) (.int .u32 az) false) c fun aA=>AsI .i64 aA fun aB=>BIf (decide (aB>1)) (Q (Value.tuple #[.pointer none,Value.slice none (0:Nat) (0:Nat),.int .i64 142]) c) (B_ c f fun aC aD aE aF aG aH aI aJ=>RunV prog (Instr.buildSlice 33 1 #[(0,Value.agg #[.int .i64 aC,.int .u32 aD,.int .u64 aE,.int .i64 aF,.int .i64 aG,.int .u32 aH,.bool aI,.bool aJ])]) c fun aK aL=>t_ aK fun aM aN aO=>RunV prog (Builtin.append_ #[(33:Nat),(33:Nat)] (33:Nat) #[Value.slice l m n,Value.slice aM aN aO]) aL fun aP aQ=>t_ aP fun aR aS aT=>a3 [.int .i64 (i64.wrap (b+1)),Value.slice aR aS aT,.int .i64 a5,Value.slice a6 a7 a8,.pointer a9] aQ)))) (Q (Value.tuple #[.pointer g,Value.slice l m n,.int .i64 0]) i))))))))))
theorem F53_of {e0 at1 asid2 leaf3c0 leaf3c1 leaf3c2 leaf3c3 vas4 vas4n vas4c w Q} (h:F53 e0 at1 asid2 leaf3c0 leaf3c1 leaf3c2 leaf3c3 vas4 vas4n vas4c w Q):Ret prog 53 #[.pointer (some e0),.int .u64 at1,.int .i64 asid2,.agg #[.int .i64 leaf3c0,.int .u32 leaf3c1,.bool leaf3c2,.bool leaf3c3],.slice vas4 vas4n vas4c] w Q:=co Tryz.func53 h
def F54 (e0:Addr) (at1:Int) (r2:Addr) (t3c0 t3c1 t3c2 t3c3 t3c4 t3c5:Int) (t3c6 t3c7:Bool) (w4:Int) (w:World) (Q:KQ):Prop :=
 New w #[.int .i64 t3c0,.int .u32 t3c1,.int .u64 t3c2,.int .i64 t3c3,.int .i64 t3c4,.int .u32 t3c5,.bool t3c6,.bool t3c7] 57 fun b c=>Join (fun f w4_1=>ui_ f .u64 fun g h=>UnN h (RunV prog (Instr.buildSlice 34 1 #[(0,.int .u32 w4)]) w4_1 fun i d=>t_ i fun j k l=>li_ d (at0 b 0) .i64 fun m=>A_ prog 109 #[.int .i64 m] d fun n o=>AsI .i64 n fun p=>A_ prog 108 #[Value.slice j k l,.int .i64 p] o fun r t=>t_ r fun u v x=>A_ prog 64 #[.pointer (some e0),.int .u64 g,Value.slice u v x] t fun y z=>I_ y fun a0=>UnN a0 (Q (Value.tuple #[]) z))) fun e=>B_ c b fun a1 a2 a3 a4 a5 a6 a7 a8=>A_ prog 89 #[Value.agg #[.int .i64 a1,.int .u32 a2,.int .u64 a3,.int .i64 a4,.int .i64 a5,.int .u32 a6,.bool a7,.bool a8]] c fun a9 a=>AsB a9 fun aa=>BIf aa (lm_ a.drew (at0 r2 3) fun ab=>li_ a.drew (at0 b 1) .u32 fun ac=>q_f prog (Instr.lookup 131 (Value.map ab) (.int .u32 (u32.wrap (ac.tdiv (1048576:Int)))) false) a.drew fun ad=>AsI .i64 ad fun ae=>li_ a.drew (at0 b 1) .u32 fun af=>e [.int .u64 (u64.wrap (u64.wrap (u64.wrap ae*1024)+u64.wrap (u64.wrap (Q_ u32 (W_ u32 af (12:Int)) (255:Int))*4)))] a.drew) (li_ a (at0 b 1) .u32 fun ag=>e [.int .u64 (u64.wrap (at1+u64.wrap (u64.wrap (u32.wrap (ag.tdiv (1048576:Int)))*4)))] a)
theorem F54_of {e0 at1 r2 t3c0 t3c1 t3c2 t3c3 t3c4 t3c5 t3c6 t3c7 w4 w Q} (h:F54 e0 at1 r2 t3c0 t3c1 t3c2 t3c3 t3c4 t3c5 t3c6 t3c7 w4 w Q):Ret prog 54 #[.pointer (some e0),.int .u64 at1,.pointer (some r2),.agg #[.int .i64 t3c0,.int .u32 t3c1,.int .u64 t3c2,.int .i64 t3c3,.int .i64 t3c4,.int .u32 t3c5,.bool t3c6,.bool t3c7],.int .u32 w4] w Q:=co Tryz.func54 h
def F55 (e0:Addr) (op21 w2:Int) (w:World) (Q:KQ):Prop :=
 lp_ w (at0 e0 0) fun a=>A_ prog 80 #[.pointer a,Value.agg #[.int .i64 8,.int .i64 0,.int .i64 7,.int .i64 op21],.int .u32 w2,.bool false] w fun b c=>AsI .i64 b fun d=>Q (Value.tuple #[]) c
theorem F55_of {e0 op21 w2 w Q} (h:F55 e0 op21 w2 w Q):Ret prog 55 #[.pointer (some e0),.int .i64 op21,.int .u32 w2] w Q:=co Tryz.func55 h
def F58 (e0:Addr) (at1:Int) (r2:Addr) (m3:Int) (w:World) (Q:KQ):Prop :=
 RunV prog (Instr.buildSlice 34 1 #[(0,.int .u32 0)]) w fun c d=>t_ c fun e f g=>A_ prog 64 #[.pointer (some e0),.int .u64 (u64.wrap (at1+u64.wrap (u64.wrap m3*4))),Value.slice e f g] d fun h a=>I_ h fun i=>UnN i (lp_ a.drew (at0 e0 2) fun j=>lm_ a.drew (at0 r2 3) fun k=>q_f prog (Instr.lookup 131 (Value.map k) (.int .u32 m3) false) a.drew fun l=>AsI .i64 l fun m=>A_ prog 113 #[.pointer j,.int .i64 m] a.drew fun n b=>AsI .i64 n fun u=>lm_ b (at0 r2 3) fun o=>RunV prog (Builtin.delete_ #[(131:Nat),(35:Nat)] (0:Nat) #[Value.map o,.int .u32 m3]) b fun p r=>I_ p fun t=>UnN t (Q (Value.tuple #[]) r))
theorem F58_of {e0 at1 r2 m3 w Q} (h:F58 e0 at1 r2 m3 w Q):Ret prog 58 #[.pointer (some e0),.int .u64 at1,.pointer (some r2),.int .u32 m3] w Q:=co Tryz.func58 h
def F60 (e0 r1:Addr) (l2:Option Addr) (l2n l2c:Nat) (w:World) (Q:KQ):Prop :=
 Sh.Loop [.int .i64 0,.int .i64 0] w fun a2 a3 g=>Uii a3 fun c p a4=>UnN a4 (BIf (decide (c<(↑l2n:Int))) (NilP l2 fun a5=>0≤c∧c<(↑l2n:Int)∧B_ g (at0 a5 (c.toNat*8)) fun a6 a7 a8 a9 aa ab ac ad=>New g #[.int .i64 0,.int .u32 0,.int .u64 0,.int .i64 0,.int .i64 0,.int .u32 0,.bool false,.bool false] 57 fun f ae=>S_8 ae f (.int .i64 a6) (.int .u32 a7) (.int .u64 a8) (.int .i64 a9) (.int .i64 aa) (.int .u32 ab) (.bool ac) (.bool ad) fun r=>B_ r.drew f fun af ag ah ai aj ak al am=>A_ prog 114 #[Value.agg #[.int .i64 af,.int .u32 ag,.int .u64 ah,.int .i64 ai,.int .i64 aj,.int .u32 ak,.bool al,.bool am]] r.drew fun an b=>AsB an fun ao=>BIf (!ao) (Q (.int .i64 1) b) (lb_ b (at0 (at0 f 4) 2) fun ap=>BIf (!ap) (Q (.int .i64 1) b) (B_ b f fun aq ar au av ax ay az aA=>li_ b (at0 e0 3) .i64 fun h=>NN (i64.wrap ((32:Int)-h)) (A_ prog 115 #[Value.agg #[.int .i64 aq,.int .u32 ar,.int .u64 au,.int .i64 av,.int .i64 ax,.int .u32 ay,.bool az,.bool aA]] b fun aB i=>AsI .u64 aB fun aC=>ce_ i (at0 e0 3) (.int .i64 h)∧BIf (decide (aC>l_ u64 (1:Int) (i64.wrap ((32:Int)-h)))) (Q (.int .i64 1) i) (a2 [.int .i64 (i64.wrap (c+1)),.int .i64 p] i))))) (Sh.Loop [.int .i64 0,.int .i64 p] g fun aD aE j=>Uii aE fun a aF aG=>UnN aG (BIf (decide (a<(↑l2n:Int))) (NilP l2 fun aH=>0≤a∧a<(↑l2n:Int)∧B_ j (at0 aH (a.toNat*8)) fun aI aJ aK aL aM aN aO aP=>New j #[.int .i64 0,.int .u32 0,.int .u64 0,.int .i64 0,.int .i64 0,.int .u32 0,.bool false,.bool false] 57 fun k aQ=>S_8 aQ k (.int .i64 aI) (.int .u32 aJ) (.int .u64 aK) (.int .i64 aL) (.int .i64 aM) (.int .u32 aN) (.bool aO) (.bool aP) fun t=>ls_ t (at0 r1 2) fun aR u bU=>Sh.Loop [.int .i64 0,.int .i64 aF] t fun aS aT l=>Uii aT fun d v aU=>UnN aU (BIf (decide (d<(↑u:Int))) (NilP aR fun aV=>0≤d∧d<(↑u:Int)∧B_ l (at0 aV (d.toNat*8)) fun aW aX aY aZ b0 b1 b2 b3=>New l #[.int .i64 0,.int .u32 0,.int .u64 0,.int .i64 0,.int .i64 0,.int .u32 0,.bool false,.bool false] 57 fun x b4=>S_8 b4 x (.int .i64 aW) (.int .u32 aX) (.int .u64 aY) (.int .i64 aZ) (.int .i64 b0) (.int .u32 b1) (.bool b2) (.bool b3) fun m=>B_ m k fun b5 b6 b7 b8 b9 ba bb bc=>B_ m x fun bd be bf bg bh bi bj bk=>A_ prog 116 #[Value.agg #[.int .i64 b5,.int .u32 b6,.int .u64 b7,.int .i64 b8,.int .i64 b9,.int .u32 ba,.bool bb,.bool bc],Value.agg #[.int .i64 bd,.int .u32 be,.int .u64 bf,.int .i64 bg,.int .i64 bh,.int .u32 bi,.bool bj,.bool bk]] m fun bl y=>AsB bl fun bm=>BIf bm (Q (.int .i64 141) y) (aS [.int .i64 (i64.wrap (d+1)),.int .i64 v] y)) (0≤a∧a≤(↑l2c:Int)∧Sh.Loop [.int .i64 0,.int .i64 v] l fun bn bo n=>Uii bo fun e z bp=>UnN bp (BIf (decide (e<(↑(a.toNat-(0:Nat)):Int))) (NilP (S_ l2 (0:Nat) l2c (8:Nat)) fun bq=>0≤e∧e<(↑(a.toNat-(0:Nat)):Int)∧B_ n (at0 bq (e.toNat*8)) fun br bs bt bu bv bx bz bA=>New n #[.int .i64 0,.int .u32 0,.int .u64 0,.int .i64 0,.int .i64 0,.int .u32 0,.bool false,.bool false] 57 fun a0 bB=>S_8 bB a0 (.int .i64 br) (.int .u32 bs) (.int .u64 bt) (.int .i64 bu) (.int .i64 bv) (.int .u32 bx) (.bool bz) (.bool bA) fun o=>B_ o k fun bC bD bE bF bG bH bI bJ=>B_ o a0 fun bK bL bM bN bO bP bQ bR=>A_ prog 116 #[Value.agg #[.int .i64 bC,.int .u32 bD,.int .u64 bE,.int .i64 bF,.int .i64 bG,.int .u32 bH,.bool bI,.bool bJ],Value.agg #[.int .i64 bK,.int .u32 bL,.int .u64 bM,.int .i64 bN,.int .i64 bO,.int .u32 bP,.bool bQ,.bool bR]] o fun bS a1=>AsB bS fun bT=>BIf bT (Q (.int .i64 141) a1) (bn [.int .i64 (i64.wrap (e+1)),.int .i64 z] a1)) (aD [.int .i64 (i64.wrap (a+1)),.int .i64 z] n))))) (Q (.int .i64 0) j))))
theorem F60_of {e0 r1 l2 l2n l2c w Q} (h:F60 e0 r1 l2 l2n l2c w Q):Ret prog 60 #[.pointer (some e0),.pointer (some r1),.slice l2 l2n l2c] w Q:=co Tryz.func60 h
def F61 (e0 r1:Addr) (l2:Option Addr) (l2n l2c:Nat) (w:World) (Q:KQ):Prop :=
 New w #[.pointer (some e0)] 46 fun k y=>RunV prog (Instr.makeMap 147 none) y fun z a0=>AsM z fun r=>RunV prog (Instr.makeMap 131 none) a0 fun a1 a2=>AsM a1 fun t=>New a2 #[Value.slice none (0:Nat) (0:Nat)] 225 fun f a3=>Sh.Loop [.int .i64 0,.int .i64 0,Value.nilFunc,Value.map none] a3 fun a4 a5 l=>Uii a5 fun b g a6=>UnC a6 fun h a7=>um_ a7 fun i a8=>UnN a8 (BIf (decide (b<(↑l2n:Int))) (Join (fun a9 aa=>ui_ a9 .i64 fun ab ac=>UnC ac fun ad ae=>um_ ae fun af ag=>UnN ag (a4 [.int .i64 (i64.wrap (b+1)),.int .i64 ab,ad,Value.map af] aa)) fun j=>NilP l2 fun ah=>0≤b∧b<(↑l2n:Int)∧B_ l (at0 ah (b.toNat*8)) fun ai aj ak al am an ao ap=>New l #[.int .i64 0,.int .u32 0,.int .u64 0,.int .i64 0,.int .i64 0,.int .u32 0,.bool false,.bool false] 57 fun e aq=>S_8 aq e (.int .i64 ai) (.int .u32 aj) (.int .u64 ak) (.int .i64 al) (.int .i64 am) (.int .u32 an) (.bool ao) (.bool ap) fun a=>lm_ a.drew (at0 r1 3) fun ar=>li_ a.drew (at0 e 1) .u32 fun au=>q_f prog (Instr.lookup 131 (Value.map ar) (.int .u32 (u32.wrap (au.tdiv (1048576:Int)))) true) a.drew fun av=>I_ av fun ax=>Uib ax fun br ay az=>UnN az (li_ a.drew (at0 e 1) .u32 fun aA=>q_f prog (Instr.lookup 131 (Value.map t) (.int .u32 (u32.wrap (aA.tdiv (1048576:Int)))) true) a.drew fun aB=>I_ aB fun aC=>Uib aC fun bs aD aE=>UnN aE (B_ a.drew e fun aF aG aH aI aJ aK aL aM=>A_ prog 89 #[Value.agg #[.int .i64 aF,.int .u32 aG,.int .u64 aH,.int .i64 aI,.int .i64 aJ,.int .u32 aK,.bool aL,.bool aM]] a.drew fun aN c=>AsB aN fun aO=>BIf (!aO) (j [.int .i64 g,h,Value.map i] c) (BIf ay (j [.int .i64 g,h,Value.map i] c) (BIf aD (j [.int .i64 g,h,Value.map i] c) (lp_ c k fun aP=>NilP aP fun aQ=>lp_ c (at0 aQ 2) fun aR=>A_ prog 119 #[.pointer aR] c fun aS m=>t_ aS fun aT aU aV=>lp_ m k fun aW=>NilP aW fun aX=>lp_ m (at0 aX 2) fun aY=>A_ prog 120 #[.pointer aY] m fun aZ b0=>I_ aZ fun b1=>Uii b1 fun b2 u b3=>UnN b3 (New b0 #[.int .i64 0] 3 fun d b4=>St b4 d (.int .i64 b2) fun n=>BIf (u != 0) (FnY prog (Value.func (Fn.func 117) #[] #[.pointer (some f)]) [] n fun b5 b6=>I_ b5 fun b7=>UnN b7 (Q (Value.tuple #[Value.map none,Value.nilFunc,.int .i64 u]) b6)) (ls_ n f fun b8 b9 ba=>RunV prog (Instr.buildSlice 225 1 #[(0,Value.func (Fn.func 121) #[] #[.pointer (some k),.pointer (some d)])]) n fun bb bc=>t_ bb fun bd be bf=>RunV prog (Builtin.append_ #[(225:Nat),(225:Nat)] (225:Nat) #[Value.slice b8 b9 ba,Value.slice bd be bf]) bc fun bg bh=>t_ bg fun bi bj bk=>St bh f (Value.slice bi bj bk) fun o=>li_ o.drew d .i64 fun v=>li_ o.drew d .i64 fun bl=>A_ prog 122 #[Value.slice aT aU aV,.int .i64 (i64.wrap (bl.tdiv (4:Int)))] o.drew fun bm x=>AsB bm fun bn=>ce_ x d (.int .i64 v)∧H_j prog (Instr.mapUpdate 147 (Value.map r) (.int .i64 b) (Value.agg #[.int .i64 v,.bool !bn])) x fun p=>li_ p (at0 e 1) .u32 fun bo=>li_ p d .i64 fun bp=>H_j prog (Instr.mapUpdate 131 (Value.map t) (.int .u32 (u32.wrap (bo.tdiv (1048576:Int)))) (.int .i64 bp)) p fun bq=>j [.int .i64 g,h,Value.map i] bq)))))))) (Q (Value.tuple #[Value.map r,Value.func (Fn.func 117) #[] #[.pointer (some f)],.int .i64 0]) l))
theorem F61_of {e0 r1 l2 l2n l2c w Q} (h:F61 e0 r1 l2 l2n l2c w Q):Ret prog 61 #[.pointer (some e0),.pointer (some r1),.slice l2 l2n l2c] w Q:=co Tryz.func61 h
def F64 (e0:Addr) (at1:Int) (words2:Option Addr) (words2n words2c:Nat) (w:World) (Q:KQ):Prop :=
 Sh.Loop [.int .i64 0] w fun c d b=>ui_ d .i64 fun a e=>UnN e (BIf (decide (a<(↑words2n:Int))) (NilP words2 fun f=>0≤a∧a<(↑words2n:Int)∧li_ b (at0 f (a.toNat*1)) .u32 fun g=>lp_ b (at0 e0 0) fun h=>A_ prog 127 #[.pointer h,.int .u64 (u64.wrap (at1+u64.wrap ((4:Int)*u64.wrap a))),.int .u32 g] b fun i j=>AsI .i64 i fun k=>c [.int .i64 (i64.wrap (a+1))] j) (Q (Value.tuple #[]) b))
theorem F64_of {e0 at1 words2 words2n words2c w Q} (h:F64 e0 at1 words2 words2n words2c w Q):Ret prog 64 #[.pointer (some e0),.int .u64 at1,.slice words2 words2n words2c] w Q:=co Tryz.func64 h
def F66 (r0:Addr) (va1:Int) (w:World) (Q:KQ):Prop :=
 ls_ w (at0 r0 2) fun f g h=>A_ prog 130 #[Value.slice f g h,.int .u32 va1,Value.func (Fn.func 131) #[] #[]] w fun i b=>I_ i fun j=>Uib j fun a d k=>UnN k (BIf (!d) (BIf (decide (a>0)) (ls_ b (at0 r0 2) fun l m a8=>NilP l fun c=>0≤i64.wrap (a-1)∧i64.wrap (a-1)<(↑m:Int)∧Ld b (at0 c ((i64.wrap (a-1)).toNat*8)) fun n=>AsI .i64 n fun o=>Ld b (at0 (at0 c ((i64.wrap (a-1)).toNat*8)) (1:Nat)) fun p=>AsI .u32 p fun r=>Ld b (at0 (at0 c ((i64.wrap (a-1)).toNat*8)) (2:Nat)) fun t=>AsI .u64 t fun u=>Ld b (at0 (at0 c ((i64.wrap (a-1)).toNat*8)) (3:Nat)) fun v=>AsI .i64 v fun x=>Ld b (at0 (at0 c ((i64.wrap (a-1)).toNat*8)) (4:Nat)) fun y=>AsI .i64 y fun z=>Ld b (at0 (at0 c ((i64.wrap (a-1)).toNat*8)) (5:Nat)) fun a0=>AsI .u32 a0 fun a1=>Ld b (at0 (at0 c ((i64.wrap (a-1)).toNat*8)) (6:Nat)) fun a2=>AsB a2 fun a3=>Ld b (at0 (at0 c ((i64.wrap (a-1)).toNat*8)) (7:Nat)) fun a4=>AsB a4 fun a5=>A_ prog 115 #[Value.agg #[.int .i64 o,.int .u32 r,.int .u64 u,.int .i64 x,.int .i64 z,.int .u32 a1,.bool a3,.bool a5]] b fun a6 e=>AsI .u64 a6 fun a7=>BIf (decide (u64.wrap va1<a7)) (Q (Value.tuple #[.int .i64 (i64.wrap (a-1)),.bool true]) e) (Q (Value.tuple #[.int .i64 a,.bool d]) e)) (Q (Value.tuple #[.int .i64 a,.bool d]) b)) (Q (Value.tuple #[.int .i64 a,.bool d]) b))
theorem F66_of {r0 va1 w Q} (h:F66 r0 va1 w Q):Ret prog 66 #[.pointer (some r0),.int .u32 va1] w Q:=co Tryz.func66 h
def F117c (u:Addr) (w:World) (Q:KQ):Prop :=
 ls_ w u fun a b c=>A_ prog 118 #[Value.slice a b c] w fun d e=>L_f prog d e (fun f g h i=>UnC f fun x j=>UnC j fun k l=>UnN l (h g fun m=>FnY prog k [] m fun n o=>I_ n fun p=>UnN p (i o))) fun r t=>FinM [r] t fun v=>Q (Value.tuple #[]) v
theorem F117c_of {u w Q} (h:F117c u w Q):Ret prog 117 #[.pointer (some u)] w Q:=co Tryz.func117 h
def F121c (e n:Addr) (w:World) (Q:KQ):Prop :=
 lp_ w.drew e fun a=>NilP a fun b=>lp_ w.drew (at0 b 2) fun c=>li_ w.drew n .i64 fun d=>A_ prog 113 #[.pointer c,.int .i64 d] w.drew fun f g=>AsI .i64 f fun h=>Q (Value.tuple #[]) g
theorem F121c_of {e n w Q} (h:F121c e n w Q):Ret prog 121 #[.pointer (some e),.pointer (some n)] w Q:=co Tryz.func121 h
end Go.Proofs.YtmgjicnipgdjhaaGreatDoor
namespace Go.Proofs.YtmgjicnipgdjhaaGreatDoor
open Go Go.Sh
def Tr.en (t:Tr):En:=⟨knd.getD t.size.toNat 0,t.pa,if t.size=3 then t.dom else 0,false,t.ap,t.bits,t.ng,t.xn⟩
def En.cells (e:En):List Value:=[.int .i64 e.kind,.int .u64 (e.base:Int),.int .i64 e.dom,.bool e.ns,.int .i64 e.ap,.int .u32 (e.bits:Int),.bool e.ng,.bool e.xn]
theorem Gd.cell1 {w:World} (h:Gd w) {i:Nat} (hi:i<5):w.cell? ⟨1,i,none⟩=some (.int .i64 (knd.getD i 0)):=h.kd i hi
theorem f128 {w:World} (hG:Gd w) (t:Tr) (hva:t.va<4294967296) (hr:t.right=true):Ret prog 128 #[t.v] w fun v w'=>v=.tuple #[t.en.v,.int .i64 0]∧Fr0 w w':=by
 obtain⟨size,va,pa,dom,ap,bits,ng,xn⟩:=t;have hsz:f_d size=true:=by unfold Tr.right at hr;simp only [Bool.and_eq_true] at hr;exact hr.1.1.1.1
 have h14:=sized_iff.1 hsz;refine F128_of ?_;unfold F128;try dsimp only [C_4,t_a,B_,M_,S_8,ce_,lb_,li_]
 refine New.mk fun w1 n1 f1 s1=>New.mk fun w2 r2 f2 s2=>?_;have n2:=n1.fr0 f2
 try simp only [n2.ld_iff,r2.ld_iff,P_,H_,List.getElem?_cons_zero,List.getElem?_cons_succ,Option.some.injEq,exists_eq_left',AsI_int,AsB_bool,AsP_pointer,AsSl_slice,AsM_map,F_,UnC_cons,UnN_nil,G_,Nat.zero_add,Nat.reduceAdd,Nat.mul_one]
 refine Ret.use (f114 ((hG.fr0 f1).fr0 f2) ⟨size,va,pa,dom,ap,bits,ng,xn⟩ hva) ?_;rintro _ w3 ⟨rfl,hf3⟩;have n3:=n2.fr0 hf3;have r3:=r2.fr0 hf3;have fin3:Fr0 w w3:=(f1.trans f2).trans hf3;rw [AsB_bool,hr,Bool.not_true,E_]
 try simp only [n3.ld_iff,r3.ld_iff,P_,H_,List.getElem?_cons_zero,List.getElem?_cons_succ,Option.some.injEq,exists_eq_left',AsI_int,AsB_bool,AsP_pointer,AsSl_slice,AsM_map,F_,UnC_cons,UnN_nil,G_,Nat.zero_add,Nat.reduceAdd,Nat.mul_one]
 have hc:=(hG.fr0 fin3).cell1 (i:=size.toNat) (by omega);refine⟨by omega,by omega,LdC hc (AsI_int.2 ?_)⟩
 try simp only [n3.ld_iff,r3.ld_iff,P_,H_,List.getElem?_cons_zero,List.getElem?_cons_succ,Option.some.injEq,exists_eq_left',AsI_int,AsB_bool,AsP_pointer,AsSl_slice,AsM_map,F_,UnC_cons,UnN_nil,G_,Nat.zero_add,Nat.reduceAdd,Nat.mul_one]
 refine New.mk fun w4 e4 f4 s4=>?_;have f4:Fr0 w3 w4:=f4.of_drew;have n4:=n3.fr0 f4;have r4:=r3.fr0 f4;have fin4:=fin3.trans f4;have hc4:=(hG.fr0 fin4).cell1 (i:=size.toNat) (by omega);simp only [P_,H_,List.getElem?_cons_zero,List.getElem?_cons_succ,Option.some.injEq,exists_eq_left',AsI_int,AsB_bool,AsP_pointer,AsSl_slice,AsM_map,F_,UnC_cons,UnN_nil,G_,Nat.zero_add,Nat.reduceAdd,Nat.mul_one];refine⟨⟨n4.cell,n4.cell,n4.cell,n4.cell,trivial⟩,n4.cell,hc4,n4.cell,?_⟩;refine Set8 e4 (fun w5 e5 f5 s5=>?_);have hb1:=n1.lt;have z1:w1.heap.size=w.heap.size+1:=s1;have z2:w2.heap.size=w.heap.size+2:=by omega
 have z3:=hf3.size;have n5:=n4.fr f5 (by show ¬(w.heap.size=w3.drew.heap.size);show ¬(w.heap.size=w3.heap.size);omega);have r5:=r4.fr f5 (by show ¬(w1.heap.size=w3.heap.size);omega)
 try simp only [n5.ld_iff,r5.ld_iff,e5.ld_iff,P_,H_,List.getElem?_cons_zero,List.getElem?_cons_succ,Option.some.injEq,exists_eq_left',AsI_int,AsB_bool,AsP_pointer,AsSl_slice,AsM_map,F_,UnC_cons,UnN_nil,G_,Nat.zero_add,Nat.reduceAdd,Nat.mul_one]
 have one:Fr (fun x=>w.heap.size≤x) w w5:=(fin4.mono fun _ _ h=>h.elim).trans (f5.mono fun x _ h=>by have:x=w3.heap.size:=h;show w.heap.size≤x;omega);refine O_ (fun h3=>?_) (fun h3=>?_)
 ·refine e5.st (by simp) rfl fun w6 e6 f6 s6=>?_;have r6:=r5.fr f6 (by show ¬(w1.heap.size=w3.heap.size);omega);simp only [List.set_cons_succ,List.set_cons_zero] at e6
  try simp only [e6.ld_iff,P_,H_,List.getElem?_cons_zero,List.getElem?_cons_succ,Option.some.injEq,exists_eq_left',AsI_int,AsB_bool,AsP_pointer,AsSl_slice,AsM_map,F_,UnC_cons,UnN_nil,G_,Nat.zero_add,Nat.reduceAdd,Nat.mul_one]
  refine Set8 r6 (fun w7 r7 f7 s7=>?_)
  try simp only [r7.ld_iff,P_,H_,List.getElem?_cons_zero,List.getElem?_cons_succ,Option.some.injEq,exists_eq_left',AsI_int,AsB_bool,AsP_pointer,AsSl_slice,AsM_map,F_,UnC_cons,UnN_nil,G_,Nat.zero_add,Nat.reduceAdd,Nat.mul_one]
  refine⟨by rw [h3];rfl,?_⟩;have:=(one.trans (f6.mono fun x _ h=>by have:x=w3.heap.size:=h;show w.heap.size≤x;omega)).trans (f7.mono fun x _ h=>by have:x=w1.heap.size:=h;show w.heap.size≤x;omega);exact this.mono fun x hx h=>by have:w.heap.size≤x:=h;omega
 ·refine Set8 r5 (fun w7 r7 f7 s7=>?_)
  try simp only [r7.ld_iff,P_,H_,List.getElem?_cons_zero,List.getElem?_cons_succ,Option.some.injEq,exists_eq_left',AsI_int,AsB_bool,AsP_pointer,AsSl_slice,AsM_map,F_,UnC_cons,UnN_nil,G_,Nat.zero_add,Nat.reduceAdd,Nat.mul_one]
  refine⟨by simp [Tr.en,En.v,h3],?_⟩;have:=one.trans (f7.mono fun x _ h=>by have:x=w1.heap.size:=h;show w.heap.size≤x;omega);exact this.mono fun x hx h=>by have:w.heap.size≤x:=h;omega
open Go.IntKind (i64 u64 u32)
def Tr.paged (t:Tr):Bool:=decide (t.size=1) || decide (t.size=2)
def Tr.tend (t:Tr):Nat:=t.va+bytesOf t.size
def A_g (a b:Tr):Bool:=decide (a.va<b.tend) && decide (b.va<a.tend)
def Tr.mib (t:Tr):Nat:=t.va/1048576
def X_ (a b:Tr):Bool:=A_g a b || (a.paged && b.paged && decide (a.mib=b.mib) && decide (a.dom≠b.dom))
theorem D_j (s:Int):bytesOf s≤16777216:=by
 unfold bytesOf;split
 ·rename_i h;rcases m_ h with h|h|h|h<;>subst h<;>decide
 ·omega
theorem f89 {w:World} (t:Tr):Ret prog 89 #[t.v] w fun v w'=>v=.bool t.paged∧Fr0 w w':=by
 obtain⟨size,va,pa,dom,ap,bits,ng,xn⟩:=t;refine F89_of ?_;unfold F89;try dsimp only [li_]
 refine New.mk fun w1 n1 f1 s1=>?_
 try simp only [n1.ld_iff,P_,H_,List.getElem?_cons_zero,List.getElem?_cons_succ,Option.some.injEq,exists_eq_left',AsI_int,AsB_bool,AsP_pointer,AsSl_slice,AsM_map,F_,UnC_cons,UnN_nil,G_,Nat.zero_add,Nat.reduceAdd,Nat.mul_one]
 refine O_ (fun h=>⟨by simp [Tr.paged,h],f1⟩) (fun h=>?_);exact⟨by simp only [Tr.paged,decide_eq_false h,Bool.false_or];congr 1,f1⟩
theorem f115 {w:World} (hG:Gd w) (t:Tr) (hva:t.va<4294967296):Ret prog 115 #[t.v] w fun v w'=>v=.int .u64 (t.tend:Nat)∧Fr0 w w':=by
 obtain⟨size,va,pa,dom,ap,bits,ng,xn⟩:=t;simp only at hva;refine F115_of ?_;unfold F115;try dsimp only [ce_,li_]
 refine New.mk fun w1 n1 f1 s1=>?_
 try simp only [n1.ld_iff,P_,H_,List.getElem?_cons_zero,List.getElem?_cons_succ,Option.some.injEq,exists_eq_left',AsI_int,AsB_bool,AsP_pointer,AsSl_slice,AsM_map,F_,UnC_cons,UnN_nil,G_,Nat.zero_add,Nat.reduceAdd,Nat.mul_one]
 refine Ret.use (f180 (hG.fr0 f1).drew size) ?_;rintro _ w2 ⟨rfl,rfl⟩;rw [AsI_int];have hb:=D_j size;refine⟨n1.drew.cell,?_,f1.drew⟩;rw [b_a (n:=(va:Int)) (by omega) (by omega),b_a (by omega) (by omega)]
 rfl
theorem f181 {w:World} (hG:Gd w) (a b:Tr) (hva:a.va<4294967296) (hvb:b.va<4294967296):Ret prog 181 #[a.v,b.v] w fun v w'=>v=.bool (A_g a b)∧Fr0 w w':=by
 obtain⟨size,va,pa,dom,ap,bits,ng,xn⟩:=a;obtain⟨size2,va2,pa2,dom2,ap2,bits2,ng2,xn2⟩:=b;refine F181_of ?_;unfold F181;try dsimp only [B_,ce_,lb_,li_]
 refine New.mk fun w1 n1 f1 s1=>New.mk fun w2 m2 f2 s2=>?_;have n2:=n1.fr0 f2
 try simp only [n2.ld_iff,m2.ld_iff,P_,H_,List.getElem?_cons_zero,List.getElem?_cons_succ,Option.some.injEq,exists_eq_left',AsI_int,AsB_bool,AsP_pointer,AsSl_slice,AsM_map,F_,UnC_cons,UnN_nil,G_,Nat.zero_add,Nat.reduceAdd,Nat.mul_one]
 refine Ret.use (f115 ((hG.fr0 f1).fr0 f2).drew ⟨size2,va2,pa2,dom2,ap2,bits2,ng2,xn2⟩ hvb) ?_;rintro _ w3 ⟨rfl,hf⟩;have f3:=hf.of_drew;have n3:=n2.fr0 f3;have m3:=m2.fr0 f3;rw [AsI_int];refine⟨n3.cell,?_⟩;simp only at hva hvb;rw [b_a (n:=(va:Int)) (by omega) (by omega)];refine C_ (fun h=>?_) (fun h=>?_)
 ·try simp only [n3.ld_iff,m3.ld_iff,P_,H_,List.getElem?_cons_zero,List.getElem?_cons_succ,Option.some.injEq,exists_eq_left',AsI_int,AsB_bool,AsP_pointer,AsSl_slice,AsM_map,F_,UnC_cons,UnN_nil,G_,Nat.zero_add,Nat.reduceAdd,Nat.mul_one]
  refine Ret.use (f115 (((hG.fr0 f1).fr0 f2).fr0 f3) ⟨size,va,pa,dom,ap,bits,ng,xn⟩ hva) ?_;rintro _ w4 ⟨rfl,f4⟩;rw [AsI_int];refine⟨(m3.fr0 f4).cell,?_,((f1.trans f2).trans f3).trans f4⟩;rw [b_a (n:=(va2:Int)) (by omega) (by omega)];simp only [A_g];rw [decide_eq_true (show va<(⟨size2,va2,pa2,dom2,ap2,bits2,ng2,xn2⟩:Tr).tend by omega),Bool.true_and]
  congr 1
  rw [decide_eq_decide];omega
 ·refine⟨?_,(f1.trans f2).trans f3⟩;simp only [A_g];rw [decide_eq_false (show ¬va<(⟨size2,va2,pa2,dom2,ap2,bits2,ng2,xn2⟩:Tr).tend by omega),Bool.false_and]
theorem y_a {va:Nat} (h:va<4294967296):u32.wrap ((va:Int).tdiv 1048576)=((va/1048576:Nat):Int):=by
 rw [show (1048576:Int)=((1048576:Nat):Int) from rfl,←Int.ofNat_tdiv];exact k_i (by omega) (by omega)
theorem f116 {w:World} (hG:Gd w) (a b:Tr) (hva:a.va<4294967296) (hvb:b.va<4294967296):Ret prog 116 #[a.v,b.v] w fun v w'=>v=.bool (X_ a b)∧Fr0 w w':=by
 obtain⟨size,va,pa,dom,ap,bits,ng,xn⟩:=a;obtain⟨size2,va2,pa2,dom2,ap2,bits2,ng2,xn2⟩:=b;refine F116_of ?_;unfold F116;try dsimp only [B_,lb_,li_]
 refine New.mk fun w1 n1 f1 s1=>New.mk fun w2 m2 f2 s2=>?_;have n2:=n1.fr0 f2
 try simp only [n2.ld_iff,m2.ld_iff,P_,H_,List.getElem?_cons_zero,List.getElem?_cons_succ,Option.some.injEq,exists_eq_left',AsI_int,AsB_bool,AsP_pointer,AsSl_slice,AsM_map,F_,UnC_cons,UnN_nil,G_,Nat.zero_add,Nat.reduceAdd,Nat.mul_one]
 refine Ret.use (f181 ((hG.fr0 f1).fr0 f2) ⟨size,va,pa,dom,ap,bits,ng,xn⟩ ⟨size2,va2,pa2,dom2,ap2,bits2,ng2,xn2⟩ hva hvb) ?_;rintro _ w3 ⟨rfl,f3⟩;have n3:=n2.fr0 f3;have m3:=m2.fr0 f3;simp only at hva hvb;rw [AsB_bool];refine w_ (fun h=>⟨by simp only [X_,h,Bool.true_or],(f1.trans f2).trans f3⟩) (fun h=>?_)
 try simp only [n3.ld_iff,m3.ld_iff,P_,H_,List.getElem?_cons_zero,List.getElem?_cons_succ,Option.some.injEq,exists_eq_left',AsI_int,AsB_bool,AsP_pointer,AsSl_slice,AsM_map,F_,UnC_cons,UnN_nil,G_,Nat.zero_add,Nat.reduceAdd,Nat.mul_one]
 refine Ret.use (f89 ⟨size,va,pa,dom,ap,bits,ng,xn⟩) ?_;rintro _ w4 ⟨rfl,f4⟩;have n4:=n3.fr0 f4;have m4:=m3.fr0 f4;rw [AsB_bool];refine w_ (fun h2=>?_) (fun h2=>⟨by simp only [X_,h,h2,Bool.false_or,Bool.false_and],((f1.trans f2).trans f3).trans f4⟩)
 try simp only [n4.ld_iff,m4.ld_iff,P_,H_,List.getElem?_cons_zero,List.getElem?_cons_succ,Option.some.injEq,exists_eq_left',AsI_int,AsB_bool,AsP_pointer,AsSl_slice,AsM_map,F_,UnC_cons,UnN_nil,G_,Nat.zero_add,Nat.reduceAdd,Nat.mul_one]
 refine Ret.use (f89 ⟨size2,va2,pa2,dom2,ap2,bits2,ng2,xn2⟩) ?_;rintro _ w5 ⟨rfl,f5⟩;have n5:=n4.fr0 f5;have m5:=m4.fr0 f5;have fin:=(((f1.trans f2).trans f3).trans f4).trans f5;rw [AsB_bool];refine w_ (fun h3=>?_) (fun h3=>⟨by simp only [X_,h,h2,h3,Bool.false_or,Bool.true_and,Bool.false_and],fin⟩)
 try simp only [n5.ld_iff,m5.ld_iff,P_,H_,List.getElem?_cons_zero,List.getElem?_cons_succ,Option.some.injEq,exists_eq_left',AsI_int,AsB_bool,AsP_pointer,AsSl_slice,AsM_map,F_,UnC_cons,UnN_nil,G_,Nat.zero_add,Nat.reduceAdd,Nat.mul_one]
 rw [y_a hva,y_a hvb];refine O_ (fun h4=>⟨?_,fin⟩) (fun h4=>⟨?_,fin⟩)
 ·simp only [X_,h,h2,h3,Bool.false_or,Bool.true_and,Tr.mib];have e:va/1048576=va2/1048576:=by omega
  simp only [e,decide_true,Bool.true_and]
  congr 1
  rw [Bool.eq_iff_iff];simp
 ·simp only [X_,h,h2,h3,Bool.false_or,Bool.true_and,Tr.mib];have e:¬va/1048576=va2/1048576:=by omega
  simp [e]
def Tr.word (t:Tr):Int:=if t.paged=true then t.en.enc2 else t.en.enc1
theorem j_ {t:Tr} (h:t.right=true):f_d t.size=true∧place t.va (u_c t.size) 32=true∧F_h t.dom=true∧(t.size=4→t.dom=0)∧V_f t.pa t.ap t.bits t.size=true:=by
 unfold Tr.right at h;simp only [Bool.and_eq_true,Bool.not_eq_true',Bool.and_eq_false_iff,decide_eq_false_iff_not,Decidable.not_not] at h;obtain⟨⟨⟨⟨h1,h2⟩,h3⟩,h4⟩,h5⟩:=h;refine⟨h1,h2,h3,fun e=>?_,h5⟩;rcases h4 with h4|h4
 ·exact absurd e h4
 ·simpa using h4
theorem f65 {w:World} (hG:Gd w) (t:Tr) (hva:t.va<4294967296) (hr:t.right=true):Ret prog 65 #[t.v] w fun v w'=>v=.int .u32 t.word∧Fr0 w w':=by
 have hR:=j_ hr;obtain⟨e,he⟩:∃e,t.en=e:=⟨_,rfl⟩;have hb1:t.en.blk1∨t.en.tab∨t.en.kind=4∨t.en.kind=5:=by
  obtain⟨h1,h2,h3,h4,h5⟩:=hR;rcases m_ h1 with h|h|h|h
  ·exact .inr (.inr (.inr (by simp [Tr.en,h,knd])))
  ·exact .inr (.inr (.inl (by simp [Tr.en,h,knd])))
  ·rw [h] at h5;exact .inl (.inl ⟨by simp [Tr.en,h,knd],h5,by simpa [Tr.en,h] using h3⟩)
  ·rw [h] at h5;exact .inl (.inr ⟨by simp [Tr.en,h,knd],h5,by simp [Tr.en,h]⟩)
 have hb2:t.paged=true→t.en.blk2:=by
  intro hp;obtain⟨h1,h2,h3,h4,h5⟩:=hR;unfold Tr.paged at hp;simp only [Bool.or_eq_true,decide_eq_true_eq] at hp;rcases hp with h|h
  ·rw [h] at h5;exact .inr ⟨by simp [Tr.en,h,knd],h5,by simp [Tr.en,h],rfl⟩
  ·rw [h] at h5;exact .inl ⟨by simp [Tr.en,h,knd],h5,by simp [Tr.en,h],rfl⟩
 have hw:t.word=if t.paged=true then t.en.enc2 else t.en.enc1:=rfl
 rw [hw];rw [he] at hb1 hb2 ⊢;obtain⟨size,va,pa,dom,ap,bits,ng,xn⟩:=t;obtain⟨p,hp⟩:∃p,(⟨size,va,pa,dom,ap,bits,ng,xn⟩:Tr).paged=p:=⟨_,rfl⟩;rw [hp] at hb2 ⊢;obtain⟨kind,base,edom,ns,eap,ebits,eng,exn⟩:=e;refine F65_of ?_;unfold F65;try dsimp only [B_,M_,S_8,O_c,Uui,lb_,li_,ub_,ui_]
 refine New.mk fun w1 n1 f1 s1=>?_
 try simp only [n1.ld_iff,P_,H_,List.getElem?_cons_zero,List.getElem?_cons_succ,Option.some.injEq,exists_eq_left',AsI_int,AsB_bool,AsP_pointer,AsSl_slice,AsM_map,F_,UnC_cons,UnN_nil,G_,Nat.zero_add,Nat.reduceAdd,Nat.mul_one]
 refine Ret.use (f128 (hG.fr0 f1) ⟨size,va,pa,dom,ap,bits,ng,xn⟩ hva hr) ?_;rintro _ w2 ⟨rfl,f2⟩;have n2:=n1.fr0 f2;rw [he];simp only [En.v,AsAgg_agg,F_,UnC_cons,UnN_nil,AsI_int,AsB_bool];refine K_j fun w3 e3 f3 s3=>?_;have n3:=n2.fr0 f3
 try simp only [n3.ld_iff,e3.ld_iff,P_,H_,List.getElem?_cons_zero,List.getElem?_cons_succ,Option.some.injEq,exists_eq_left',AsI_int,AsB_bool,AsP_pointer,AsSl_slice,AsM_map,F_,UnC_cons,UnN_nil,G_,Nat.zero_add,Nat.reduceAdd,Nat.mul_one]
 refine Ret.use (f63 (((hG.fr0 f1).fr0 f2).fr0 f3) ⟨kind,base,edom,ns,eap,ebits,eng,exn⟩ hb1) ?_;rintro _ w4 ⟨rfl,f4⟩;have n4:=n3.fr0 f4;have e4:=e3.fr0 f4
 try simp only [n4.ld_iff,e4.ld_iff,P_,H_,List.getElem?_cons_zero,List.getElem?_cons_succ,Option.some.injEq,exists_eq_left',AsI_int,AsB_bool,AsP_pointer,AsSl_slice,AsM_map,F_,UnC_cons,UnN_nil,G_,Nat.zero_add,Nat.reduceAdd,Nat.mul_one]
 refine Ret.use (f89 ⟨size,va,pa,dom,ap,bits,ng,xn⟩) ?_;rintro _ w5 ⟨rfl,f5⟩;have e5:=e4.fr0 f5;have fin:=(((f1.trans f2).trans f3).trans f4).trans f5;rw [AsB_bool,hp];cases p with
 | true =>
  rw [K_]
  try simp only [e5.ld_iff,P_,H_,List.getElem?_cons_zero,List.getElem?_cons_succ,Option.some.injEq,exists_eq_left',AsI_int,AsB_bool,AsP_pointer,AsSl_slice,AsM_map,F_,UnC_cons,UnN_nil,G_,Nat.zero_add,Nat.reduceAdd,Nat.mul_one]
  refine Ret.use (f129 (hG.fr0 fin) ⟨kind,base,edom,ns,eap,ebits,eng,exn⟩ (hb2 rfl)) ?_;rintro _ w6 ⟨rfl,f6⟩;simp only [P_,H_,List.getElem?_cons_zero,List.getElem?_cons_succ,Option.some.injEq,exists_eq_left',AsI_int,AsB_bool,AsP_pointer,AsSl_slice,AsM_map,F_,UnC_cons,UnN_nil,G_,Nat.zero_add,Nat.reduceAdd,Nat.mul_one];exact⟨by simp,fin.trans f6⟩
 | false =>
  rw [E_];exact⟨by simp,fin⟩
theorem k_h (e:En):0≤e.enc1∧e.enc1<4294967296:=by
 unfold En.enc1;split
 ·exact encT_lt _ _ _
 ·split
  ·exact encS_lt _ _ _ _ _ _ _
  ·split
   ·exact encU_lt _ _ _ _ _ _ _
   ·omega
theorem U_j (t:Tr):0≤t.word∧t.word<4294967296:=by
 unfold Tr.word;split
 ·unfold En.enc2;split
  ·exact encL_lt _ _ _ _ _
  ·exact encP_lt _ _ _ _ _
 ·exact k_h _
def o_k (a b:Nat):Int:=if a<b then -1 else if a>b then 1 else 0
theorem f131 {w:World} (t:Tr) (va1:Nat):Ret prog 131 #[t.v,.int .u32 (va1:Int)] w fun v w'=>v=.int .i64 (o_k t.va va1)∧Fr0 w w':=by
 obtain⟨size,va,pa,dom,ap,bits,ng,xn⟩:=t;refine F131_of ?_;unfold F131 o_k;try dsimp only [li_]
 refine New.mk fun w1 n1 f1 s1=>?_
 try simp only [n1.ld_iff,P_,H_,List.getElem?_cons_zero,List.getElem?_cons_succ,Option.some.injEq,exists_eq_left',AsI_int,AsB_bool,AsP_pointer,AsSl_slice,AsM_map,F_,UnC_cons,UnN_nil,G_,Nat.zero_add,Nat.reduceAdd,Nat.mul_one]
 refine C_ (fun h=>⟨by rw [if_pos (by omega)],f1⟩) (fun h=>C_ (fun h2=>⟨by rw [if_neg (by omega),if_pos (by omega)],f1⟩) (fun h2=>⟨by rw [if_neg (by omega),if_neg (by omega)],f1⟩))
end Go.Proofs.YtmgjicnipgdjhaaGreatDoor
namespace Go.Sh
open Go.IntKind (i64 u64 u32)
variable {P:Program}
theorem Has.row {w:World} {g:Nat} {cur l':List Value} (h:Has w g cur):Has (w.setRow g l'.toArray) g l':=by
 obtain⟨t,ht⟩:=h;exact⟨t,setRow_heap w g _ _ t _ ht⟩
theorem Fr.row {w:World} {g:Nat} {cur:Array Value}:Fr (·=g) w (w.setRow g cur) :=
 ⟨rfl,rfl,rfl,by simp [World.setRow],fun b hb hn=>by
  have:¬g=b:=fun e=>hn e.symm;simp [World.setRow,Array.getElem?_modify,this]⟩
theorem Fr.newS {w w1 w2:World} {S:Nat→Prop} (h:Fr0 w w1) (k:Fr S w1 w2) (hb:∀b,S b→w.heap.size≤b):Fr0 w w2 :=
 ⟨k.os.trans h.os,k.output.trans h.output,k.tape.trans h.tape,Nat.le_trans h.size k.size,fun b hlt _=>(k.block b (Nat.lt_of_lt_of_le hlt h.size) fun hs=>by have:=hb b hs;omega).trans (h.block b hlt fun h=>h)⟩
theorem c_c {t t' e ty:TypeId} {size:Nat} (hu:P.underlying t=some (.slice e)) (hs:(P.info? e).map (·.size)=some size) {w:World} {g o dl dc b o2 sl sc:Nat} {cur cs:List Value} (hg:Has w g cur)
  (hn:cs.length=Nat.min sl dl*size) (hsrc:∀j v,cs[j]?=some v→w.cell? ⟨b,o2+j,none⟩=some v) (hfit:o+cs.length≤cur.length) (h1:∀v∈cs,v.oneCell'=true) {K:Value→World→Prop}
  (k:∀w',w'=w.setRow g (cur.take o++cs++cur.drop (o+cs.length)).toArray→K (.int .i64 (Nat.min sl dl:Nat)) w') :
  RunV P (Builtin.copy_ #[t,t'] ty #[.slice (some ⟨g,o,none⟩) dl dc,.slice (some ⟨b,o2,none⟩) sl sc]) w K:=by
 obtain⟨tt,ht⟩:=hg;have hl:=run_loadCells_list (P:=P) w ⟨b,o2,none⟩ cs (fun j v hj=>by rw [←n_a,H_];exact hsrc j v hj);have hst:=run_storeCells_at P g o tt cs 0 cur.toArray w ht (by simpa using hfit) h1;cases hq:P.info? e with
 | none=>simp [hq] at hs
 | some i =>
  have hi:i.size=size:=by simpa [hq] using hs
  refine⟨.int .i64 (Nat.min sl dl:Nat),_,?_,k _ rfl⟩
  ·simp at hst;simp [Builtin.copy_,run_underlying hu,Builtin.lenOf,Builtin.firstCells,sizeOf,typeInfo,hq,hi,←hn,hl,hst,goInt]
theorem room_has {t e ty:TypeId} {z:Value} {size bytes:Nat} (E:ElemT P t e z size bytes) {w:World} {g n c b o2 m c':Nat} {cur news:List Value} (hg:Has w g cur)
  (hl:news.length=m*size) (hsrc:∀j v,news[j]?=some v→w.cell? ⟨b,o2+j,none⟩=some v) (h1:∀u∈news,u.oneCell'=true) (hroom:n+m≤c) (hfit:n*size+news.length≤cur.length) {K:Value→World→Prop}
  (k:∀w',w'=w.setRow g (cur.take (n*size)++news++cur.drop (n*size+news.length)).toArray→K (.slice (some ⟨g,0,none⟩) (n+m) c) w') :
  RunV P (Builtin.append_ #[t,t] ty #[.slice (some ⟨g,0,none⟩) n c,.slice (some ⟨b,o2,none⟩) m c']) w K:=by
 obtain⟨tt,ht⟩:=hg;have hi:=E.info;cases hinf:P.info? e with
 | none=>rw [hinf] at hi;cases hi
 | some i =>
  rw [hinf] at hi;simp only [Option.map_some,Option.some.injEq,Prod.mk.injEq] at hi;obtain⟨hz,rfl,hb⟩:=hi;have hf:=run_firstCells_some (P:=P) w i.size m ⟨b,o2,none⟩ m c' news hl (fun j v hj=>by rw [←n_a,H_];exact hsrc j v hj);have hst:=run_storeCells_at P g (n*i.size) tt news 0 cur.toArray w ht (by simpa using hfit) h1;simp at hst;refine⟨_,_,?_,k _ rfl⟩;simp [Builtin.append_,run_underlying E.und,sizeOf,typeInfo,hinf,Builtin.lenOf,hroom,hf,Addr.add_lit,hst]
theorem Sl.row {w:World} {B:Nat} {e:TypeId} {size n c g:Nat} {xs:List Value} (h:Sl w B e size (some ⟨g,0,none⟩) n c xs) {l':List Value} (hl:l'.length=c*size) {n':Nat} (hn:n'≤c):Sl (w.setRow g l'.toArray) B e size (some ⟨g,0,none⟩) n' c (l'.take (n'*size)):=by
 rcases h.2 with ⟨h1,_⟩|⟨g',cap,cur,h1,hbg,hg,hnc,hcm,hcs,htake⟩
 ·cases h1
 ·injection h1 with h2 _ h3
  injection h2 with h2
  injection h2 with h2
  subst h2 h3;refine⟨?_,.inr ⟨g,c,l'.toArray,rfl,hbg,setRow_heap w g _ _ _ _ hg,hn,hcm,by simpa using hl,by simp⟩⟩;rw [List.length_take,hl];exact Nat.min_eq_left (Nat.mul_le_mul_right _ hn)
theorem w_a (z:Array Value) (n:Nat):(Builtin.zeroCells z n).toList.length=n*z.size:=by simp [Builtin.zeroCells]
theorem M_h {t u e ty:TypeId} {z:Value} {size bytes:Nat} (E:ElemT P t e z size bytes) {k0:IntKind} (hu:P.underlying u=some (.int k0)) {w:World} {g n c m:Nat} {olds:List Value} (hlo:olds.length=n*size)
  (holds:∀j v,olds[j]?=some v→w.cell? ⟨g,j,none⟩=some v) (hgr:c<n+m) (h63:n+m≤4611686018427387904) (hbytes:(n+m)*bytes≤140737488355328) (hm:0<m) {K:Value→World→Prop}
  (k:∀d w' sp,Sl w' w.heap.size e size (some ⟨w.heap.size,0,none⟩) (n+m) d (olds++(Builtin.zeroCells z.cells m).toList)→Has w' w.heap.size (olds++(Builtin.zeroCells z.cells m).toList++sp)→sp.length+(n+m)*size=d*size→n+m≤d→Fr0 w w'→w'.heap.size=w.heap.size+1→K (.slice (some ⟨w.heap.size,0,none⟩) (n+m) d) w') :
  RunV P (Builtin.append_ #[t,u] ty #[.slice (some ⟨g,0,none⟩) n c,.int .i64 (m:Int)]) w K:=by
 have hi:=E.info;cases hinf:P.info? e with
 | none=>rw [hinf] at hi;cases hi
 | some i =>
  rw [hinf] at hi;simp only [Option.map_some,Option.some.injEq,Prod.mk.injEq] at hi;obtain⟨hz,hs,hb⟩:=hi;have hw:i64.wrap (m:Int)=m:=w64 (by omega) (by omega);have hpos:=E.pos;have hzs:=E.zs;subst hs;have hn:¬(n+m≤c):=by omega
  have h63':¬(9223372036854775807<((n:Int)+(m:Int))):=by omega
  have hfit:¬(281474976710656<Builtin.nextslicecap (n+m) c*i.bytes):=by
   have:=growslice_fits (bytes:=i.bytes) (show c<n+m by omega) (by rw [hb];exact hbytes);omega
  have hfo:=run_firstCells_some (P:=P) w.drew i.size n ⟨g,0,none⟩ n c olds hlo (fun j v hj=>by rw [←n_a,H_,Nat.zero_add];exact holds j v hj);have hm0:¬((m:Int)<0):=by omega
  have hmb:¬(281474976710656<(m:Int)*(i.bytes:Int)):=by
   have h1:m*i.bytes≤(n+m)*i.bytes:=Nat.mul_le_mul_right _ (by omega);have h2:((m*i.bytes:Nat):Int)=(m:Int)*(i.bytes:Int):=by simp
   rw [←h2];rw [hb] at h1;rw [hb];omega
  have hms:m≠0→i.size≠0:=fun _=>by omega
  refine⟨_,_,(?_:Sem.run P _ w=.ok (.slice (some ⟨w.heap.size,0,none⟩) (n+m) (grownCap w (n+m) c e)) (w.drew.alloc (.cells (olds.toArray++Builtin.zeroCells z.cells m++Builtin.zeroCells z.cells (grownCap w (n+m) c e-(n+m))) e))),?_⟩
  ·have hai:∀w:World,(asIntOf (.int .i64 (m:Int))).run P w=.ok (.i64,(m:Int)) w:=fun _=>rfl;have h0:m≠0:=by omega
   simp [Builtin.append_,run_underlying E.und,run_underlying hu,sizeOf,typeInfo,zeroValue,hinf,hz,Builtin.lenOf,hn,h63',hfit,Question.forced,hfo,newRow,grownCap,asInt,hai,hw,hm0,hmb,h0,hms h0];intro hz0;exact absurd hz0 (Nat.ne_of_gt (Nat.mul_pos hm hpos))
  ·have hge:=grownCap_ge w (n+m) c e;have hmade:=Has.made w.drew (olds.toArray++Builtin.zeroCells z.cells m++Builtin.zeroCells z.cells (grownCap w (n+m) c e-(n+m))) e;have hzc:∀k,(Builtin.zeroCells z.cells k).size=k*i.size:=fun k=>by simp [Builtin.zeroCells,hzs]
   have hzl:∀k,(Builtin.zeroCells z.cells k).toList.length=k*i.size:=fun k=>by rw [Array.length_toList,hzc]
   have hs1:(olds.toArray++Builtin.zeroCells z.cells m++Builtin.zeroCells z.cells (grownCap w (n+m) c e-(n+m))).size=grownCap w (n+m) c e*i.size:=by
    simp only [Array.size_append,hzc,List.size_toArray,hlo,←Nat.add_mul]
    congr 1;omega
   have hown:(w.drew.alloc (.cells (olds.toArray++Builtin.zeroCells z.cells m++Builtin.zeroCells z.cells (grownCap w (n+m) c e-(n+m))) e)).ownsRow w.heap.size e i.size (.slice (some ⟨w.heap.size,0,none⟩) (n+m) (grownCap w (n+m) c e)) (n+m) (olds++(Builtin.zeroCells z.cells m).toList):=by
    refine⟨by rw [List.length_append,hlo,hzl,Nat.add_mul],.inr ⟨w.heap.size,grownCap w (n+m) c e,_,rfl,Nat.le_refl _,?_,hge,grownCap_le_maxLen w _ _ _ (by simp [maxLen];omega),hs1,?_⟩⟩
    ·show (w.heap.push _)[w.heap.size]?=_;simp
    ·simp only [Array.toList_append,List.append_assoc];rw [←List.append_assoc,List.take_append_of_le_length (by rw [List.length_append,hlo,hzl,Nat.add_mul];exact Nat.le_refl _)];exact List.take_of_length_le (by rw [List.length_append,hlo,hzl,Nat.add_mul];exact Nat.le_refl _)
   refine k _ _ (Builtin.zeroCells z.cells (grownCap w (n+m) c e-(n+m))).toList hown (by simpa using hmade) ?_ hge (Fr.of_drew (Fr.made w.drew _)) (by simp);rw [hzl,←Nat.add_mul]
   congr 1
   omega
theorem p_k {t e ty:TypeId} {z:Value} {size bytes:Nat} (E:ElemT P t e z size bytes) {w:World} {g o n c:Nat} {cur:List Value} (hg:Has w g cur) (hfit:o+n*size≤cur.length) (h1:∀v∈z.cells.toList,v.oneCell'=true)
  {K:Value→World→Prop} (k:∀w',w'=w.setRow g (cur.take o++(Builtin.zeroCells z.cells n).toList++cur.drop (o+n*size)).toArray→K (.tuple #[]) w') :
  RunV P (Builtin.clear_ #[t] ty #[.slice (some ⟨g,o,none⟩) n c]) w K:=by
 have hi:=E.info;cases hinf:P.info? e with
 | none=>rw [hinf] at hi;cases hi
 | some i =>
  rw [hinf] at hi;simp only [Option.map_some,Option.some.injEq,Prod.mk.injEq] at hi;obtain⟨hz,hs,hb⟩:=hi;have hzs:=E.zs;obtain⟨tt,ht⟩:=hg;cases n with
  | zero =>
   refine⟨_,w,by simp [Builtin.clear_,run_underlying E.und],k w ?_⟩;have:(cur.take o++(Builtin.zeroCells z.cells 0).toList++cur.drop (o+0*size))=cur:=by simp [Builtin.zeroCells]
   rw [this,setRow_self w g _ tt (0,0) ht]
  | succ n =>
   have hst:=run_storeCells_at P g o tt (Builtin.zeroCells z.cells (n+1)).toList 0 cur.toArray w ht (by rw [w_a,hzs];simpa using hfit) (fun v hv=>by
    simp only [Builtin.zeroCells,Array.toList_map,List.mem_map] at hv;obtain⟨x,hx,rfl⟩:=hv
    apply h1
    have hpos:=E.pos;have:x%z.cells.size<z.cells.size:=Nat.mod_lt _ (by omega);rw [getElem!_pos z.cells _ this];exact Array.getElem_mem_toList this)
   refine⟨.tuple #[],_,?_,k _ rfl⟩
   ·have hlen:=w_a z.cells (n+1);rw [hzs] at hlen;rw [hlen] at hst;simp at hst;simp [Builtin.clear_,run_underlying E.und,zeroValue,typeInfo,hinf,hz,hst]
end Go.Sh
set_option maxRecDepth 10000
namespace Go.Proofs.YtmgjicnipgdjhaaGreatDoor
open Go Go.Sh
open Go.IntKind (i64 u64 u32)
def D_ (l:List Tr):List Value:=l.flatMap Tr.cells
def trZ:Value:=.agg #[.int .i64 0,.int .u32 0,.int .u64 0,.int .i64 0,.int .i64 0,.int .u32 0,.bool false,.bool false]
theorem E57:ElemT prog 33 57 trZ 8 48:=⟨by kernel_rfl,by kernel_rfl,rfl,by decide⟩
theorem X_b (t:Tr):t.cells.length=8:=rfl
theorem B_a (l:List Tr):(D_ l).length=l.length*8:=k_b X_b l
theorem g_e {l:List Tr} {i j:Nat} (hj:j<8) {t:Tr} (h:l[i]?=some t):(D_ l)[i*8+j]?=t.cells[j]?:=l_b X_b l i j hj t h
theorem e_g (l:List Tr):∀v∈D_ l,v.oneCell'=true:=by
 intro v hv;simp only [D_,List.mem_flatMap] at hv;obtain⟨t,_,ht⟩:=hv;simp only [Tr.cells,List.mem_cons,List.not_mem_nil,or_false] at ht;rcases ht with rfl|rfl|rfl|rfl|rfl|rfl|rfl|rfl<;>rfl
theorem Rd.cell {w:World} {p:Option Addr} {xs:List Value} (h:Rd w p xs) {b o i:Nat} (hp:p=some ⟨b,o,none⟩) {v:Value} (hv:xs[i]?=some v):w.cell? ⟨b,o+i,none⟩=some v:=by
 obtain⟨b',o',h1,h2⟩:=h i v hv;rw [hp] at h1;injection h1 with h1
 injection h1 with h3 h4
 subst h3 h4;exact h2
theorem g_a {w:World} {p:Option Addr} {l:List Tr} (h:Rd w p (D_ l)) {e N:Int} {i:Nat} (he:e=(i:Int)) {t:Tr} (ht:l[i]?=some t) (hN:(i:Int)<N) {K:Int→Int→Int→Int→Int→Int→Bool→Bool→Prop}
  (k:K t.size t.va t.pa t.dom t.ap t.bits t.ng t.xn) :
  NilP p fun a=>0≤e∧e<N∧Ld w (at0 a (e.toNat*8)) fun v0=>AsI .i64 v0 fun i0=>Ld w (at0 (at0 a (e.toNat*8)) 1) fun v1=>AsI .u32 v1 fun i1=>Ld w (at0 (at0 a (e.toNat*8)) 2) fun v2=>AsI .u64 v2 fun i2 =>
   Ld w (at0 (at0 a (e.toNat*8)) 3) fun v3=>AsI .i64 v3 fun i3=>Ld w (at0 (at0 a (e.toNat*8)) 4) fun v4=>AsI .i64 v4 fun i4=>Ld w (at0 (at0 a (e.toNat*8)) 5) fun v5=>AsI .u32 v5 fun i5 =>
   Ld w (at0 (at0 a (e.toNat*8)) 6) fun v6=>AsB v6 fun i6=>Ld w (at0 (at0 a (e.toNat*8)) 7) fun v7=>AsB v7 fun i7=>K i0 i1 i2 i3 i4 i5 i6 i7:=by
 subst he;obtain⟨b,o,hp,h0⟩:=h (i*8+0) _ ((g_e (by decide) ht).trans rfl);have hc:∀j v,j<8→t.cells[j]?=some v→w.cell? ⟨b,o+i*8+j,none⟩=some v:=fun j v hj hv=>by
  rw [Nat.add_assoc];exact Rd.cell h hp ((g_e hj ht).trans hv)
 rw [hp,G_];simp only [H_,Int.toNat_natCast];refine⟨by omega,hN,?_⟩;exact⟨_,hc 0 _ (by decide) rfl,AsI_int.2 ⟨_,hc 1 _ (by decide) rfl,AsI_int.2 ⟨_,hc 2 _ (by decide) rfl,AsI_int.2 ⟨_,hc 3 _ (by decide) rfl,AsI_int.2 ⟨_,hc 4 _ (by decide) rfl,AsI_int.2 ⟨_,hc 5 _ (by decide) rfl,AsI_int.2 ⟨_,hc 6 _ (by decide) rfl,AsB_bool.2 ⟨_,hc 7 _ (by decide) rfl,AsB_bool.2 k⟩⟩⟩⟩⟩⟩⟩⟩
theorem f52 {w:World} {B:Nat} {p:Option Addr} {n c:Nat} {xs:List Value} (h:Sl w B 57 8 p n c xs) (h1:∀u∈xs,u.oneCell'=true) (hn:n≤1000000000000) :
  Ret prog 52 #[.slice p n c] w fun r w'=>∃p' c',r=.slice p' n c'∧Sl w' w.heap.size 57 8 p' n c' xs∧Fr0 w w':=by
 refine F52_of ?_;unfold F52;rcases h.cases with ⟨rfl,rfl,rfl,rfl⟩|⟨g,sp,rfl,hB,hh,hnc,hl⟩
 ·exact⟨none,0,rfl,Sl.nil _ _ _ _,Fr.refl _ _⟩
 ·simp only [Option.isNone_some,E_];refine RunV.build0 E57 w.heap.size (Nat.le_refl _) fun p1 w1 h2 f1 hon=>?_;rw [AsSl_slice];refine F_b E57 h2 f1.size (h.fr0 f1).src h1 (by simp only [maxLen];omega) (by omega) fun p2 c2 w2 h3 f2 hon2=>?_;rw [AsSl_slice,Nat.zero_add];rw [Nat.zero_add] at h3;exact⟨p2,c2,rfl,h3,f1.newS f2 hon⟩
theorem f91c {w:World} (b t:Tr) {q:Nat} (hq:Has w q t.cells) (hb:b.va<2^32) (ht:t.va<2^32):Ret prog 91 #[b.v,.pointer (some ⟨q,0,none⟩)] w fun v w'=>v=.bool (b.paged && decide (b.mib=t.mib))∧Fr0 w w':=by
 refine F91c_of ?_;unfold F91c;try dsimp only [B_,lb_,li_]
 refine New.mk fun w1 n1 f1 s1=>?_
 try simp only [n1.ld_iff,sb_,Nat.reduceAdd]
 refine Ret.use (f89 b) ?_;rintro _ w2 ⟨rfl,f2⟩;rw [AsB_bool];have n2:=n1.fr0 f2;have hq2:Has w2 q _:=(hq.fr0 f1).fr0 f2;unfold Tr.cells at hq2;refine w_ (fun e=>?_) (fun e=>?_)
 ·try simp only [n2.ld_iff,hq2.ld_iff,sb_,Nat.reduceAdd]
  refine⟨?_,f1.trans f2⟩;rw [e,Bool.true_and]
  congr 1
  rw [show (1048576:Int)=((1048576:Nat):Int) from rfl,←Int.ofNat_tdiv,←Int.ofNat_tdiv,k_i (by omega) (by omega),k_i (by omega) (by omega)];by_cases hm:b.mib=t.mib
  ·rw [decide_eq_true hm,beq_iff_eq];unfold Tr.mib at hm;omega
  ·rw [decide_eq_false hm,beq_eq_false_iff_ne];unfold Tr.mib at hm;omega
 ·refine⟨?_,f1.trans f2⟩;rw [e,Bool.false_and]
def idxOf (pr:Tr→Bool) (l:List Tr):Int:=match l.findIdx? pr with|some i=>(i:Int)|none=>-1
theorem f157 {w:World} {p:Option Addr} {l:List Tr} {c:Nat} (h:Rd w p (D_ l)) (hn:l.length≤1000000000000) {f:Value} {pr:Tr→Bool} (hf:∀t∈l,∀w1,Fr0 w w1→∀K:Value→World→Prop,(∀w2,Fr0 w1 w2→K (.bool (pr t)) w2)→FnY prog f [t.v] w1 K) :
  Ret prog 157 #[.slice p l.length c,f] w fun v w'=>v=.int .i64 (idxOf pr l)∧Fr0 w w':=by
 refine F157_of ?_;unfold F157;try dsimp only [B_,Uii,lb_,li_,ui_]
 refine Loop.by (fun s w'=>∃i:Nat,∃x:Int,i≤l.length∧s=[.int .i64 (i:Int),.int .i64 x]∧Fr0 w w'∧∀k t,k<i→l[k]?=some t→pr t=false) (fun s _=>match s with | [.int _ i,_]=>l.length-i.toNat|_=>0) ⟨0,0,by omega,rfl,Fr.refl _ _,fun _ _ h=>absurd h (by omega)⟩ ?_
 rintro _ w2 ⟨i,x,hi,rfl,f2,hb⟩;simp only [UnC_cons,UnN_nil,AsI_int];refine C_ (fun hlt=>?_) (fun hge=>?_)
 ·obtain⟨t,ht⟩:∃t,l[i]?=some t:=⟨l[i]'(by omega),List.getElem?_eq_getElem _⟩;refine g_a (h.fr0 f2) rfl ht hlt ?_;refine hf t (List.mem_of_getElem? ht) w2 f2 _ fun w3 f3=>?_;rw [AsB_bool];refine w_ (fun e=>?_) (fun e=>?_)
  ·refine⟨?_,f2.trans f3⟩;have:l.findIdx? pr=some i:=by
    rw [List.findIdx?_eq_some_iff_getElem];refine⟨by omega,?_,fun j hj=>?_⟩
    ·have:=List.getElem?_eq_some_iff.1 ht;rw [this.2];exact e
    ·have:=hb j (l[j]'(by omega)) hj (List.getElem?_eq_getElem _);simp [this]
   rw [idxOf,this]
  ·rw [w64 (n:=(i:Int)+1) (by omega) (by omega)];refine⟨⟨i+1,x,by omega,rfl,f2.trans f3,fun k t' hk ht'=>?_⟩,by simp only [Int.toNat_natCast];omega⟩;by_cases hki:k=i
   ·subst hki;rw [ht] at ht';injection ht' with ht';rw [←ht'];exact e
   ·exact hb k t' (by omega) ht'
 ·refine⟨?_,f2⟩;have:l.findIdx? pr=none:=by
   rw [List.findIdx?_eq_none_iff];intro t ht;obtain⟨k,hk,rfl⟩:=List.mem_iff_getElem.1 ht;exact hb k _ (by omega) (List.getElem?_eq_getElem _)
  rw [idxOf,this]
theorem f90 {w:World} {p:Option Addr} {l:List Tr} {c:Nat} (h:Rd w p (D_ l)) (hn:l.length≤1000000000000) {f:Value} {pr:Tr→Bool} (hf:∀t∈l,∀w1,Fr0 w w1→∀K:Value→World→Prop,(∀w2,Fr0 w1 w2→K (.bool (pr t)) w2)→FnY prog f [t.v] w1 K) :
  Ret prog 90 #[.slice p l.length c,f] w fun v w'=>v=.bool (l.any pr)∧Fr0 w w':=by
 refine F90_of ?_;unfold F90;refine Ret.use (f157 h hn hf) ?_;rintro _ w1 ⟨rfl,f1⟩;rw [AsI_int];refine⟨?_,f1⟩
 congr 1
 unfold idxOf;cases e:l.findIdx? pr with
 | none =>
  rw [List.findIdx?_eq_none_iff] at e;have:l.any pr=false:=by rw [List.any_eq_false];intro x hx;simp [e x hx]
  rw [this];rfl
 | some i =>
  rw [List.findIdx?_eq_some_iff_getElem] at e;obtain⟨h1,h2,_⟩:=e;have:l.any pr=true:=List.any_eq_true.2 ⟨_,List.getElem_mem h1,h2⟩;rw [this];simp
theorem fny91 {w:World} (b t:Tr) {q:Nat} (hq:Has w q t.cells) (hb:b.va<2^32) (ht:t.va<2^32) (K:Value→World→Prop) (k:∀w2,Fr0 w w2→K (.bool (b.paged && decide (b.mib=t.mib))) w2):FnY prog (.func (.func 91) #[] #[.pointer (some ⟨q,0,none⟩)]) [b.v] w K:=by
 refine .inl ⟨91,_,_,rfl,by kernel_rfl,?_⟩;refine Ret.use (f91c b t hq hb ht) ?_;rintro _ w1 ⟨rfl,f1⟩;exact k w1 f1
def findIx (l:List Tr) (va:Nat):Nat:=(l.takeWhile fun t=>decide (t.va<va)).length
def m_b (l:List Tr) (va:Nat):Bool:=match l[findIx l va]? with|some t=>decide (t.va=va)|none=>false
theorem P_d (l:List Tr) (va:Nat):findIx l va≤l.length:=(List.takeWhile_sublist _).length_le
theorem c_b {l:List Tr} (hs:l.Pairwise fun a b=>a.va<b.va) {va k:Nat} {t:Tr} (h:l[k]?=some t):t.va<va↔k<findIx l va:=by
 unfold findIx
 induction l generalizing k with
 | nil=>simp at h
 | cons x r ih =>
  rw [List.takeWhile_cons];have hr:=(List.pairwise_cons.1 hs);by_cases hx:x.va<va
  ·rw [if_pos (by simpa using hx)];cases k with
   | zero=>simp at h;subst h;simp [hx]
   | succ k=>rw [List.length_cons,Nat.succ_lt_succ_iff];exact ih hr.2 (by simpa using h)
  ·rw [if_neg (by simpa using hx)];refine⟨fun h2=>?_,fun h2=>absurd h2 (by simp)⟩;cases k with
   | zero=>simp at h;subst h;exact absurd h2 hx
   | succ k =>
    have:=hr.1 t (List.mem_of_getElem? (by simpa using h));omega
theorem mid_wrap {i j:Nat} (h:i+j<2^62):i64.wrap (W_ .u64 (u64.wrap (i64.wrap ((i:Int)+(j:Int)))) 1)=(((i+j)/2:Nat):Int):=by
 have e1:i64.wrap ((i:Int)+(j:Int))=((i+j:Nat):Int):=by rw [w64 (by omega) (by omega)];omega
 rw [e1,b_a (n:=((i+j:Nat):Int)) (by omega) (by omega),show W_ .u64 ((i+j:Nat):Int) 1=(((i+j) >>> 1:Nat):Int) from J_a (n:=1) (by decide),Nat.shiftRight_eq_div_pow,Nat.pow_one,w64 (by omega) (by omega)]
theorem f130 {w:World} {p:Option Addr} {l:List Tr} {c:Nat} (h:Rd w p (D_ l)) (hn:l.length≤1000000000000) (hs:l.Pairwise fun a b=>a.va<b.va) (va:Nat) :
  Ret prog 130 #[.slice p l.length c,.int .u32 (va:Int),.func (.func 131) #[] #[]] w fun v w'=>v=.tuple #[.int .i64 (findIx l va:Nat),.bool (m_b l va)]∧Fr0 w w':=by
 refine F130_of ?_;unfold F130;try dsimp only [B_,Uii,lb_,li_,ui_]
 refine Loop.by (fun s w'=>∃i j:Nat,i≤findIx l va∧findIx l va≤j∧j≤l.length∧s=[.int .i64 (j:Int),.int .i64 (i:Int)]∧Fr0 w w') (fun s _=>match s with | [.int _ j,.int _ i]=>j.toNat-i.toNat|_=>0)
  ⟨0,l.length,by omega,P_d l va,Nat.le_refl _,rfl,Fr.refl _ _⟩ ?_
 rintro _ w2 ⟨i,j,h1,h2,h3,rfl,f2⟩;simp only [UnC_cons,UnN_nil,AsI_int];refine C_ (fun hlt=>?_) (fun hge=>?_)
 ·rw [mid_wrap (by omega)];obtain⟨t,ht⟩:∃t,l[(i+j)/2]?=some t:=⟨l[(i+j)/2]'(by omega),List.getElem?_eq_getElem _⟩;refine g_a (h.fr0 f2) rfl ht (by omega) ?_;refine .inl ⟨131,_,_,rfl,by kernel_rfl,?_⟩;refine Ret.use (f131 t va) ?_;rintro _ w3 ⟨rfl,f3⟩;rw [AsI_int];have hl:=c_b hs (va:=va) ht;refine C_ (fun hc=>?_) (fun hc=>?_)
  ·have htv:t.va<va:=by unfold o_k at hc;split at hc;assumption;split at hc<;>omega
   have:=hl.1 htv;rw [w64 (n:=(((i+j)/2:Nat):Int)+1) (by omega) (by omega)];exact⟨⟨(i+j)/2+1,j,by omega,h2,h3,rfl,f2.trans f3⟩,by simp only [Int.toNat_natCast];omega⟩
  ·have htv:¬t.va<va:=by unfold o_k at hc;split at hc<;>omega
   have hm:¬(i+j)/2<findIx l va:=fun e=>htv (hl.2 e);exact⟨⟨i,(i+j)/2,h1,by omega,by omega,rfl,f2.trans f3⟩,by simp only [Int.toNat_natCast];omega⟩
 ·obtain rfl:i=findIx l va:=by omega
  refine C_ (fun hlt=>?_) (fun hge2=>?_)
  ·obtain⟨t,ht⟩:∃t,l[findIx l va]?=some t:=⟨l[findIx l va]'(by omega),List.getElem?_eq_getElem _⟩;refine g_a (h.fr0 f2) rfl ht (by omega) ?_;refine .inl ⟨131,_,_,rfl,by kernel_rfl,?_⟩;refine Ret.use (f131 t va) ?_;rintro _ w3 ⟨rfl,f3⟩;rw [AsI_int];refine⟨?_,f2.trans f3⟩;have:m_b l va=decide (t.va=va):=by unfold m_b;rw [ht]
   rw [this]
   congr 2
   congr 1
   unfold o_k;by_cases e:t.va=va
   ·rw [e];simp
   ·rw [decide_eq_false e];split
    ·rfl
    ·split
     ·rfl
     ·omega
  ·refine⟨?_,f2⟩;have:m_b l va=false:=by unfold m_b;rw [List.getElem?_eq_none (by omega)]
   rw [this]
theorem find132:Extern.find Tryz.f132=some (Extern.SlicesOverlaps.overlaps #[33,33] #[4]):=by kernel_rfl
theorem x132 {w:World} {vb g:Nat} {cs cur:List Value} (hv:Has w vb cs) (hg:Has w g cur) (hne:vb≠g) (hcur:cur.length≠0) (oa ob la ca lb cb:Nat) {K:Value→World→Prop} (k:K (.bool false) w) :
  ExtV prog 132 #[.slice (some ⟨vb,0,none⟩) la ca,.slice (some ⟨g,ob,none⟩) lb cb] w K:=by
 obtain⟨t1,e1⟩:=hv;obtain⟨t2,e2⟩:=hg;have hrun:=Lib.run_overlaps_apart (P:=prog) w 33 4 57 E57.und 8 (fun w=>by
  have:=o_ (P:=prog) (show k_c prog 57=some 8 by kernel_rfl);exact this w) ⟨vb,0,none⟩ ⟨g,ob,none⟩ la ca lb cb hne t1 t2 cs.length cur.length (by simp [World.shape?,e1]) (by simp [World.shape?,e2]) hcur (by simp [World.frozen?,e1]) (by simp [World.frozen?,e1])
 refine⟨_,_,?_,k⟩;rw [run_callFunc_extern Tryz.func132 (by kernel_rfl) (by kernel_rfl) (by kernel_rfl) find132,hrun]
 rfl
theorem t_b (l:List Tr) (i:Nat):(D_ l).take (i*8)=D_ (l.take i):=H_c X_b l i
theorem u_b (l:List Tr) (i:Nat):(D_ l).drop (i*8)=D_ (l.drop i):=I_c X_b l i
theorem h_a (a b:List Tr):D_ (a++b)=D_ a++D_ b:=List.flatMap_append
theorem C_e (t:Tr) (b:List Tr):D_ (t :: b)=t.cells++D_ b:=List.flatMap_cons
theorem p_a {g lo c size:Nat} (h:c≠lo):S_ (some ⟨g,0,none⟩) lo c size=some ⟨g,lo*size,none⟩:=by
 unfold S_;rw [if_neg h];simp [H_]
theorem x_ (t:Tr):∀v∈t.cells,v.oneCell'=true:=fun v hv=>e_g [t] v (by simpa [D_] using hv)
def r_b (l:List Tr) (i:Nat) (t:Tr):List Tr:=l.take i++t :: l.drop i
theorem E_c {l:List Tr} {i:Nat} {t:Tr} (h:i≤l.length):(r_b l i t).length=l.length+1:=by simp [r_b];omega
theorem t_e {l:List Tr} {i:Nat} {t:Tr}:D_ (r_b l i t)=(D_ l).take (i*8)++(t.cells++(D_ l).drop (i*8)):=by
 rw [r_b,h_a,C_e,t_b,u_b]
theorem nmin {a b:Nat} (h:a≤b):Nat.min a b=a:=Nat.min_eq_left h
theorem nminr {a b:Nat} (h:b≤a):Nat.min a b=b:=Nat.min_eq_right h
theorem f67 {w:World} {p:Option Addr} {c:Nat} {l:List Tr} (h:Sl w 0 57 8 p l.length c (D_ l)) (hn:l.length≤1000000000000) (i:Nat) (hi:i≤l.length) (t:Tr) {vb:Nat} (hv:Has w vb t.cells) (hne:¬On p vb) :
  Ret prog 67 #[.slice p l.length c,.int .i64 (i:Int),.slice (some ⟨vb,0,none⟩) 1 1] w fun r w'=>∃p' c',r=.slice p' (l.length+1) c'∧Sl w' 0 57 8 p' (l.length+1) c' (D_ (r_b l i t))∧Fr (On p) w w'∧∀b,On p' b→On p b∨w.heap.size≤b:=by
 refine F67_of ?_;unfold F67;refine⟨by omega,by omega,?_⟩;refine O_ (fun h=>absurd h (by decide)) (fun _=>?_);have hsrc:∀j u,t.cells[j]?=some u→w.cell? ⟨vb,0+j,none⟩=some u:=fun j u hj=>by rw [Nat.zero_add,hv.cell];exact hj
 refine O_ (fun he=>?_) (fun he=>?_)
 ·obtain rfl:i=l.length:=by omega
  refine J_b E57 h (Nat.zero_le _) hsrc rfl (x_ t) (by simp only [maxLen];omega) (by omega) fun p' c' w' h2 f2 hon=>?_;rw [AsSl_slice];refine⟨p',c',rfl,?_,f2,hon⟩;rw [t_e,List.take_of_length_le (by rw [B_a];exact Nat.le_refl _),List.drop_of_length_le (by rw [B_a];exact Nat.le_refl _),List.append_nil];exact h2
 ·have hil:i<l.length:=by omega
  rcases h.cases with ⟨rfl,h0,_⟩|⟨g,sp,rfl,hB,hh,hnc,hlen⟩
  ·omega
  have hgv:vb≠g:=fun e=>hne ⟨_,rfl,e.symm⟩;rw [w64 (n:=(l.length:Int)+((1:Nat):Int)) (by omega) (by omega),w64 (n:=(i:Int)+((1:Nat):Int)) (by omega) (by omega),w64 (n:=(l.length:Int)+((1:Nat):Int)-(i:Int)) (by omega) (by omega)];rw [show (l.length:Int)+((1:Nat):Int)-(i:Int)=((l.length+1-i:Nat):Int) by omega,show (i:Int)+((1:Nat):Int)=((i+1:Nat):Int) by omega,show (l.length:Int)+((1:Nat):Int)=((l.length+1:Nat):Int) by omega];simp only [Int.toNat_natCast,Nat.sub_zero,i_a];have hx:=B_a l;refine C_ (fun hgr=>?_) (fun hroom=>?_)
  ·refine⟨by omega,by omega,?_⟩;have hpre:=h.pre (i:=i) (by omega);refine M_h E57 (k0:=.i64) (by kernel_rfl) (olds:=(D_ l).take (i*8)) hpre.len (fun j v hj=>by
     rw [hh.cell,List.getElem?_append_left (by have:=(List.getElem?_eq_some_iff.1 hj).1;rw [List.length_take] at this;omega)];rw [List.getElem?_take] at hj;split at hj
     ·exact hj
     ·cases hj) (by omega) (by omega) (by omega) (by omega) fun d w1 sp' hS1 hh1 hsp hd f1 s1=>?_
   rw [AsSl_slice,show i+(l.length+1-i)=l.length+1 by omega] at *;refine⟨by omega,by omega,?_⟩;rw [p_a (by omega)];have hlp:=hpre.len;have hzl:(Builtin.zeroCells trZ.cells (l.length+1-i)).toList.length=(l.length+1-i)*8:=w_a _ _;generalize (Builtin.zeroCells trZ.cells (l.length+1-i)).toList=zs at *;have hgW:g≠w.heap.size:=by have:=hh.lt;omega
   refine c_c E57.und (size:=8) (by kernel_rfl) (cs:=t.cells) hh1 (by rw [nmin (by omega)];rfl) (fun j v hj=>by rw [Nat.zero_add,(hv.fr0 f1).cell];exact hj) (by rw [List.length_append,List.length_append,hlp,hzl,X_b];omega) (x_ t) fun w2 hw2=>?_;rw [AsI_int];have e2:(((D_ l).take (i*8)++zs++sp').take (i*8)++t.cells++((D_ l).take (i*8)++zs++sp').drop (i*8+t.cells.length))=(D_ l).take (i*8)++(t.cells++(zs++sp').drop 8):=by
    simp only [List.append_assoc];rw [List.take_left' hlp,X_b,←List.drop_drop,List.drop_left' hlp]
   rw [e2] at hw2;have f2:Fr (·=w.heap.size) w1 w2:=by rw [hw2];exact Fr.row
   have hh2:Has w2 w.heap.size ((D_ l).take (i*8)++(t.cells++(zs++sp').drop 8)):=by rw [hw2];exact hh1.row
   refine⟨by omega,by omega,by omega,by omega,?_⟩;rw [p_a (by omega),p_a (by omega)];have hg2:Has w2 g (D_ l++sp):=(hh.fr0 f1).fr f2 hgW;refine c_c E57.und (size:=8) (by kernel_rfl) (cs:=(D_ l).drop (i*8)) hh2.drew (by rw [nmin (by omega),List.length_drop,hx];omega) (fun j v hj=>by
     rw [hg2.drew.cell,List.getElem?_append_left (by have:=(List.getElem?_eq_some_iff.1 hj).1;rw [List.length_drop] at this;omega)]
     rwa [List.getElem?_drop] at hj) (by simp only [List.length_append,List.length_drop,hlp,hzl,X_b,hx];omega) (fun v hv=>e_g l v (List.mem_of_mem_drop hv)) fun w3 hw3=>?_
   rw [AsI_int];have e3:(((D_ l).take (i*8)++(t.cells++(zs++sp').drop 8)).take ((i+1)*8)++(D_ l).drop (i*8)++((D_ l).take (i*8)++(t.cells++(zs++sp').drop 8)).drop ((i+1)*8+((D_ l).drop (i*8)).length)) =
     D_ (r_b l i t)++((D_ l).take (i*8)++(t.cells++(zs++sp').drop 8)).drop ((i+1)*8+((D_ l).drop (i*8)).length):=by
    congr 1
    rw [←List.append_assoc (List.take (i*8) (D_ l)) t.cells,List.take_left' (by rw [List.length_append,hlp,X_b];omega),t_e,List.append_assoc]
   rw [e3] at hw3;have hS2:=(hS1.mono (Nat.zero_le _)).row (l':=(D_ l).take (i*8)++(t.cells++(zs++sp').drop 8)) (by simp only [List.length_append,List.length_drop,hlp,hzl,X_b];omega) hd;rw [←hw2] at hS2;have hS3:=(hS2.qt (Qt.refl w2).drew).row (l':=D_ (r_b l i t)++((D_ l).take (i*8)++(t.cells++(zs++sp').drop 8)).drop ((i+1)*8+((D_ l).drop (i*8)).length)) (by simp only [List.length_append,List.length_drop,hlp,hzl,X_b,B_a,E_c hi,hx];omega) hd;rw [←hw3] at hS3;rw [List.take_left' (by rw [B_a,E_c hi])] at hS3;refine⟨_,d,rfl,hS3,?_,?_⟩
   ·refine ((f1.new f2 (Nat.le_refl _)).new ?_ (Nat.le_refl _)).mono (fun _ _ h=>h.elim);rw [hw3];exact Fr.of_drew Fr.row
   ·rintro b ⟨a,ha,rfl⟩;injection ha with ha
    subst ha;exact .inr (Nat.le_refl _)
  ·have hcl:l.length+1≤c:=by omega
   rw [p_a (by omega),p_a (by omega)];refine⟨by omega,by omega,by omega,by omega,?_⟩;refine x132 hv hh hgv (by rw [List.length_append,hx];omega) 0 _ _ _ _ _ ?_;rw [AsB_bool];simp only [Bool.not_false,K_];refine⟨by omega,by omega,by omega,by omega,?_⟩;have hlsp:sp.length=c*8-l.length*8:=by rw [List.length_append,hx] at hlen;omega
   refine c_c E57.und (size:=8) (by kernel_rfl) (cs:=(D_ l).drop (i*8)) hh.drew (by rw [nminr (by omega),List.length_drop,hx];omega) (fun j v hj=>by
     rw [hh.drew.cell,List.getElem?_append_left (by have:=(List.getElem?_eq_some_iff.1 hj).1;rw [List.length_drop] at this;omega)]
     rwa [List.getElem?_drop] at hj) (by simp only [List.length_append,List.length_drop,hx,hlsp];omega) (fun v hv=>e_g l v (List.mem_of_mem_drop hv)) fun w1 hw1=>?_
   rw [AsI_int];refine⟨by omega,by omega,?_⟩;have hcur1:((D_ l++sp).take ((i+1)*8)++(D_ l).drop (i*8)++(D_ l++sp).drop ((i+1)*8+((D_ l).drop (i*8)).length)) =
     (D_ l).take (i*8)++((D_ l).drop (i*8)).take 8++((D_ l).drop (i*8)++sp.drop 8):=by
    have e1:(D_ l++sp).take ((i+1)*8)=(D_ l).take (i*8)++((D_ l).drop (i*8)).take 8:=by
     rw [List.take_append_of_le_length (by rw [hx];omega),show (i+1)*8=i*8+8 by omega,List.take_add]
    have e2:(D_ l++sp).drop ((i+1)*8+((D_ l).drop (i*8)).length)=sp.drop 8:=by
     rw [List.length_drop,hx,show (i+1)*8+(l.length*8-i*8)=l.length*8+8 by omega,←List.drop_drop,List.drop_left' hx]
    rw [e1,e2,List.append_assoc,List.append_assoc]
   rw [hcur1] at hw1;have hh1:Has w1 g ((D_ l).take (i*8)++((D_ l).drop (i*8)).take 8++((D_ l).drop (i*8)++sp.drop 8)):=by rw [hw1];exact hh.drew.row
   have f1:Fr (·=g) w w1:=by rw [hw1];exact Fr.of_drew Fr.row
   have hlp:((D_ l).take (i*8)).length=i*8:=by rw [List.length_take,hx];omega
   have hl8:(((D_ l).drop (i*8)).take 8).length=8:=by rw [List.length_take,List.length_drop,hx];omega
   have hs8:(sp.drop 8).length+(l.length+1)*8=c*8:=by rw [List.length_drop,hlsp];omega
   refine c_c E57.und (size:=8) (by kernel_rfl) (cs:=t.cells) hh1 (by rw [nmin (by omega)];rfl) (fun j v hj=>by rw [Nat.zero_add,(hv.fr f1 hgv).cell];exact hj) (by simp only [List.length_append,hlp,hl8,X_b,List.length_drop,hx];omega) (x_ t) fun w2 hw2=>?_;rw [AsI_int];have hcur2:(((D_ l).take (i*8)++((D_ l).drop (i*8)).take 8++((D_ l).drop (i*8)++sp.drop 8)).take (i*8)++t.cells++((D_ l).take (i*8)++((D_ l).drop (i*8)).take 8++((D_ l).drop (i*8)++sp.drop 8)).drop (i*8+t.cells.length)) =
     D_ (r_b l i t)++sp.drop 8:=by
    have e2:((D_ l).take (i*8)++((D_ l).drop (i*8)).take 8++((D_ l).drop (i*8)++sp.drop 8)).drop (i*8+t.cells.length)=(D_ l).drop (i*8)++sp.drop 8 :=
     List.drop_left' (by rw [List.length_append,hlp,hl8,X_b])
    rw [e2,List.append_assoc ((D_ l).take (i*8)),List.take_left' hlp,t_e];simp only [List.append_assoc]
   rw [hcur2] at hw2;have hS1:=(h.qt (Qt.refl w).drew).row (l':=(D_ l).take (i*8)++((D_ l).drop (i*8)).take 8++((D_ l).drop (i*8)++sp.drop 8)) (by simp only [List.length_append,hlp,hl8];rw [List.length_drop,hx];omega) hcl;rw [←hw1] at hS1;have hS2:=hS1.row (l':=D_ (r_b l i t)++sp.drop 8) (by rw [List.length_append,B_a,E_c hi];omega) hcl;rw [←hw2,List.take_left' (by rw [B_a,E_c hi])] at hS2;refine⟨_,c,rfl,hS2,?_,fun b hb=>.inl hb⟩;refine (f1.mono fun b _ hb=>⟨_,rfl,hb.symm⟩).trans ?_;rw [hw2];exact (Fr.row (w:=w1)).mono fun b _ hb=>⟨_,rfl,hb.symm⟩
theorem f88 {w:World} {p:Option Addr} {c:Nat} {l:List Tr} (h:Sl w 0 57 8 p l.length c (D_ l)) (hn:l.length≤1000000000000) (i:Nat) (hi:i<l.length) :
  Ret prog 88 #[.slice p l.length c,.int .i64 (i:Int),.int .i64 ((i+1:Nat):Int)] w fun r w'=>r=.slice p (l.length-1) c∧Sl w' 0 57 8 p (l.length-1) c (D_ (l.eraseIdx i))∧Fr (On p) w w':=by
 refine F88_of ?_;unfold F88;rcases h.cases with ⟨rfl,h0,_⟩|⟨g,sp,rfl,hB,hh,hnc,hlen⟩
 ·omega
 have hx:=B_a l;have hund:prog.underlying 33=some (.slice (prog.elem 33)):=by kernel_rfl
 have hrun:=run_slice_lhm (P:=prog) w 33 (some ⟨g,0,none⟩) l.length c hund .i64 .i64 .i64 (i:Int) ((i+1:Nat):Int) (l.length:Int) (by omega) (by omega) (by omega) (by omega);have hsz:(sizeOf (prog.elem 33)).run prog w=.ok 8 w:=by
  have:=o_ (P:=prog) (show k_c prog (prog.elem 33)=some 8 by kernel_rfl);exact this w
 rw [hsz,←run_sliceAt_slice w 33 _ _ _ _ hund] at hrun;refine⟨_,hrun,?_⟩;refine AsSl_slice.2 ?_;refine O_ (fun h=>absurd h (by omega)) (fun _=>?_);refine⟨by omega,by omega,by omega,by omega,?_⟩;simp only [Int.toNat_natCast,Nat.sub_zero,i_a];have hlsp:sp.length=c*8-l.length*8:=by rw [List.length_append,hx] at hlen;omega
 obtain⟨o2,ho2,hsrc⟩:∃o2,S_ (some ⟨g,0,none⟩) (i+1) c 8=some ⟨g,o2,none⟩∧∀j v,((D_ l).drop ((i+1)*8))[j]?=some v→w.drew.cell? ⟨g,o2+j,none⟩=some v:=by
  by_cases hc:c=i+1
  ·refine⟨0,by unfold S_;rw [if_pos hc],fun j v hj=>?_⟩;rw [List.getElem?_drop,List.getElem?_eq_none (by omega)] at hj;cases hj
  ·refine⟨(i+1)*8,p_a hc,fun j v hj=>?_⟩;rw [hh.drew.cell,List.getElem?_append_left (by have:=(List.getElem?_eq_some_iff.1 hj).1;rw [List.length_drop] at this;omega)]
   rwa [List.getElem?_drop] at hj
 rw [ho2];have hdl:((D_ l).drop ((i+1)*8)).length=(l.length-(i+1))*8:=by rw [List.length_drop,hx];omega
 refine room_has E57 (news:=(D_ l).drop ((i+1)*8)) hh.drew hdl hsrc (fun v hv=>e_g l v (List.mem_of_mem_drop hv)) (by omega) (by rw [hdl,List.length_append,hx];omega) fun w1 hw1=>?_;rw [AsSl_slice,show i+(l.length-(i+1))=l.length-1 by omega];simp only [Int.toNat_natCast];refine⟨by omega,by omega,by omega,by omega,?_⟩;rw [p_a (by omega)];have hcells:(D_ l++sp).take (i*8)++(D_ l).drop ((i+1)*8)=D_ (l.eraseIdx i):=by
  rw [List.take_append_of_le_length (by rw [hx];omega),List.eraseIdx_eq_take_drop_succ,h_a,t_b,u_b]
 rw [hcells] at hw1;have hel:(D_ (l.eraseIdx i)).length=(l.length-1)*8:=by rw [B_a,List.length_eraseIdx_of_lt hi]
 have hX:((D_ l++sp).drop (i*8+((D_ l).drop ((i+1)*8)).length)).length=c*8-(l.length-1)*8:=by
  rw [List.length_drop,List.length_append,hx,hdl,hlsp];omega
 generalize (D_ l++sp).drop (i*8+((D_ l).drop ((i+1)*8)).length)=X at *;have hh1:Has w1 g (D_ (l.eraseIdx i)++X):=by rw [hw1];exact hh.drew.row
 refine p_k E57 hh1 (by rw [List.length_append,hel,hX];omega) (by intro v hv;exact (show ∀v∈trZ.cells.toList,v.oneCell'=true by simp [trZ,Value.cells,Value.oneCell']) v hv) fun w2 hw2=>?_;simp only [sb_,Nat.reduceAdd];rw [List.take_left' hel,List.append_assoc] at hw2;have hzl:=w_a trZ.cells (l.length-(l.length-1));have hS1:=(h.qt (Qt.refl w).drew).row (l':=D_ (l.eraseIdx i)++X) (by rw [List.length_append,hel,hX];omega) (Nat.le_refl _);rw [←hw1] at hS1;have hS2:=hS1.row (l':=D_ (l.eraseIdx i)++((Builtin.zeroCells trZ.cells (l.length-(l.length-1))).toList++(D_ (l.eraseIdx i)++X).drop ((l.length-1)*8+(l.length-(l.length-1))*8)))
  (by rw [List.length_append,List.length_append,hel,hzl,List.length_drop,List.length_append,hel,hX];simp only [trZ,Value.cells,List.size_toArray,List.length_cons,List.length_nil];omega) (n':=l.length-1) (by omega)
 rw [←hw2,List.take_left' hel] at hS2;refine⟨by trivial,hS2,?_⟩;refine (Fr.of_drew (b:=w1) ?_).trans ?_
 ·rw [hw1];exact (Fr.row (w:=w.drew)).mono fun b _ hb=>⟨_,rfl,hb.symm⟩
 ·rw [hw2];exact (Fr.row (w:=w1)).mono fun b _ hb=>⟨_,rfl,hb.symm⟩
theorem E35:ElemT prog 34 35 (.int .u32 0) 1 4:=⟨by kernel_rfl,by kernel_rfl,rfl,by decide⟩
theorem f174 {w:World} {k:Nat} (hk:k=1∨k=16):Ret prog 174 #[.int .u64 1,.int .u64 (k:Int)] w fun v w'=>v=.tuple #[.int .u64 0,.int .u64 (k:Int)]∧w'=w:=by
 refine F174_of ?_;unfold F174;try dsimp only [Uvv,ui_]
 have h235:Ret prog 235 #[.int .u64 1,.int .u64 (k:Int)] w fun v w'=>v=.tuple #[.int .u64 0,.int .u64 (k:Int)]∧w'=w:=by
  refine F235_of ?_;unfold F235;refine⟨?_,rfl⟩;rcases hk with rfl|rfl<;>kernel_rfl
 refine Ret.use h235 ?_;rintro _ _ ⟨rfl,hw⟩;obtain rfl:=hw.symm;simp only [sb_,Nat.reduceAdd];exact⟨by trivial,by trivial⟩
theorem f108 {w:World} {vb:Nat} {x:Int} (hv:Has w vb [.int .u32 x]) {k:Nat} (hk:k=1∨k=16) :
  Ret prog 108 #[.slice (some ⟨vb,0,none⟩) 1 1,.int .i64 (k:Int)] w fun r w'=>∃q,r=.slice (some ⟨q,0,none⟩) k k∧Has w' q (List.replicate k (.int .u32 x))∧Fr0 w w'∧w.heap.size≤q:=by
 refine F108_of ?_;unfold F108;try dsimp only [Uvv,ui_]
 have hk1:1≤k∧k≤16:=by omega
 refine Join.at (fun s w'=>s=[]∧w'=w) (D_a (by omega) ⟨rfl,rfl⟩) ?_;rintro _ _ ⟨rfl,hw⟩;obtain rfl:=hw.symm;rw [UnN_nil,show u64.wrap ((1:Nat):Int)=1 by kernel_rfl,b_a (n:=(k:Int)) (by omega) (by omega)];refine Ret.use (f174 hk) ?_;rintro _ _ ⟨rfl,hw⟩;obtain rfl:=hw.symm;simp only [sb_,Nat.reduceAdd];refine Join.at (fun s w'=>s=[]∧w'=w) (D_a (by decide) (D_a (by omega) ⟨rfl,rfl⟩)) ?_;rintro _ _ ⟨rfl,hw⟩;obtain rfl:=hw.symm;rw [UnN_nil,w64 (n:=(k:Int)) (by omega) (by omega)];refine N_i E35 k (by simp only [maxLen];omega) (by omega) fun w1 h1 f1 s1=>?_;rw [AsSl_slice];have hm:(madeCells (Value.int .u32 0).cells (k*1)).toList=List.replicate k (.int .u32 0):=by rw [Nat.mul_one];exact L_d _ _
 rw [hm] at h1;have hv1:=hv.fr0 f1;refine c_c E35.und (size:=1) (by kernel_rfl) (cs:=[.int .u32 x]) h1 (by rw [nmin (by omega)];rfl) (fun j v hj=>by rw [Nat.zero_add,hv1.cell];exact hj) (by simp;omega) (by simp [Value.oneCell']) fun w2 hw2=>?_;rw [AsI_int,nmin (by omega)];have h2:Has w2 w.heap.size (List.replicate 1 (.int .u32 x)++List.replicate (k-1) (.int .u32 0)):=by
  rw [hw2];have:=h1.row (l':=List.take 0 (List.replicate k (Value.int .u32 0))++[.int .u32 x]++List.drop (0+1) (List.replicate k (Value.int .u32 0)));simpa using this
 have f2:Fr0 w w2:=f1.new (b:=w.heap.size) (by rw [hw2];exact Fr.row) (Nat.le_refl _);refine Loop.by (fun s w'=>∃j:Nat,1≤j∧j≤k∧s=[.int .i64 (j:Int)]∧Has w' w.heap.size (List.replicate j (.int .u32 x)++List.replicate (k-j) (.int .u32 0))∧Fr0 w w') (fun s _=>match s with | [.int _ j]=>k-j.toNat|_=>0)
  ⟨1,by omega,by omega,rfl,h2,f2⟩ ?_
 rintro _ w3 ⟨j,hj1,hjk,rfl,h3,f3⟩;simp only [UnC_cons,UnN_nil,AsI_int];refine C_ (fun hlt=>?_) (fun hge=>?_)
 ·refine⟨by omega,by omega,by omega,by omega,?_⟩;simp only [Int.toNat_natCast,Nat.sub_zero,i_a];rw [p_a (by omega),Nat.mul_one];obtain⟨n,hn⟩:∃n,n=Nat.min j (k-j):=⟨_,rfl⟩;have hn1:1≤n∧n≤j∧n≤k-j:=by
   rw [hn];have h1:Nat.min j (k-j)=min j (k-j):=rfl;rw [h1];omega
  refine c_c E35.und (size:=1) (by kernel_rfl) (cs:=List.replicate n (.int .u32 x)) h3.drew (by rw [←hn];simp) (fun i v hi=>by
    rw [List.getElem?_replicate] at hi;split at hi
    ·injection hi with hi;subst hi
     rw [h3.drew.cell,Nat.zero_add,List.getElem?_append_left (by simp;omega),List.getElem?_replicate,if_pos (by omega)]
    ·cases hi) (by simp;omega) (by intro v hv;rw [List.mem_replicate] at hv;rw [hv.2];rfl) fun w4 hw4=>?_
  rw [AsI_int,←hn,w64 (n:=(j:Int)+(n:Int)) (by omega) (by omega)];refine⟨⟨j+n,by omega,by omega,by rw [Int.natCast_add],?_,?_⟩,by omega⟩
  ·have:=h3.drew.row (l':=List.take j (List.replicate j (Value.int .u32 x)++List.replicate (k-j) (.int .u32 0))++List.replicate n (.int .u32 x)++List.drop (j+(List.replicate n (Value.int .u32 x)).length) (List.replicate j (Value.int .u32 x)++List.replicate (k-j) (.int .u32 0)));rw [←hw4] at this;have e1:List.drop (j+(List.replicate n (Value.int .u32 x)).length) (List.replicate j (Value.int .u32 x)++List.replicate (k-j) (.int .u32 0))=List.replicate (k-(j+n)) (.int .u32 0):=by
    rw [List.length_replicate,←List.drop_drop,List.drop_left' (by simp),List.drop_replicate]
    congr 1;omega
   rw [List.take_left' (by simp),e1,List.replicate_append_replicate] at this;exact this
  ·refine f3.new (b:=w.heap.size) (by rw [hw4];exact Fr.of_drew Fr.row) (Nat.le_refl _)
 ·obtain rfl:j=k:=by omega
  refine⟨_,rfl,?_,f3,Nat.le_refl _⟩;simpa using h3
theorem f183 {w:World} {p:Option Addr} {l:List Int} {c:Nat} (h:Rd w p (l.map (Value.int .i64))) (hn:l.length≤1000000000000) (x:Int) :
  Ret prog 183 #[.slice p l.length c,.int .i64 x] w fun v w'=>(∃i:Int,v=.int .i64 i∧(0≤i↔x∈l))∧w'=w:=by
 refine F183_of ?_;unfold F183;try dsimp only [Uii,li_,ui_]
 refine Loop.by (fun s w'=>∃i:Nat,∃y:Int,i≤l.length∧s=[.int .i64 (i:Int),.int .i64 y]∧w'=w∧∀k,k<i→l[k]?≠some x) (fun s _=>match s with | [.int _ i,_]=>l.length-i.toNat|_=>0) ⟨0,0,by omega,rfl,rfl,fun _ h=>absurd h (by omega)⟩ ?_
 rintro _ w2 ⟨i,y,hi,rfl,hw,hb⟩;obtain rfl:=hw.symm;simp only [UnC_cons,UnN_nil,AsI_int];refine C_ (fun hlt=>?_) (fun hge=>?_)
 ·obtain⟨t,ht⟩:∃t,l[i]?=some t:=⟨l[i]'(by omega),List.getElem?_eq_getElem _⟩;refine h.int rfl (i:=(i:Int)) (by omega) (x:=t) (by simpa using ht) ?_;refine O_ (fun e=>?_) (fun e=>?_)
  ·exact⟨⟨i,rfl,fun _=>by rw [e];exact List.mem_of_getElem? ht,fun _=>by omega⟩,by trivial⟩
  ·rw [w64 (n:=(i:Int)+1) (by omega) (by omega)];refine⟨⟨i+1,y,by omega,rfl,by trivial,fun k hk=>?_⟩,by simp only [Int.toNat_natCast];omega⟩;by_cases hki:k=i
   ·subst hki;rw [ht];intro h;injection h with h;exact e h.symm
   ·exact hb k (by omega)
 ·refine⟨⟨-1,rfl,fun h=>absurd h (by omega),fun hx=>?_⟩,by trivial⟩;obtain⟨k,hk,hk2⟩:=List.mem_iff_getElem.1 hx;exact absurd (by rw [List.getElem?_eq_getElem hk,hk2]) (hb k (by omega))
theorem f122 {w:World} {p:Option Addr} {l:List Int} {c:Nat} (h:Rd w p (l.map (Value.int .i64))) (hn:l.length≤1000000000000) (x:Int) :
  Ret prog 122 #[.slice p l.length c,.int .i64 x] w fun v w'=>v=.bool (decide (x∈l))∧w'=w:=by
 refine F122_of ?_;unfold F122;refine Ret.use (f183 h hn x) ?_;rintro _ w1 ⟨⟨i,rfl,hi⟩,hw⟩;obtain rfl:=hw.symm;rw [AsI_int];refine⟨?_,rfl⟩
 congr 1
 by_cases hx:x∈l
 ·rw [decide_eq_true hx,decide_eq_true (show i≥0 from hi.2 hx)]
 ·rw [decide_eq_false hx,decide_eq_false (fun h=>hx (hi.1 h))]
end Go.Proofs.YtmgjicnipgdjhaaGreatDoor
set_option maxRecDepth 10000
namespace Go.Proofs.YtmgjicnipgdjhaaGreatDoor
open Go Go.Sh Go.Fr
structure Gl (w:World):Prop where
 gr:Gr w
 gd:Gd w
 tz:Tz w
theorem Gl.fr {S:Nat→Prop} {w w':World} (h:Gl w) (f:Fr S w w') (hS:∀b,b<7→¬S b):Gl w':=⟨h.gr.fr f (hS 0 (by decide)),h.gd.fr f (hS 1 (by decide)) (hS 2 (by decide)),h.tz.fr f (hS 3 (by decide))⟩
theorem Gl.fr0 {w w':World} (h:Gl w) (f:Fr0 w w'):Gl w':=h.fr f fun _ _ h=>h
def Low (ro:Ro):Prop:=∀b,b<7→(ro b).1=0
theorem Gl.frK {l:List Nat} {ro:Ro} {w w':World} (h:Gl w) (f:FrK l ro w w') (hl:Low ro) (h0:0∉l):Gl w':=h.fr f fun b hb hS=>h0 (by have:=hl b hb;rwa [this] at hS)
theorem Low.ext {w:World} {ro ro':Ro} (h:Low ro) (hG:Gl w) (e:RExt w ro ro'):Low ro':=fun b hb=>by rw [e b (by have:=hG.gr.size;omega)];exact h b hb
abbrev psK:List Nat:=[12,13,14]
structure PSAt (w:World) (ro:Ro) (b bu bd s:Nat) (p:Pool) (l:List Qr):Prop where
 pool:PoolAt w b bu bd p
 slab:∃g c,SlabAt w s b g c l∧∀x,On g x→(ro x).1=14
 rp:∀x,Own b bu bd x→(ro x).1=12
 rs:(ro s).1=13
 held:t_c p l
theorem PSAt.lts {w:World} {ro:Ro} {b bu bd s:Nat} {p:Pool} {l:List Qr} (h:PSAt w ro b bu bd s p l):∀x,Own b bu bd x→x<w.heap.size:=by
 obtain⟨ws,_,h3⟩:=h.pool.ws;rintro x (rfl|rfl|rfl)
 ·exact h.pool.st.lt
 ·exact h.pool.us.lt
 ·exact h3.lt
theorem PSAt.ext {w:World} {ro ro':Ro} {b bu bd s:Nat} {p:Pool} {l:List Qr} (h:PSAt w ro b bu bd s p l) (e:RExt w ro ro'):PSAt w ro' b bu bd s p l:=by
 obtain⟨g,c,h1,h2⟩:=h.slab;exact⟨h.pool,⟨g,c,h1,fun x hx=>by rw [e x ((h1.sl.lt x hx).2)];exact h2 x hx⟩,fun x hx=>by rw [e x (h.lts x hx)];exact h.rp x hx,by rw [e s h1.st.lt];exact h.rs,h.held⟩
theorem PSAt.fr {w w':World} {ro:Ro} {b bu bd s:Nat} {p:Pool} {l:List Qr} (h:PSAt w ro b bu bd s p l) {S:Nat→Prop} (f:Fr S w w') (hS:∀x,(ro x).1∈psK→¬S x):PSAt w' ro b bu bd s p l:=by
 obtain⟨g,c,h1,h2⟩:=h.slab;have hp:∀x,Own b bu bd x→¬S x:=fun x hx=>hS x (by rw [h.rp x hx];decide);exact⟨h.pool.fr f (hp _ (.inl rfl)) (hp _ (.inr (.inl rfl))) (hp _ (.inr (.inr rfl))),⟨g,c,h1.fr f (hS s (by rw [h.rs];decide)) (fun x hx=>hS x (by rw [h2 x hx];decide)),h2⟩,h.rp,h.rs,h.held⟩
theorem PSAt.fr0 {w w':World} {ro:Ro} {b bu bd s:Nat} {p:Pool} {l:List Qr} (h:PSAt w ro b bu bd s p l) (f:Fr0 w w'):PSAt w' ro b bu bd s p l:=h.fr f fun _ _ h=>h
theorem PSAt.pooled {w w':World} {ro:Ro} {b bu bd s:Nat} {p p':Pool} {l:List Qr} (h:PSAt w ro b bu bd s p l) (hP:PoolAt w' b bu bd p') (f:Fr (Own b bu bd) w w') (hH:t_c p' l):PSAt w' ro b bu bd s p' l∧FrK psK ro w w':=by
 obtain⟨g,c,h1,h2⟩:=h.slab;refine⟨⟨hP,⟨g,c,h1.fr f (fun hx=>by have:=h.rp _ hx;rw [h.rs] at this;cases this) (fun x hx hx'=>by have:=h.rp _ hx';rw [h2 x hx] at this;cases this),h2⟩,h.rp,h.rs,hH⟩,f.mono fun x _ hx=>by rw [h.rp x hx];decide⟩
theorem PSAt.three {w:World} {ro:Ro} {b bu bd s:Nat} {p:Pool} {l:List Qr} (h:PSAt w ro b bu bd s p l) (hl:Low ro):¬Own b bu bd 3:=fun hx=>by have:=h.rp _ hx;rw [hl 3 (by decide)] at this;cases this
theorem I_i {w:World} {ro:Ro} {b bu bd s:Nat} {p:Pool} {l:List Qr} (h:PSAt w ro b bu bd s p l) (hG:Gl w) (hl:Low ro) (n al:Int) (hn:n≤9223372036854775807) :
  Ret prog 46 #[.pointer (some ⟨b,0,none⟩),.int .i64 n,.int .i64 al] w fun v w'=>∃(r e:Nat) (p':Pool),v=.tuple #[.int .i64 (r:Int),.int .i64 (e:Int)]∧PTake p n al r e p'∧PSAt w' ro b bu bd s p' l∧FrK psK ro w w':=by
 refine (f46 h.pool hG.tz (h.three hl) n al hn).mono ?_;rintro v w' (⟨h1,rfl,hq⟩|⟨h1,h2,rfl,hq⟩|⟨h1,a,h2,h3,rfl,h4,h5⟩)
 ·exact⟨0,41,p,rfl,.bad h1,h.fr0 hq.fr,hq.fr⟩
 ·exact⟨0,42,p,rfl,.none h1 h2,h.fr0 hq.fr,hq.fr⟩
 ·have ht:=PTake.ok h1 a h2 h3;obtain⟨k1,k2⟩:=h.pooled h4 h5 (ht.held h.held);exact⟨_,0,_,rfl,ht,k1,k2⟩
theorem J_i {w:World} {ro:Ro} {b bu bd s:Nat} {p:Pool} {l:List Qr} (h:PSAt w ro b bu bd s p l) (hG:Gl w) (hl:Low ro) (first n:Int) (hf:-9223372036854775808≤first∧first≤9223372036854775807) (hn:n≤9223372036854775807)
  (hs:(p.run first n).2=0→t_c (p.turned (first-p.first).toNat (· - 1) n.toNat) l) :
  Ret prog 47 #[.pointer (some ⟨b,0,none⟩),.int .i64 first,.int .i64 n] w fun v w' =>
   ((p.run first n).2≠0∧v=.tuple #[.int .i64 0,.int .i64 ((p.run first n).2:Nat)]∧PSAt w' ro b bu bd s p l∧FrK psK ro w w') ∨
   ((p.run first n).2=0∧v=.tuple #[.int .i64 (((p.turned (first-p.first).toNat (· - 1) n.toNat).free:Int)-p.free),.int .i64 0]∧PSAt w' ro b bu bd s (p.turned (first-p.first).toNat (· - 1) n.toNat) l∧FrK psK ro w w'):=by
 refine (f47 h.pool hG.tz (h.three hl) first n hf hn).mono ?_;rintro v w' (⟨h1,rfl,hq⟩|⟨h1,rfl,h4,h5⟩)
 ·exact .inl ⟨h1,rfl,h.fr0 hq.fr,hq.fr⟩
 ·obtain⟨k1,k2⟩:=h.pooled h4 h5 (hs h1);exact .inr ⟨h1,rfl,k1,k2⟩
theorem PSAt.slabbed {w w':World} {ro:Ro} {b bu bd s:Nat} {p p':Pool} {l l':List Qr} (h:PSAt w ro b bu bd s p l) {g g':Option Addr} {c c':Nat} (h1:SlabAt w s b g c l) (h2:∀x,On g x→(ro x).1=14)
  (hP:PoolAt w' b bu bd p') (hS:SlabAt w' s b g' c' l') (f:Fr (OwnS b bu bd s g) w w') (hon:∀x,On g' x→On g x∨w.heap.size≤x) (hH:t_c p' l'):∃ro',RExt w ro ro'∧PSAt w' ro' b bu bd s p' l'∧FrK psK ro w w':=by
 refine⟨fun x=>if x<w.heap.size then ro x else (14,0),fun x hx=>by simp only [if_pos hx],⟨hP,⟨g',c',hS,fun x hx=>?_⟩,fun x hx=>?_,?_,hH⟩,f.mono fun x _ hx=>?_⟩
 ·by_cases hlt:x<w.heap.size
  ·simp only [if_pos hlt];rcases hon x hx with hx|hx
   ·exact h2 x hx
   ·omega
  ·simp only [if_neg hlt]
 ·simp only [if_pos (h.lts x hx)];exact h.rp x hx
 ·simp only [if_pos h1.st.lt];exact h.rs
 ·rcases hx with hx|hx|hx
  ·rw [h.rp x hx];decide
  ·rw [hx,h.rs];decide
  ·rw [h2 x hx];decide
theorem ps_take {w:World} {ro:Ro} {b bu bd s:Nat} {p:Pool} {l:List Qr} (h:PSAt w ro b bu bd s p l) (hG:Gl w) (hl:Low ro) :
  Ret prog 120 #[.pointer (some ⟨s,0,none⟩)] w fun v w'=>∃(r e:Nat) (p':Pool) (l':List Qr) (ro':Ro),v=.tuple #[.int .i64 (r:Int),.int .i64 (e:Int)]∧STake p l r e p' l'∧RExt w ro ro'∧PSAt w' ro' b bu bd s p' l'∧FrK psK ro w w':=by
 obtain⟨g,c,h1,h2⟩:=h.slab;refine (f120 h.pool hG.tz (h.three hl) h1 h.held (fun hx=>by have:=h.rp _ hx;rw [h.rs] at this;cases this) (fun x hx hx'=>by have:=h.rp _ hx';rw [h2 x hx] at this;cases this)).mono ?_;rintro v w' ⟨r,e,p',l',g',c',rfl,hst,hP,hS,hf,hon⟩;obtain⟨ro',k1,k2,k3⟩:=h.slabbed h1 h2 hP hS hf hon (hst.held h.held).1;exact⟨r,e,p',l',ro',rfl,hst,k1,k2,k3⟩
theorem A_k {w:World} {ro:Ro} {b bu bd s:Nat} {p:Pool} {l:List Qr} (h:PSAt w ro b bu bd s p l) (hG:Gl w) (hl:Low ro) (t:Int) (ht:-9223372036854775808≤t∧t≤9223372036854775807) :
  Ret prog 113 #[.pointer (some ⟨s,0,none⟩),.int .i64 t] w fun v w'=>∃(e:Nat) (p':Pool) (l':List Qr) (ro':Ro),v=.int .i64 (e:Int)∧SDrop p l t e p' l'∧RExt w ro ro'∧PSAt w' ro' b bu bd s p' l'∧FrK psK ro w w':=by
 obtain⟨g,c,h1,h2⟩:=h.slab;refine (f113 h.pool hG.tz (fun hx=>?_) h1 h.held (fun hx=>by have:=h.rp _ hx;rw [h.rs] at this;cases this) (fun x hx hx'=>by have:=h.rp _ hx';rw [h2 x hx] at this;cases this) t ht).mono ?_
 ·rcases hx with hx|hx|hx
  ·exact h.three hl hx
  ·have:=h.rs;rw [←hx,hl 3 (by decide)] at this;cases this
  ·have:=h2 3 hx;rw [hl 3 (by decide)] at this;cases this
 rintro v w' ⟨e,p',l',g',c',rfl,hst,hP,hS,hf,hon⟩;obtain⟨ro',k1,k2,k3⟩:=h.slabbed h1 h2 hP hS hf hon (hst.held h1.ok h.held).1;exact⟨e,p',l',ro',rfl,hst,k1,k2,k3⟩
end Go.Proofs.YtmgjicnipgdjhaaGreatDoor
namespace Go.Sh
open Go.ChangeMaps (setBlock)
variable {P:Program}
theorem B_g {t kt et:TypeId} {k:IntKind} {z:Value} (E:MapT P t kt et k z) {w:World} {b:Nat} {m:List (Int×Value)} (h:MapIs w b k m) {x:Int} {u:Value} (hx:at? m x=some u) (v:Value) {K:World→Prop}
  (hK:∀w',MapIs w' b k (r_i m x v)→Fr (·=b) w w'→w'.heap.size=w.heap.size→K w'):H_j P (Instr.mapUpdate t (.map (some b)) (.int k x) v) w K:=by
 obtain⟨es,clock,hb,he,hn1,hn2,hn3⟩:=h;have hlt:b<w.heap.size:=(Array.getElem?_eq_some_iff.1 hb).1;obtain⟨r,hr,ha,hpos⟩:=D_b (x:=x) es m 0 he;rw [hx] at ha;have hg:(getObj b).run P w=.ok (.map es.toArray clock) w:=by simp [getObj,Sem.run,hb]
 have hel:es.length=m.length:=by have:=congrArg List.length he;simpa using this
 cases r with
 | none=>cases ha
 | some p =>
  obtain⟨j,v0⟩:=p;obtain⟨n,hj,h5,h6⟩:=hpos j v0 rfl;rw [Nat.zero_add] at hj;subst hj;have hjl:j<es.length:=by have:=(List.getElem?_eq_some_iff.1 h5).1;simp at this;omega
  have hkey:es[j].key=.int k x:=by
   have h7:(es.map fun e=>(e.key,e.val))[j]?=some (es[j].key,es[j].val):=by rw [List.getElem?_map,List.getElem?_eq_getElem hjl];rfl
   rw [he,List.getElem?_map] at h7;rw [List.getElem?_map] at h5;obtain⟨q,hq,hq2⟩:=Option.map_eq_some_iff.1 h5;rw [hq] at h7;simp only [Option.map_some,Option.some.injEq,Prod.mk.injEq] at h7;rw [←h7.1,hq2]
  have hst:(Instr.keyThatStays (.int k x) (.int k x)).run P w=.ok (.int k x) w:=by
   unfold Instr.keyThatStays;simp [Instr.sameBits]
  have hmod:es.toArray.modify j (fun e=>{ e with key:=.int k x,val:=v })=(es.modify j fun e=>{ e with val:=v }).toArray:=by
   apply Array.ext'
   apply List.ext_getElem?
   intro i;simp only [Array.toList_modify,List.getElem?_modify];by_cases hij:j=i
   ·subst hij;rw [List.getElem?_eq_getElem hjl];simp [←hkey]
   ·simp [hij]
  refine⟨{ w with heap:=w.heap.setIfInBounds b (.map (es.modify j fun e=>{ e with val:=v }).toArray clock) },?_,hK _ ?_ Fr.set (by simp)⟩
  ·unfold Instr.mapUpdate;have hq:es.toArray[j]?=some es[j]:=by simp [hjl]
   simp only [Sem.run_bind,N_ E.und,Result.andThen_ok,hg,Z_a E.key,Instr.findKey,N_ E.key,hr,Sem.run_pure,hq,Option.map_some,Option.getD_some,hkey,hst,hmod];exact v_f hb _
  ·have hx2:∀q,m[j]?=some q→q.1=x:=fun q hq=>by rw [List.getElem?_map,hq] at h5;simpa using h5
   refine⟨es.modify j fun e=>{ e with val:=v },clock,by simp [hlt],?_,?_,?_,?_⟩
   ·apply List.ext_getElem?
    intro i;have hi:=congrArg (fun l=>l[i]?) he;simp only [List.getElem?_map] at hi;unfold r_i;simp only [List.getElem?_map,List.getElem?_modify];by_cases hij:j=i
    ·subst hij;cases h2:m[j]? with
     | none=>rw [h2,List.getElem?_eq_getElem hjl] at hi;simp at hi
     | some q =>
      rw [h2,List.getElem?_eq_getElem hjl] at hi;simp only [Option.map_some,Option.some.injEq,Prod.mk.injEq] at hi;rw [List.getElem?_eq_getElem hjl];simp [hx2 q h2,hkey]
    ·cases h2:m[i]? with
     | none =>
      rw [h2] at hi;cases h1:es[i]? with
      | none=>simp
      | some e=>rw [h1] at hi;simp at hi
     | some q =>
      rw [h2] at hi;have hq:q.1≠x:=fun h=>by
       have h3:(m.map (·.1))[i]?=(m.map (·.1))[j]?:=by rw [h5,List.getElem?_map,h2];simp [h]
       have hil:i<m.length:=(List.getElem?_eq_some_iff.1 h2).1;have:=(List.getElem?_inj (by simpa using hil) hn3).1 h3;omega
      cases h1:es[i]? with
      | none=>rw [h1] at hi;simp at hi
      | some e =>
       rw [h1] at hi;simp only [Option.map_some,Option.some.injEq,Prod.mk.injEq] at hi;simp [hij,hq,hi.1,hi.2]
   ·have:(es.modify j fun e=>{ e with val:=v }).map (·.born)=es.map (·.born):=by
     apply List.ext_getElem?;intro i
     simp only [List.getElem?_map,List.getElem?_modify];cases es[i]?<;>simp;split<;>rfl
    rw [this];exact hn1
   ·intro e he1;obtain⟨i,hi⟩:=List.getElem?_of_mem he1;rw [List.getElem?_modify] at hi;cases h1:es[i]? with
    | none=>rw [h1] at hi;simp at hi
    | some e0 =>
     rw [h1] at hi;have:=hn2 e0 (List.mem_of_getElem? h1);simp at hi;subst hi;split<;>exact this
   ·rw [q_i];exact hn3
theorem at_setAt {m:List (Int×Value)} {x:Int} {v u:Value} (h:at? m x=some u):at? (r_i m x v) x=some v:=by
 unfold at? at h ⊢
 induction m with
 | nil=>simp at h
 | cons p r ih =>
  unfold r_i;rw [List.map_cons];by_cases e:p.1=x
  ·rw [if_pos e,List.find?_cons_of_pos (by simp)];rfl
  ·rw [if_neg e,List.find?_cons_of_neg (by simpa using e)];rw [List.find?_cons_of_neg (by simpa using e)] at h;exact ih h
def LeftAt (w:World) (r b:Nat) (k:IntKind) (m left:List (Int×Value)):Prop :=
 ∃(es:List MapEntry) (clock since:Nat) (seen:Array Nat) (c0:Nat),w.heap[r]?=some (.mapIter (some b) since seen c0)∧w.heap[b]?=some (.map es.toArray clock) ∧
  es.map (fun e=>(e.key,e.val))=m.map (fun x=>(.int k x.1,x.2))∧(es.map (·.born)).Nodup∧(∀e∈es,e.born<since)∧since≤c0∧since≤clock ∧
  (es.filter fun e=>!seen.contains e.born).map (fun e=>(e.key,e.val))=(left.map fun x=>(.int k x.1,x.2))∧seen.size+left.length=m.length
def R_f (w:World) (r:Nat):Nat:=match w.heap[r]? with
 | some (.mapIter _ _ seen _)=>seen.size
 | _=>0
theorem LeftAt.seen {w:World} {r b:Nat} {k:IntKind} {m left:List (Int×Value)} (h:LeftAt w r b k m left):R_f w r+left.length=m.length:=by
 obtain⟨es,clock,since,seen,c0,hr,_,_,_,_,_,_,_,h9⟩:=h;unfold R_f;rw [hr];exact h9
theorem C_i {S:Nat→Prop} {w w':World} {r:Nat} (hr:r<w.heap.size) (f:Fr S w w') (h1:¬S r):R_f w' r=R_f w r:=by
 unfold R_f;rw [f.block r hr h1]
theorem LeftAt.lt {w:World} {r b:Nat} {k:IntKind} {m left:List (Int×Value)} (h:LeftAt w r b k m left):r<w.heap.size:=by
 obtain⟨es,clock,since,seen,c0,hr,_⟩:=h;exact (Array.getElem?_eq_some_iff.1 hr).1
theorem LeftAt.fr {S:Nat→Prop} {w w':World} {r b:Nat} {k:IntKind} {m left:List (Int×Value)} (h:LeftAt w r b k m left) (f:Fr S w w') (h1:¬S r) (h2:¬S b):LeftAt w' r b k m left:=by
 obtain⟨es,clock,since,seen,c0,hr,hb,h3⟩:=h;exact⟨es,clock,since,seen,c0,by rw [f.block r (Array.getElem?_eq_some_iff.1 hr).1 h1];exact hr,by rw [f.block b (Array.getElem?_eq_some_iff.1 hb).1 h2];exact hb,h3⟩
theorem G_i {t kt et:TypeId} (hu:P.underlying t=some (.map kt et)) {w:World} {b:Nat} {k:IntKind} {m:List (Int×Value)} (h:MapIs w b k m) {K:Value→World→Prop}
  (hK:∀w',LeftAt w' w.heap.size b k m m→Fr0 w w'→w'.heap.size=w.heap.size+1→K (.pointer (some ⟨w.heap.size,0,none⟩)) w'):RunV P (Instr.range t (.map (some b))) w K:=by
 obtain⟨es,clock,hb,he,hn1,hn2,hn3⟩:=h;have hlt:b<w.heap.size:=(Array.getElem?_eq_some_iff.1 hb).1;have hg:(getObj b).run P w=.ok (.map es.toArray clock) w:=by simp [getObj,Sem.run,hb]
 refine⟨_,w.alloc (.mapIter (some b) clock #[] clock),?_,hK _ ⟨es,clock,clock,#[],clock,?_,?_,he,hn1,hn2,Nat.le_refl _,Nat.le_refl _,?_,by simp⟩ ⟨rfl,rfl,rfl,by simp,fun c hc _=>?_⟩ (by simp)⟩
 ·unfold Instr.range;simp only [Sem.run_bind,N_ hu,Result.andThen_ok,hg,Sem.run_pure];simp
 ·show (w.heap.push _)[w.heap.size]?=_;simp
 ·show (w.heap.push _)[b]?=_;rw [Array.getElem?_push,if_neg (by omega)];exact hb
 ·rw [←he]
  congr 1
  rw [List.filter_eq_self];intro a _;simp
 ·show (w.heap.push _)[c]?=_;rw [Array.getElem?_push,if_neg (by omega)]
theorem K_k {ty:TypeId} {w:World} {r b:Nat} {k:IntKind} {m left:List (Int×Value)} (h:LeftAt w r b k m left) {K:Value→World→Prop} (h0:left=[]→K (.tuple #[.bool false]) w)
  (h1:∀l1 x l2,left=l1++x :: l2→∀w',LeftAt w' r b k m (l1++l2)→Fr (·=r) w w'→w'.heap.size=w.heap.size→R_f w' r=R_f w r+1→(∀K':Value→World→Prop,K' (.tuple #[.int k x.1,x.2]) w'→RunV P (Instr.entry (.pointer (some ⟨r,0,none⟩))) w' K')→K (.tuple #[.bool true,.int k x.1,x.2]) w') :
  RunV P (Instr.next (.pointer (some ⟨r,0,none⟩)) false ty) w K:=by
 obtain⟨es,clock,since,seen,c0,hr,hb,he,hn1,hs,hc,hcl,hl,hcn⟩:=h;have hL:(leftOf es.toArray seen).toList=es.filter fun e=>!seen.contains e.born:=by simp [leftOf]
 rcases run_next_at (P:=P) w ty r b since c0 seen es.toArray clock hr hb (by simpa using hs) hc with ⟨hz,hrun⟩|⟨e,heL,w1,hw1,hrun⟩
 ·refine⟨_,w,hrun,h0 ?_⟩;have:(es.filter fun e=>!seen.contains e.born)=[]:=by
   rw [←hL];exact List.length_eq_zero_iff.1 (by simpa using hz)
  rw [this] at hl;cases left with
  | nil=>rfl
  | cons=>simp at hl
 ·rw [hL] at heL;obtain⟨L1,L2,hsplit⟩:=List.append_of_mem heL;rw [hsplit,List.map_append,List.map_cons] at hl;obtain⟨l1,l',rfl,hl1,hl'⟩:=List.map_eq_append_iff.1 hl.symm;obtain⟨x,l2,rfl,hx,hl2⟩:=List.map_eq_cons_iff.1 hl';have hkv:e.key=.int k x.1∧e.val=x.2:=by injection hx with a b;exact⟨a.symm,b.symm⟩
  have hlt:r<w.heap.size:=(Array.getElem?_eq_some_iff.1 hr).1;have hwh:w1.heap=w.heap:=by rcases hw1 with rfl|rfl<;>rfl
  have hrb:r≠b:=fun h=>by rw [h,hb] at hr;cases hr
  obtain⟨w2,hw2⟩:∃w2,w2=setBlock w1 r (.mapIter (some b) since (seen.push e.born) clock):=⟨_,rfl⟩;rw [←hw2,hkv.1,hkv.2] at hrun;have hr2:w2.heap[r]?=some (.mapIter (some b) since (seen.push e.born) clock):=by
   rw [hw2];simp [setBlock,hwh,hlt]
  have hoth:∀c,c≠r→w2.heap[c]?=w.heap[c]?:=fun c hc=>by
   rw [hw2];simp only [setBlock];rw [←hwh]
   first
    | rw [Array.getElem?_setIfInBounds,if_neg (fun h=>hc h.symm)]
    | rw [Array.getElem?_set,if_neg (fun h=>hc h.symm)]
  have hb2:w2.heap[b]?=some (.map es.toArray clock):=by rw [hoth b hrb.symm];exact hb
  have hsz:w2.heap.size=w.heap.size:=by rw [hw2];simp [setBlock,hwh]
  have hfr:Fr (·=r) w w2:=by
   refine⟨?_,?_,?_,by omega,fun c _ hc=>hoth c hc⟩
   ·rw [hw2];rcases hw1 with rfl|rfl<;>rfl
   ·rw [hw2];rcases hw1 with rfl|rfl<;>rfl
   ·rw [hw2];rcases hw1 with rfl|rfl<;>rfl
  have hem:e∈es:=(List.mem_filter.1 heL).1;refine⟨_,w2,hrun,h1 l1 x l2 rfl w2 ⟨es,clock,since,seen.push e.born,clock,hr2,hb2,he,hn1,hs,hcl,hcl,?_,by simp at hcn ⊢;omega⟩ hfr hsz (by unfold R_f;rw [hr2,hr];simp) fun K' hK'=>⟨_,w2,?_,hK'⟩⟩
  ·have hnd:((L1++e :: L2).map (·.born)).Nodup:=by rw [←hsplit];exact (List.Sublist.map _ List.filter_sublist).nodup hn1
   have hfil:(es.filter fun e'=>!(seen.push e.born).contains e'.born)=(es.filter fun e'=>!seen.contains e'.born).filter fun e'=>e'.born != e.born:=by
    rw [List.filter_filter]
    apply List.filter_congr
    intro a _;simp only [Array.contains_push];by_cases ha:a.born=e.born
    ·simp [ha]
    ·have:(a.born==e.born)=false:=by simpa using ha
     simp [this,ha]
   rw [hfil,hsplit,List.filter_append,List.filter_cons,if_neg (by simp)];rw [List.map_append,List.map_cons,List.nodup_append,List.nodup_cons] at hnd;obtain⟨_,⟨n1,_⟩,n2⟩:=hnd;rw [List.filter_eq_self.2 (fun a ha=>?_),List.filter_eq_self.2 (fun a ha=>?_),List.map_append,List.map_append,hl1,hl2]
   ·simp only [bne_iff_ne,ne_eq];intro h;exact n1 (List.mem_map.2 ⟨a,ha,h⟩)
   ·simp only [bne_iff_ne,ne_eq];intro h;exact n2 a.born (List.mem_map.2 ⟨a,ha,rfl⟩) e.born (by simp) h
  ·have:=run_entry_at (P:=P) w2 r b since seen es.toArray clock e hr2 hb2 (by simpa using hem) (by simpa using hn1);rw [hkv.1,hkv.2] at this;exact this
end Go.Sh
set_option maxRecDepth 100000
set_option maxHeartbeats 4000000
namespace Go.Proofs.YtmgjicnipgdjhaaGreatDoor
open Go Go.Sh Go.Proofs
open Go.IntKind (i64 u64 u32)
def F48 (seq0:Value) (w:World) (Q:KQ):Prop :=
 A_ prog 96 #[seq0] w fun d e=>t_ d fun a b c=>A_ prog 97 #[Value.slice a b c] e fun f g=>I_ f fun h=>UnN h (Q (Value.slice a b c) g)
theorem F48_of {seq0 w Q} (h:F48 seq0 w Q):Ret prog 48 #[seq0] w Q:=co Tryz.func48 h
def F96 (seq0:Value) (w:World) (Q:KQ):Prop :=
 A_ prog 161 #[Value.slice none (0:Nat) (0:Nat),seq0] w fun a b=>t_ a fun c d e=>Q (Value.slice c d e) b
theorem F96_of {seq0 w Q} (h:F96 seq0 w Q):Ret prog 96 #[seq0] w Q:=co Tryz.func96 h
def F97 (x0:Option Addr) (x0n x0c:Nat) (w:World) (Q:KQ):Prop :=
 A_ prog 163 #[.int .u64 (u64.wrap (↑x0n:Int))] w fun a b=>AsI .i64 a fun c=>A_ prog 162 #[Value.slice x0 x0n x0c,.int .i64 0,.int .i64 (↑x0n:Int),.int .i64 c] b fun d e=>I_ d fun f=>UnN f (Q (Value.tuple #[]) e)
theorem F97_of {x0 x0n x0c w Q} (h:F97 x0 x0n x0c w Q):Ret prog 97 #[.slice x0 x0n x0c] w Q:=co Tryz.func97 h
def F98c (y:Value) (m:Addr) (w:World) (Q:KQ):Prop :=
 lm_ w m fun d=>RunV prog (Instr.range 120 (Value.map d)) w fun e f=>N_j e fun a=>Sh.Loop [] f fun g h i=>UnN h (RunV prog (Instr.next (.pointer (some { block:=a,off:=(0:Nat) })) false (0:Nat)) i fun j b=>J_j j (Q (Value.tuple #[]) b) fun t u=>RunV prog (Instr.entry (.pointer (some { block:=a,off:=(0:Nat) }))) b fun k l=>I_j k fun n v=>AsI .u64 n fun o=>FnY prog y [.int .u64 o] l fun p c=>AsB p fun r=>BIf (!r) (Q (Value.tuple #[]) c) (g [] c))
theorem F98c_of {y m w Q} (h:F98c y m w Q):Ret prog 98 #[y,.pointer (some m)] w Q:=co Tryz.func98 h
def F49 (m0:Option Nat) (w:World) (Q:KQ):Prop :=
 New w #[Value.map m0] 120 fun a b=>Q (Value.func (Fn.func 98) #[] #[.pointer (some a)]) b
theorem F49_of {m0 w Q} (h:F49 m0 w Q):Ret prog 49 #[.map m0] w Q:=co Tryz.func49 h
def F161 (s0:Option Addr) (s0n s0c:Nat) (seq1:Value) (w:World) (Q:KQ):Prop :=
 New w #[Value.slice s0 s0n s0c] 43 fun a d=>L_f prog seq1 d (fun e f g h=>ui_ e .u64 fun i j=>UnN j (g f fun b=>ls_ b a fun k l m=>RunV prog (Instr.buildSlice 43 1 #[(0,.int .u64 i)]) b fun n o=>t_ n fun p r t=>RunV prog (Builtin.append_ #[(43:Nat),(43:Nat)] (43:Nat) #[Value.slice k l m,Value.slice p r t]) o fun u v=>t_ u fun x y z=>St v a (Value.slice x y z) fun a0=>h a0)) fun a1 c=>ls_ c a fun a2 a3 a4=>FinM [a1] c fun a5=>Q (Value.slice a2 a3 a4) a5
theorem F161_of {s0 s0n s0c seq1 w Q} (h:F161 s0 s0n s0c seq1 w Q):Ret prog 161 #[.slice s0 s0n s0c,seq1] w Q:=co Tryz.func161 h
def F233 (x0:Int) (w:World) (Q:KQ):Prop :=
 Q (.bool (x0 != x0)) w
theorem F233_of {x0 w Q} (h:F233 x0 w Q):Ret prog 233 #[.int .u64 x0] w Q:=co Tryz.func233 h
def F260 (length0:Int) (w:World) (Q:KQ):Prop :=
 A_ prog 163 #[.int .u64 (u64.wrap length0)] w fun b c=>AsI .i64 b fun a=>NN a (Q (.int .u64 (l_ u64 (1:Int) a)) c)
theorem F260_of {length0 w Q} (h:F260 length0 w Q):Ret prog 260 #[.int .i64 length0] w Q:=co Tryz.func260 h
def F261 (r0:Addr) (w:World) (Q:KQ):Prop :=
 li_ w.drew r0 .u64 fun d=>li_ w.drew r0 .u64 fun e=>St w.drew r0 (.int .u64 (O_j u64 d (l_ u64 e (13:Int)))) fun a=>li_ a.drew r0 .u64 fun f=>li_ a.drew r0 .u64 fun g=>St a.drew r0 (.int .u64 (O_j u64 f (W_ u64 g (7:Int)))) fun b=>li_ b.drew r0 .u64 fun h=>li_ b.drew r0 .u64 fun i=>St b.drew r0 (.int .u64 (O_j u64 h (l_ u64 i (17:Int)))) fun c=>li_ c r0 .u64 fun j=>Q (.int .u64 j) c
theorem F261_of {r0 w Q} (h:F261 r0 w Q):Ret prog 261 #[.pointer (some r0)] w Q:=co Tryz.func261 h
def F56 (seq0:Value) (w:World) (Q:KQ):Prop :=
 A_ prog 110 #[seq0] w fun d e=>t_ d fun a b c=>A_ prog 111 #[Value.slice a b c] e fun f g=>I_ f fun h=>UnN h (Q (Value.slice a b c) g)
theorem F56_of {seq0 w Q} (h:F56 seq0 w Q):Ret prog 56 #[seq0] w Q:=co Tryz.func56 h
def F110 (seq0:Value) (w:World) (Q:KQ):Prop :=
 A_ prog 175 #[Value.slice none (0:Nat) (0:Nat),seq0] w fun a b=>t_ a fun c d e=>Q (Value.slice c d e) b
theorem F110_of {seq0 w Q} (h:F110 seq0 w Q):Ret prog 110 #[seq0] w Q:=co Tryz.func110 h
def F111 (x0:Option Addr) (x0n x0c:Nat) (w:World) (Q:KQ):Prop :=
 A_ prog 163 #[.int .u64 (u64.wrap (↑x0n:Int))] w fun a b=>AsI .i64 a fun c=>A_ prog 176 #[Value.slice x0 x0n x0c,.int .i64 0,.int .i64 (↑x0n:Int),.int .i64 c] b fun d e=>I_ d fun f=>UnN f (Q (Value.tuple #[]) e)
theorem F111_of {x0 x0n x0c w Q} (h:F111 x0 x0n x0c w Q):Ret prog 111 #[.slice x0 x0n x0c] w Q:=co Tryz.func111 h
def F112c (y:Value) (m:Addr) (w:World) (Q:KQ):Prop :=
 lm_ w m fun d=>RunV prog (Instr.range 131 (Value.map d)) w fun e f=>N_j e fun a=>Sh.Loop [] f fun g h i=>UnN h (RunV prog (Instr.next (.pointer (some { block:=a,off:=(0:Nat) })) false (0:Nat)) i fun j b=>J_j j (Q (Value.tuple #[]) b) fun t u=>RunV prog (Instr.entry (.pointer (some { block:=a,off:=(0:Nat) }))) b fun k l=>I_j k fun n v=>AsI .u32 n fun o=>FnY prog y [.int .u32 o] l fun p c=>AsB p fun r=>BIf (!r) (Q (Value.tuple #[]) c) (g [] c))
theorem F112c_of {y m w Q} (h:F112c y m w Q):Ret prog 112 #[y,.pointer (some m)] w Q:=co Tryz.func112 h
def F57 (m0:Option Nat) (w:World) (Q:KQ):Prop :=
 New w #[Value.map m0] 131 fun a b=>Q (Value.func (Fn.func 112) #[] #[.pointer (some a)]) b
theorem F57_of {m0 w Q} (h:F57 m0 w Q):Ret prog 57 #[.map m0] w Q:=co Tryz.func57 h
def F175 (s0:Option Addr) (s0n s0c:Nat) (seq1:Value) (w:World) (Q:KQ):Prop :=
 New w #[Value.slice s0 s0n s0c] 34 fun a d=>L_f prog seq1 d (fun e f g h=>ui_ e .u32 fun i j=>UnN j (g f fun b=>ls_ b a fun k l m=>RunV prog (Instr.buildSlice 34 1 #[(0,.int .u32 i)]) b fun n o=>t_ n fun p r t=>RunV prog (Builtin.append_ #[(34:Nat),(34:Nat)] (34:Nat) #[Value.slice k l m,Value.slice p r t]) o fun u v=>t_ u fun x y z=>St v a (Value.slice x y z) fun a0=>h a0)) fun a1 c=>ls_ c a fun a2 a3 a4=>FinM [a1] c fun a5=>Q (Value.slice a2 a3 a4) a5
theorem F175_of {s0 s0n s0c seq1 w Q} (h:F175 s0 s0n s0c seq1 w Q):Ret prog 175 #[.slice s0 s0n s0c,seq1] w Q:=co Tryz.func175 h
def F231 (x0:Int) (w:World) (Q:KQ):Prop :=
 Q (.bool (x0 != x0)) w
theorem F231_of {x0 w Q} (h:F231 x0 w Q):Ret prog 231 #[.int .u32 x0] w Q:=co Tryz.func231 h
abbrev nz (z:Bool) (a b:Nat):Nat:=match z with|false=>a|true=>b
def kd (z:Bool):IntKind:=match z with|false=>.u64|true=>.u32
def F162z (z:Bool) (data0:Option Addr) (data0n data0c:Nat) (a1 b2 limit3:Int) (w:World) (Q:KQ):Prop :=
 Sh.Loop [.bool true,.bool true,.int .i64 a1,.int .i64 b2,.int .i64 limit3] w fun k a3 g=>p_f a3 fun n l a b m a4=>UnN a4 (BIf (decide (i64.wrap (b-a)≤12)) (A_ prog ((nz z 212 236):Nat) #[Value.slice data0 data0n data0c,.int .i64 a,.int .i64 b] g fun a5 a6=>I_ a5 fun a7=>UnN a7 (Q (Value.tuple #[]) a6)) (BIf (m==0) (A_ prog ((nz z 213 237):Nat) #[Value.slice data0 data0n data0c,.int .i64 a,.int .i64 b] g fun a8 a9=>I_ a8 fun aa=>UnN aa (Q (Value.tuple #[]) a9)) (Join (fun ab ac=>ui_ ab .i64 fun d ad=>UnN ad (A_ prog ((nz z 215 239):Nat) #[Value.slice data0 data0n data0c,.int .i64 a,.int .i64 b] ac fun ae o=>I_ ae fun af=>Uii af fun p r ag=>UnN ag (Join (fun ah h=>Uii ah fun ai e aj=>UnN aj (Join (fun ak i=>UnN ak (Join (fun al am=>ui_ al .i64 fun f an=>UnN an (A_ prog ((nz z 220 244):Nat) #[Value.slice data0 data0n data0c,.int .i64 f,.int .i64 b,.int .i64 e] am fun ao t=>I_ ao fun ap=>Uib ap fun c u aq=>UnN aq (BIf (decide (i64.wrap (c-f)<i64.wrap (b-c))) (A_ prog ((nz z 162 176):Nat) #[Value.slice data0 data0n data0c,.int .i64 f,.int .i64 c,.int .i64 d] t fun ar au=>I_ ar fun av=>UnN av (k [.bool u,.bool (decide (i64.wrap (c-f)≥i64.wrap ((i64.wrap (b-a)).tdiv (8:Int)))),.int .i64 (i64.wrap (c+1)),.int .i64 b,.int .i64 d] au)) (A_ prog ((nz z 162 176):Nat) #[Value.slice data0 data0n data0c,.int .i64 (i64.wrap (c+1)),.int .i64 b,.int .i64 d] t fun ax ay=>I_ ax fun az=>UnN az (k [.bool u,.bool (decide (i64.wrap (b-c)≥i64.wrap ((i64.wrap (b-a)).tdiv (8:Int)))),.int .i64 f,.int .i64 c,.int .i64 d] ay))))) fun v=>BIf (decide (a>0)) (NilP data0 fun aA=>0≤i64.wrap (a-1)∧i64.wrap (a-1)<(↑data0n:Int)∧Ld i.drew (at0 aA ((i64.wrap (a-1)).toNat*1)) fun aB=>AsI (kd z) aB fun aC=>NilP data0 fun aD=>0≤e∧e<(↑data0n:Int)∧Ld i.drew (at0 aD (e.toNat*1)) fun aE=>AsI (kd z) aE fun aF=>A_ prog ((nz z 218 242):Nat) #[.int (kd z) aC,.int (kd z) aF] i.drew fun aG x=>AsB aG fun aH=>BIf (!aH) (A_ prog ((nz z 219 243):Nat) #[Value.slice data0 data0n data0c,.int .i64 a,.int .i64 b,.int .i64 e] x fun aI aJ=>AsI .i64 aI fun aK=>k [.bool n,.bool l,.int .i64 aK,.int .i64 b,.int .i64 d] aJ) (v [.int .i64 a] x)) (v [.int .i64 a] i.drew))) fun j=>BIf l (BIf n (BIf (ai==1) (A_ prog ((nz z 217 241):Nat) #[Value.slice data0 data0n data0c,.int .i64 a,.int .i64 b] h fun aL y=>AsB aL fun aM=>BIf aM (Q (Value.tuple #[]) y) (j [] y)) (j [] h)) (j [] h)) (j [] h))) fun a0=>BIf (r==2) (A_ prog ((nz z 216 240):Nat) #[Value.slice data0 data0n data0c,.int .i64 a,.int .i64 b] o fun aN aO=>I_ aN fun aP=>UnN aP (a0 [.int .i64 1,.int .i64 (i64.wrap (i64.wrap (b-1)-i64.wrap (p-a)))] aO)) (a0 [.int .i64 r,.int .i64 p] o)))) fun a2=>BIf (!l) (A_ prog ((nz z 214 238):Nat) #[Value.slice data0 data0n data0c,.int .i64 a,.int .i64 b] g fun aQ aR=>I_ aQ fun aS=>UnN aS (a2 [.int .i64 (i64.wrap (m-1))] aR)) (a2 [.int .i64 m] g))))
theorem F162z_of (z:Bool) (data0:Option Addr) (data0n data0c:Nat) (a1:Int) (b2:Int) (limit3:Int) (w:World) (Q:KQ) (h:F162z z data0 data0n data0c a1 b2 limit3 w Q):Ret prog (nz z 162 176) #[.slice data0 data0n data0c,.int .i64 a1,.int .i64 b2,.int .i64 limit3] w Q:=by
 cases z
 ·exact co Tryz.func162 h
 ·exact co Tryz.func176 h
def F212z (z:Bool) (data0:Option Addr) (data0n data0c:Nat) (a1 b2:Int) (w:World) (Q:KQ):Prop :=
 Sh.Loop [.int .i64 (i64.wrap (a1+1))] w fun g h e=>ui_ h .i64 fun d i=>UnN i (BIf (decide (d<b2)) (Join (fun j k=>UnN j (g [.int .i64 (i64.wrap (d+1))] k)) fun f=>Sh.Loop [.int .i64 d] e fun l m b=>ui_ m .i64 fun a n=>UnN n (BIf (decide (a>a1)) (NilP data0 fun o=>0≤a∧a<(↑data0n:Int)∧Ld b.drew (at0 o (a.toNat*1)) fun p=>AsI (kd z) p fun r=>NilP data0 fun t=>0≤i64.wrap (a-1)∧i64.wrap (a-1)<(↑data0n:Int)∧Ld b.drew (at0 t ((i64.wrap (a-1)).toNat*1)) fun u=>AsI (kd z) u fun v=>A_ prog ((nz z 218 242):Nat) #[.int (kd z) r,.int (kd z) v] b.drew fun x c=>AsB x fun y=>BIf y (NilP data0 fun a0=>0≤i64.wrap (a-1)∧i64.wrap (a-1)<(↑data0n:Int)∧Ld c.drew (at0 a0 ((i64.wrap (a-1)).toNat*1)) fun a2=>AsI (kd z) a2 fun a3=>NilP data0 fun a4=>0≤a∧a<(↑data0n:Int)∧Ld c.drew (at0 a4 (a.toNat*1)) fun a5=>AsI (kd z) a5 fun a6=>NilP data0 fun a7=>0≤a∧a<(↑data0n:Int)∧St c.drew (at0 a7 (a.toNat*1)) (.int (kd z) a3) fun a8=>NilP data0 fun a9=>0≤i64.wrap (a-1)∧i64.wrap (a-1)<(↑data0n:Int)∧St a8 (at0 a9 ((i64.wrap (a-1)).toNat*1)) (.int (kd z) a6) fun aa=>l [.int .i64 (i64.wrap (a-1))] aa) (f [] c)) (f [] b.drew))) (Q (Value.tuple #[]) e))
theorem F212z_of (z:Bool) (data0:Option Addr) (data0n data0c:Nat) (a1:Int) (b2:Int) (w:World) (Q:KQ) (h:F212z z data0 data0n data0c a1 b2 w Q):Ret prog (nz z 212 236) #[.slice data0 data0n data0c,.int .i64 a1,.int .i64 b2] w Q:=by
 cases z
 ·exact co Tryz.func212 h
 ·exact co Tryz.func236 h
def F213z (z:Bool) (data0:Option Addr) (data0n data0c:Nat) (a1 b2:Int) (w:World) (Q:KQ):Prop :=
 Sh.Loop [.int .i64 (i64.wrap ((i64.wrap (i64.wrap (b2-a1)-1)).tdiv (2:Int)))] w fun e f d=>ui_ f .i64 fun c g=>UnN g (BIf (decide (c≥0)) (A_ prog ((nz z 259 267):Nat) #[Value.slice data0 data0n data0c,.int .i64 c,.int .i64 (i64.wrap (b2-a1)),.int .i64 a1] d fun h i=>I_ h fun j=>UnN j (e [.int .i64 (i64.wrap (c-1))] i)) (Sh.Loop [.int .i64 (i64.wrap (i64.wrap (b2-a1)-1))] d fun k l b=>ui_ l .i64 fun a m=>UnN m (BIf (decide (a≥0)) (NilP data0 fun n=>0≤i64.wrap (a1+a)∧i64.wrap (a1+a)<(↑data0n:Int)∧Ld b.drew (at0 n ((i64.wrap (a1+a)).toNat*1)) fun o=>AsI (kd z) o fun p=>NilP data0 fun r=>0≤a1∧a1<(↑data0n:Int)∧Ld b.drew (at0 r (a1.toNat*1)) fun t=>AsI (kd z) t fun u=>NilP data0 fun v=>0≤a1∧a1<(↑data0n:Int)∧St b.drew (at0 v (a1.toNat*1)) (.int (kd z) p) fun x=>NilP data0 fun y=>0≤i64.wrap (a1+a)∧i64.wrap (a1+a)<(↑data0n:Int)∧St x (at0 y ((i64.wrap (a1+a)).toNat*1)) (.int (kd z) u) fun a0=>A_ prog ((nz z 259 267):Nat) #[Value.slice data0 data0n data0c,.int .i64 0,.int .i64 a,.int .i64 a1] a0 fun a2 a3=>I_ a2 fun a4=>UnN a4 (k [.int .i64 (i64.wrap (a-1))] a3)) (Q (Value.tuple #[]) b))))
theorem F213z_of (z:Bool) (data0:Option Addr) (data0n data0c:Nat) (a1:Int) (b2:Int) (w:World) (Q:KQ) (h:F213z z data0 data0n data0c a1 b2 w Q):Ret prog (nz z 213 237) #[.slice data0 data0n data0c,.int .i64 a1,.int .i64 b2] w Q:=by
 cases z
 ·exact co Tryz.func213 h
 ·exact co Tryz.func237 h
def F214z (z:Bool) (data0:Option Addr) (data0n data0c:Nat) (a1 b2:Int) (w:World) (Q:KQ):Prop :=
 BIf (decide (i64.wrap (b2-a1)≥8)) (New w #[.int .u64 0] 401 fun a1_1 i=>St i a1_1 (.int .u64 (u64.wrap (i64.wrap (b2-a1)))) fun j=>A_ prog 260 #[.int .i64 (i64.wrap (b2-a1))] j fun k l=>AsI .u64 k fun c=>Sh.Loop [.int .i64 (i64.wrap (i64.wrap (a1+i64.wrap (i64.wrap ((i64.wrap (b2-a1)).tdiv (4:Int))*2))-1))] l fun m n f=>ui_ n .i64 fun a o=>UnN o (BIf (decide (a≤i64.wrap (i64.wrap (a1+i64.wrap (i64.wrap ((i64.wrap (b2-a1)).tdiv (4:Int))*2))+1))) (A_ prog 261 #[.pointer (some a1_1)] f fun p g=>AsI .u64 p fun d=>Join (fun r e=>ui_ r .i64 fun b t=>UnN t (NilP data0 fun u=>0≤i64.wrap (a1+b)∧i64.wrap (a1+b)<(↑data0n:Int)∧Ld e.drew (at0 u ((i64.wrap (a1+b)).toNat*1)) fun v=>AsI (kd z) v fun x=>NilP data0 fun y=>0≤a∧a<(↑data0n:Int)∧Ld e.drew (at0 y (a.toNat*1)) fun a0=>AsI (kd z) a0 fun a2=>NilP data0 fun a3=>0≤a∧a<(↑data0n:Int)∧St e.drew (at0 a3 (a.toNat*1)) (.int (kd z) x) fun a4=>NilP data0 fun a5=>0≤i64.wrap (a1+b)∧i64.wrap (a1+b)<(↑data0n:Int)∧St a4 (at0 a5 ((i64.wrap (a1+b)).toNat*1)) (.int (kd z) a2) fun a6=>m [.int .i64 (i64.wrap (a+1))] a6)) fun h=>BIf (decide (i64.wrap (Q_ u64 d (u64.wrap (c-1)))≥i64.wrap (b2-a1))) (h [.int .i64 (i64.wrap (i64.wrap (Q_ u64 d (u64.wrap (c-1)))-i64.wrap (b2-a1)))] g) (h [.int .i64 (i64.wrap (Q_ u64 d (u64.wrap (c-1))))] g)) (Q (Value.tuple #[]) f))) (Q (Value.tuple #[]) w)
theorem F214z_of (z:Bool) (data0:Option Addr) (data0n data0c:Nat) (a1:Int) (b2:Int) (w:World) (Q:KQ) (h:F214z z data0 data0n data0c a1 b2 w Q):Ret prog (nz z 214 238) #[.slice data0 data0n data0c,.int .i64 a1,.int .i64 b2] w Q:=by
 cases z
 ·exact co Tryz.func214 h
 ·exact co Tryz.func238 h
def F215z (z:Bool) (data0:Option Addr) (data0n data0c:Nat) (a1 b2:Int) (w:World) (Q:KQ):Prop :=
 New w #[.int .i64 0] 3 fun a1_1 b=>Join (fun i a=>O_f i fun a5 c a6 j=>UnN j (li_ a a1_1 .i64 fun d=>BIf (d==0) (Q (Value.tuple #[.int .i64 c,.int .i64 1]) a) (BIf (d==12) (Q (Value.tuple #[.int .i64 c,.int .i64 2]) a) (Q (Value.tuple #[.int .i64 c,.int .i64 0]) a)))) fun e=>BIf (decide (i64.wrap (b2-a1)≥8)) (Join (fun k l=>O_f k fun f m g n=>UnN n (A_ prog ((nz z 263 269):Nat) #[Value.slice data0 data0n data0c,.int .i64 g,.int .i64 m,.int .i64 f,.pointer (some a1_1)] l fun o p=>AsI .i64 o fun r=>e [.int .i64 f,.int .i64 r,.int .i64 g] p)) fun h=>BIf (decide (i64.wrap (b2-a1)≥50)) (A_ prog ((nz z 262 268):Nat) #[Value.slice data0 data0n data0c,.int .i64 (i64.wrap (a1+i64.wrap (i64.wrap ((i64.wrap (b2-a1)).tdiv (4:Int))*1))),.pointer (some a1_1)] b fun t u=>AsI .i64 t fun v=>A_ prog ((nz z 262 268):Nat) #[Value.slice data0 data0n data0c,.int .i64 (i64.wrap (a1+i64.wrap (i64.wrap ((i64.wrap (b2-a1)).tdiv (4:Int))*2))),.pointer (some a1_1)] u fun x y=>AsI .i64 x fun a0=>A_ prog ((nz z 262 268):Nat) #[Value.slice data0 data0n data0c,.int .i64 (i64.wrap (a1+i64.wrap (i64.wrap ((i64.wrap (b2-a1)).tdiv (4:Int))*3))),.pointer (some a1_1)] y fun a2 a3=>AsI .i64 a2 fun a4=>h [.int .i64 a4,.int .i64 a0,.int .i64 v] a3) (h [.int .i64 (i64.wrap (a1+i64.wrap (i64.wrap ((i64.wrap (b2-a1)).tdiv (4:Int))*3))),.int .i64 (i64.wrap (a1+i64.wrap (i64.wrap ((i64.wrap (b2-a1)).tdiv (4:Int))*2))),.int .i64 (i64.wrap (a1+i64.wrap (i64.wrap ((i64.wrap (b2-a1)).tdiv (4:Int))*1)))] b)) (e [.int .i64 (i64.wrap (a1+i64.wrap (i64.wrap ((i64.wrap (b2-a1)).tdiv (4:Int))*3))),.int .i64 (i64.wrap (a1+i64.wrap (i64.wrap ((i64.wrap (b2-a1)).tdiv (4:Int))*2))),.int .i64 (i64.wrap (a1+i64.wrap (i64.wrap ((i64.wrap (b2-a1)).tdiv (4:Int))*1)))] b)
theorem F215z_of (z:Bool) (data0:Option Addr) (data0n data0c:Nat) (a1:Int) (b2:Int) (w:World) (Q:KQ) (h:F215z z data0 data0n data0c a1 b2 w Q):Ret prog (nz z 215 239) #[.slice data0 data0n data0c,.int .i64 a1,.int .i64 b2] w Q:=by
 cases z
 ·exact co Tryz.func215 h
 ·exact co Tryz.func239 h
def F216z (z:Bool) (data0:Option Addr) (data0n data0c:Nat) (a1 b2:Int) (w:World) (Q:KQ):Prop :=
 Sh.Loop [.int .i64 (i64.wrap (b2-1)),.int .i64 a1] w fun d e c=>Uii e fun a b f=>UnN f (BIf (decide (b<a)) (NilP data0 fun g=>0≤a∧a<(↑data0n:Int)∧Ld c.drew (at0 g (a.toNat*1)) fun h=>AsI (kd z) h fun i=>NilP data0 fun j=>0≤b∧b<(↑data0n:Int)∧Ld c.drew (at0 j (b.toNat*1)) fun k=>AsI (kd z) k fun l=>NilP data0 fun m=>0≤b∧b<(↑data0n:Int)∧St c.drew (at0 m (b.toNat*1)) (.int (kd z) i) fun n=>NilP data0 fun o=>0≤a∧a<(↑data0n:Int)∧St n (at0 o (a.toNat*1)) (.int (kd z) l) fun p=>d [.int .i64 (i64.wrap (a-1)),.int .i64 (i64.wrap (b+1))] p) (Q (Value.tuple #[]) c))
theorem F216z_of (z:Bool) (data0:Option Addr) (data0n data0c:Nat) (a1:Int) (b2:Int) (w:World) (Q:KQ) (h:F216z z data0 data0n data0c a1 b2 w Q):Ret prog (nz z 216 240) #[.slice data0 data0n data0c,.int .i64 a1,.int .i64 b2] w Q:=by
 cases z
 ·exact co Tryz.func216 h
 ·exact co Tryz.func240 h
def F217z (z:Bool) (data0:Option Addr) (data0n data0c:Nat) (a1 b2:Int) (w:World) (Q:KQ):Prop :=
 Sh.Loop [.int .i64 0,.int .i64 (i64.wrap (a1+1)),.bool false] w fun v x n=>Uiib x fun o y k a0=>UnN a0 (BIf (decide (o<5)) (Join (fun a2 a3=>Uib a2 fun a4 a5 a6=>UnN a6 (v [.int .i64 (i64.wrap (o+1)),.int .i64 a4,.bool a5] a3)) fun l=>Join (fun a7 e=>ui_ a7 .i64 fun a a8=>UnN a8 (BIf (a==b2) (Q (.bool true) e) (BIf (decide (i64.wrap (b2-a1)<50)) (Q (.bool false) e) (NilP data0 fun a9=>0≤i64.wrap (a-1)∧i64.wrap (a-1)<(↑data0n:Int)∧Ld e.drew (at0 a9 ((i64.wrap (a-1)).toNat*1)) fun aa=>AsI (kd z) aa fun ab=>NilP data0 fun ac=>0≤a∧a<(↑data0n:Int)∧Ld e.drew (at0 ac (a.toNat*1)) fun ad=>AsI (kd z) ad fun ae=>NilP data0 fun af=>0≤a∧a<(↑data0n:Int)∧St e.drew (at0 af (a.toNat*1)) (.int (kd z) ab) fun ag=>NilP data0 fun ah=>0≤i64.wrap (a-1)∧i64.wrap (a-1)<(↑data0n:Int)∧St ag (at0 ah ((i64.wrap (a-1)).toNat*1)) (.int (kd z) ae) fun p=>Join (fun ai r=>UnN ai (BIf (decide (i64.wrap (b2-a)≥2)) (Sh.Loop [.int .i64 (i64.wrap (a+1))] r fun aj ak f=>ui_ ak .i64 fun b al=>UnN al (BIf (decide (b<b2)) (NilP data0 fun am=>0≤b∧b<(↑data0n:Int)∧Ld f.drew (at0 am (b.toNat*1)) fun an=>AsI (kd z) an fun ao=>NilP data0 fun ap=>0≤i64.wrap (b-1)∧i64.wrap (b-1)<(↑data0n:Int)∧Ld f.drew (at0 ap ((i64.wrap (b-1)).toNat*1)) fun aq=>AsI (kd z) aq fun ar=>A_ prog ((nz z 218 242):Nat) #[.int (kd z) ao,.int (kd z) ar] f.drew fun au g=>AsB au fun av=>BIf (!av) (l [.int .i64 a,.bool k] g) (NilP data0 fun ax=>0≤i64.wrap (b-1)∧i64.wrap (b-1)<(↑data0n:Int)∧Ld g.drew (at0 ax ((i64.wrap (b-1)).toNat*1)) fun ay=>AsI (kd z) ay fun az=>NilP data0 fun aA=>0≤b∧b<(↑data0n:Int)∧Ld g.drew (at0 aA (b.toNat*1)) fun aB=>AsI (kd z) aB fun aC=>NilP data0 fun aD=>0≤b∧b<(↑data0n:Int)∧St g.drew (at0 aD (b.toNat*1)) (.int (kd z) az) fun aE=>NilP data0 fun aF=>0≤i64.wrap (b-1)∧i64.wrap (b-1)<(↑data0n:Int)∧St aE (at0 aF ((i64.wrap (b-1)).toNat*1)) (.int (kd z) aC) fun aG=>aj [.int .i64 (i64.wrap (b+1))] aG)) (l [.int .i64 a,.bool k] f))) (l [.int .i64 a,.bool k] r))) fun m=>BIf (decide (i64.wrap (a-a1)≥2)) (Sh.Loop [.int .i64 (i64.wrap (a-1))] p fun aH aI h=>ui_ aI .i64 fun c aJ=>UnN aJ (BIf (decide (c≥1)) (NilP data0 fun aK=>0≤c∧c<(↑data0n:Int)∧Ld h.drew (at0 aK (c.toNat*1)) fun aL=>AsI (kd z) aL fun aM=>NilP data0 fun aN=>0≤i64.wrap (c-1)∧i64.wrap (c-1)<(↑data0n:Int)∧Ld h.drew (at0 aN ((i64.wrap (c-1)).toNat*1)) fun aO=>AsI (kd z) aO fun aP=>A_ prog ((nz z 218 242):Nat) #[.int (kd z) aM,.int (kd z) aP] h.drew fun aQ i=>AsB aQ fun aR=>BIf (!aR) (m [] i) (NilP data0 fun aS=>0≤i64.wrap (c-1)∧i64.wrap (c-1)<(↑data0n:Int)∧Ld i.drew (at0 aS ((i64.wrap (c-1)).toNat*1)) fun aT=>AsI (kd z) aT fun aU=>NilP data0 fun aV=>0≤c∧c<(↑data0n:Int)∧Ld i.drew (at0 aV (c.toNat*1)) fun aW=>AsI (kd z) aW fun aX=>NilP data0 fun aY=>0≤c∧c<(↑data0n:Int)∧St i.drew (at0 aY (c.toNat*1)) (.int (kd z) aU) fun aZ=>NilP data0 fun b0=>0≤i64.wrap (c-1)∧i64.wrap (c-1)<(↑data0n:Int)∧St aZ (at0 b0 ((i64.wrap (c-1)).toNat*1)) (.int (kd z) aX) fun b1=>aH [.int .i64 (i64.wrap (c-1))] b1)) (m [] h))) (m [] p))))) fun t=>Sh.Loop [.int .i64 y] n fun b3 b4 j=>ui_ b4 .i64 fun d b5=>UnN b5 (BIf (decide (d<b2)) (NilP data0 fun b6=>0≤d∧d<(↑data0n:Int)∧Ld j.drew (at0 b6 (d.toNat*1)) fun b7=>AsI (kd z) b7 fun b8=>NilP data0 fun b9=>0≤i64.wrap (d-1)∧i64.wrap (d-1)<(↑data0n:Int)∧Ld j.drew (at0 b9 ((i64.wrap (d-1)).toNat*1)) fun ba=>AsI (kd z) ba fun bb=>A_ prog ((nz z 218 242):Nat) #[.int (kd z) b8,.int (kd z) bb] j.drew fun bc u=>AsB bc fun bd=>BIf (!bd) (b3 [.int .i64 (i64.wrap (d+1))] u) (t [.int .i64 d] u)) (t [.int .i64 d] j.drew))) (Q (.bool false) n))
theorem F217z_of (z:Bool) (data0:Option Addr) (data0n data0c:Nat) (a1:Int) (b2:Int) (w:World) (Q:KQ) (h:F217z z data0 data0n data0c a1 b2 w Q):Ret prog (nz z 217 241) #[.slice data0 data0n data0c,.int .i64 a1,.int .i64 b2] w Q:=by
 cases z
 ·exact co Tryz.func217 h
 ·exact co Tryz.func241 h
def F218z (z:Bool) (x0 y1:Int) (w:World) (Q:KQ):Prop :=
 A_ prog ((nz z 233 231):Nat) #[.int (kd z) x0] w fun c a=>AsB c fun d=>BIf d (A_ prog ((nz z 233 231):Nat) #[.int (kd z) y1] a fun e b=>AsB e fun f=>BIf (!f) (Q (.bool true) b) (Q (.bool (decide (x0<y1))) b)) (Q (.bool (decide (x0<y1))) a)
theorem F218z_of (z:Bool) (x0:Int) (y1:Int) (w:World) (Q:KQ) (h:F218z z x0 y1 w Q):Ret prog (nz z 218 242) #[.int (kd z) x0,.int (kd z) y1] w Q:=by
 cases z
 ·exact co Tryz.func218 h
 ·exact co Tryz.func242 h
def F219z (z:Bool) (data0:Option Addr) (data0n data0c:Nat) (a1 b2 pivot3:Int) (w:World) (Q:KQ):Prop :=
 NilP data0 fun a1_1=>0≤pivot3∧pivot3<(↑data0n:Int)∧Ld w.drew (at0 a1_1 (pivot3.toNat*1)) fun m=>AsI (kd z) m fun n=>NilP data0 fun o=>0≤a1∧a1<(↑data0n:Int)∧Ld w.drew (at0 o (a1.toNat*1)) fun p=>AsI (kd z) p fun r=>NilP data0 fun t=>0≤a1∧a1<(↑data0n:Int)∧St w.drew (at0 t (a1.toNat*1)) (.int (kd z) n) fun u=>NilP data0 fun v=>0≤pivot3∧pivot3<(↑data0n:Int)∧St u (at0 v (pivot3.toNat*1)) (.int (kd z) r) fun x=>Sh.Loop [.int .i64 (i64.wrap (b2-1)),.int .i64 (i64.wrap (a1+1))] x fun y a0 a2=>Uii a0 fun h a3 a4=>UnN a4 (Join (fun a5 a6=>ui_ a5 .i64 fun a a7=>UnN a7 (Join (fun a8 e=>ui_ a8 .i64 fun b a9=>UnN a9 (BIf (decide (a>b)) (Q (.int .i64 a) e) (NilP data0 fun aa=>0≤b∧b<(↑data0n:Int)∧Ld e.drew (at0 aa (b.toNat*1)) fun ab=>AsI (kd z) ab fun ac=>NilP data0 fun ad=>0≤a∧a<(↑data0n:Int)∧Ld e.drew (at0 ad (a.toNat*1)) fun ae=>AsI (kd z) ae fun af=>NilP data0 fun ag=>0≤a∧a<(↑data0n:Int)∧St e.drew (at0 ag (a.toNat*1)) (.int (kd z) ac) fun ah=>NilP data0 fun ai=>0≤b∧b<(↑data0n:Int)∧St ah (at0 ai (b.toNat*1)) (.int (kd z) af) fun aj=>y [.int .i64 (i64.wrap (b-1)),.int .i64 (i64.wrap (a+1))] aj))) fun i=>Sh.Loop [.int .i64 h] a6 fun ak al f=>ui_ al .i64 fun c am=>UnN am (BIf (decide (a≤c)) (NilP data0 fun an=>0≤a1∧a1<(↑data0n:Int)∧Ld f.drew (at0 an (a1.toNat*1)) fun ao=>AsI (kd z) ao fun ap=>NilP data0 fun aq=>0≤c∧c<(↑data0n:Int)∧Ld f.drew (at0 aq (c.toNat*1)) fun ar=>AsI (kd z) ar fun au=>A_ prog ((nz z 218 242):Nat) #[.int (kd z) ap,.int (kd z) au] f.drew fun av j=>AsB av fun ax=>BIf ax (ak [.int .i64 (i64.wrap (c-1))] j) (i [.int .i64 c] j)) (i [.int .i64 c] f.drew)))) fun k=>Sh.Loop [.int .i64 a3] a2 fun ay az g=>ui_ az .i64 fun d aA=>UnN aA (BIf (decide (d≤h)) (NilP data0 fun aB=>0≤a1∧a1<(↑data0n:Int)∧Ld g.drew (at0 aB (a1.toNat*1)) fun aC=>AsI (kd z) aC fun aD=>NilP data0 fun aE=>0≤d∧d<(↑data0n:Int)∧Ld g.drew (at0 aE (d.toNat*1)) fun aF=>AsI (kd z) aF fun aG=>A_ prog ((nz z 218 242):Nat) #[.int (kd z) aD,.int (kd z) aG] g.drew fun aH l=>AsB aH fun aI=>BIf (!aI) (ay [.int .i64 (i64.wrap (d+1))] l) (k [.int .i64 d] l)) (k [.int .i64 d] g.drew)))
theorem F219z_of (z:Bool) (data0:Option Addr) (data0n data0c:Nat) (a1:Int) (b2:Int) (pivot3:Int) (w:World) (Q:KQ) (h:F219z z data0 data0n data0c a1 b2 pivot3 w Q):Ret prog (nz z 219 243) #[.slice data0 data0n data0c,.int .i64 a1,.int .i64 b2,.int .i64 pivot3] w Q:=by
 cases z
 ·exact co Tryz.func219 h
 ·exact co Tryz.func243 h
def F220z (z:Bool) (data0:Option Addr) (data0n data0c:Nat) (a1 b2 pivot3:Int) (w:World) (Q:KQ):Prop :=
 NilP data0 fun a1_1=>0≤pivot3∧pivot3<(↑data0n:Int)∧Ld w.drew (at0 a1_1 (pivot3.toNat*1)) fun a2=>AsI (kd z) a2 fun a3=>NilP data0 fun a4=>0≤a1∧a1<(↑data0n:Int)∧Ld w.drew (at0 a4 (a1.toNat*1)) fun a5=>AsI (kd z) a5 fun a6=>NilP data0 fun a7=>0≤a1∧a1<(↑data0n:Int)∧St w.drew (at0 a7 (a1.toNat*1)) (.int (kd z) a3) fun a8=>NilP data0 fun a9=>0≤pivot3∧pivot3<(↑data0n:Int)∧St a8 (at0 a9 (pivot3.toNat*1)) (.int (kd z) a6) fun aa=>Join (fun ab ac=>ui_ ab .i64 fun c ad=>UnN ad (Join (fun ae i=>ui_ ae .i64 fun a af=>UnN af (BIf (decide (c>a)) (NilP data0 fun ag=>0≤a1∧a1<(↑data0n:Int)∧Ld i.drew (at0 ag (a1.toNat*1)) fun ah=>AsI (kd z) ah fun ai=>NilP data0 fun aj=>0≤a∧a<(↑data0n:Int)∧Ld i.drew (at0 aj (a.toNat*1)) fun ak=>AsI (kd z) ak fun al=>NilP data0 fun am=>0≤a∧a<(↑data0n:Int)∧St i.drew (at0 am (a.toNat*1)) (.int (kd z) ai) fun an=>NilP data0 fun ao=>0≤a1∧a1<(↑data0n:Int)∧St an (at0 ao (a1.toNat*1)) (.int (kd z) al) fun ap=>Q (Value.tuple #[.int .i64 a,.bool true]) ap) (NilP data0 fun aq=>0≤a∧a<(↑data0n:Int)∧Ld i.drew (at0 aq (a.toNat*1)) fun ar=>AsI (kd z) ar fun au=>NilP data0 fun av=>0≤c∧c<(↑data0n:Int)∧Ld i.drew (at0 av (c.toNat*1)) fun ax=>AsI (kd z) ax fun ay=>NilP data0 fun az=>0≤c∧c<(↑data0n:Int)∧St i.drew (at0 az (c.toNat*1)) (.int (kd z) au) fun aA=>NilP data0 fun aB=>0≤a∧a<(↑data0n:Int)∧St aA (at0 aB (a.toNat*1)) (.int (kd z) ay) fun aC=>Sh.Loop [.int .i64 (i64.wrap (a-1)),.int .i64 (i64.wrap (c+1))] aC fun aD aE aF=>Uii aE fun o aG aH=>UnN aH (Join (fun aI aJ=>ui_ aI .i64 fun d aK=>UnN aK (Join (fun aL j=>ui_ aL .i64 fun b aM=>UnN aM (BIf (decide (d>b)) (NilP data0 fun aN=>0≤a1∧a1<(↑data0n:Int)∧Ld j.drew (at0 aN (a1.toNat*1)) fun aO=>AsI (kd z) aO fun aP=>NilP data0 fun aQ=>0≤b∧b<(↑data0n:Int)∧Ld j.drew (at0 aQ (b.toNat*1)) fun aR=>AsI (kd z) aR fun aS=>NilP data0 fun aT=>0≤b∧b<(↑data0n:Int)∧St j.drew (at0 aT (b.toNat*1)) (.int (kd z) aP) fun aU=>NilP data0 fun aV=>0≤a1∧a1<(↑data0n:Int)∧St aU (at0 aV (a1.toNat*1)) (.int (kd z) aS) fun aW=>Q (Value.tuple #[.int .i64 b,.bool false]) aW) (NilP data0 fun aX=>0≤b∧b<(↑data0n:Int)∧Ld j.drew (at0 aX (b.toNat*1)) fun aY=>AsI (kd z) aY fun aZ=>NilP data0 fun b0=>0≤d∧d<(↑data0n:Int)∧Ld j.drew (at0 b0 (d.toNat*1)) fun b1=>AsI (kd z) b1 fun b3=>NilP data0 fun b4=>0≤d∧d<(↑data0n:Int)∧St j.drew (at0 b4 (d.toNat*1)) (.int (kd z) aZ) fun b5=>NilP data0 fun b6=>0≤b∧b<(↑data0n:Int)∧St b5 (at0 b6 (b.toNat*1)) (.int (kd z) b3) fun b7=>aD [.int .i64 (i64.wrap (b-1)),.int .i64 (i64.wrap (d+1))] b7))) fun p=>Sh.Loop [.int .i64 o] aJ fun b8 b9 k=>ui_ b9 .i64 fun e ba=>UnN ba (BIf (decide (d≤e)) (NilP data0 fun bb=>0≤e∧e<(↑data0n:Int)∧Ld k.drew (at0 bb (e.toNat*1)) fun bc=>AsI (kd z) bc fun bd=>NilP data0 fun be=>0≤a1∧a1<(↑data0n:Int)∧Ld k.drew (at0 be (a1.toNat*1)) fun bf=>AsI (kd z) bf fun bg=>A_ prog ((nz z 218 242):Nat) #[.int (kd z) bd,.int (kd z) bg] k.drew fun bh r=>AsB bh fun bi=>BIf (!bi) (b8 [.int .i64 (i64.wrap (e-1))] r) (p [.int .i64 e] r)) (p [.int .i64 e] k.drew)))) fun t=>Sh.Loop [.int .i64 aG] aF fun bj bk l=>ui_ bk .i64 fun f bl=>UnN bl (BIf (decide (f≤o)) (NilP data0 fun bm=>0≤f∧f<(↑data0n:Int)∧Ld l.drew (at0 bm (f.toNat*1)) fun bn=>AsI (kd z) bn fun bo=>NilP data0 fun bp=>0≤a1∧a1<(↑data0n:Int)∧Ld l.drew (at0 bp (a1.toNat*1)) fun bq=>AsI (kd z) bq fun br=>A_ prog ((nz z 218 242):Nat) #[.int (kd z) bo,.int (kd z) br] l.drew fun bs u=>AsB bs fun bt=>BIf bt (bj [.int .i64 (i64.wrap (f+1))] u) (t [.int .i64 f] u)) (t [.int .i64 f] l.drew)))))) fun v=>Sh.Loop [.int .i64 (i64.wrap (b2-1))] ac fun bu bv m=>ui_ bv .i64 fun g bx=>UnN bx (BIf (decide (c≤g)) (NilP data0 fun bz=>0≤g∧g<(↑data0n:Int)∧Ld m.drew (at0 bz (g.toNat*1)) fun bA=>AsI (kd z) bA fun bB=>NilP data0 fun bC=>0≤a1∧a1<(↑data0n:Int)∧Ld m.drew (at0 bC (a1.toNat*1)) fun bD=>AsI (kd z) bD fun bE=>A_ prog ((nz z 218 242):Nat) #[.int (kd z) bB,.int (kd z) bE] m.drew fun bF x=>AsB bF fun bG=>BIf (!bG) (bu [.int .i64 (i64.wrap (g-1))] x) (v [.int .i64 g] x)) (v [.int .i64 g] m.drew)))) fun y=>Sh.Loop [.int .i64 (i64.wrap (a1+1))] aa fun bH bI n=>ui_ bI .i64 fun h bJ=>UnN bJ (BIf (decide (h≤i64.wrap (b2-1))) (NilP data0 fun bK=>0≤h∧h<(↑data0n:Int)∧Ld n.drew (at0 bK (h.toNat*1)) fun bL=>AsI (kd z) bL fun bM=>NilP data0 fun bN=>0≤a1∧a1<(↑data0n:Int)∧Ld n.drew (at0 bN (a1.toNat*1)) fun bO=>AsI (kd z) bO fun bP=>A_ prog ((nz z 218 242):Nat) #[.int (kd z) bM,.int (kd z) bP] n.drew fun bQ a0=>AsB bQ fun bR=>BIf bR (bH [.int .i64 (i64.wrap (h+1))] a0) (y [.int .i64 h] a0)) (y [.int .i64 h] n.drew))
theorem F220z_of (z:Bool) (data0:Option Addr) (data0n data0c:Nat) (a1:Int) (b2:Int) (pivot3:Int) (w:World) (Q:KQ) (h:F220z z data0 data0n data0c a1 b2 pivot3 w Q):Ret prog (nz z 220 244) #[.slice data0 data0n data0c,.int .i64 a1,.int .i64 b2,.int .i64 pivot3] w Q:=by
 cases z
 ·exact co Tryz.func220 h
 ·exact co Tryz.func244 h
def F233z (z:Bool) (x0:Int) (w:World) (Q:KQ):Prop :=
 Q (.bool (x0 != x0)) w
theorem F233z_of (z:Bool) (x0:Int) (w:World) (Q:KQ) (h:F233z z x0 w Q):Ret prog (nz z 233 231) #[.int (kd z) x0] w Q:=by
 cases z
 ·exact co Tryz.func233 h
 ·exact co Tryz.func231 h
def F259z (z:Bool) (data0:Option Addr) (data0n data0c:Nat) (lo1 hi2 first3:Int) (w:World) (Q:KQ):Prop :=
 Sh.Loop [.int .i64 lo1] w fun h i c=>ui_ i .i64 fun a j=>UnN j (BIf (decide (i64.wrap (i64.wrap ((2:Int)*a)+1)≥hi2)) (Q (Value.tuple #[]) c) (Join (fun k e=>ui_ k .i64 fun b l=>UnN l (NilP data0 fun m=>0≤i64.wrap (first3+a)∧i64.wrap (first3+a)<(↑data0n:Int)∧Ld e.drew (at0 m ((i64.wrap (first3+a)).toNat*1)) fun n=>AsI (kd z) n fun o=>NilP data0 fun p=>0≤i64.wrap (first3+b)∧i64.wrap (first3+b)<(↑data0n:Int)∧Ld e.drew (at0 p ((i64.wrap (first3+b)).toNat*1)) fun r=>AsI (kd z) r fun t=>A_ prog ((nz z 218 242):Nat) #[.int (kd z) o,.int (kd z) t] e.drew fun u d=>AsB u fun v=>BIf (!v) (Q (Value.tuple #[]) d) (NilP data0 fun x=>0≤i64.wrap (first3+b)∧i64.wrap (first3+b)<(↑data0n:Int)∧Ld d.drew (at0 x ((i64.wrap (first3+b)).toNat*1)) fun y=>AsI (kd z) y fun a0=>NilP data0 fun a1=>0≤i64.wrap (first3+a)∧i64.wrap (first3+a)<(↑data0n:Int)∧Ld d.drew (at0 a1 ((i64.wrap (first3+a)).toNat*1)) fun a2=>AsI (kd z) a2 fun a3=>NilP data0 fun a4=>0≤i64.wrap (first3+a)∧i64.wrap (first3+a)<(↑data0n:Int)∧St d.drew (at0 a4 ((i64.wrap (first3+a)).toNat*1)) (.int (kd z) a0) fun a5=>NilP data0 fun a6=>0≤i64.wrap (first3+b)∧i64.wrap (first3+b)<(↑data0n:Int)∧St a5 (at0 a6 ((i64.wrap (first3+b)).toNat*1)) (.int (kd z) a3) fun a7=>h [.int .i64 b] a7))) fun f=>BIf (decide (i64.wrap (i64.wrap (i64.wrap ((2:Int)*a)+1)+1)<hi2)) (NilP data0 fun a8=>0≤i64.wrap (first3+i64.wrap (i64.wrap ((2:Int)*a)+1))∧i64.wrap (first3+i64.wrap (i64.wrap ((2:Int)*a)+1))<(↑data0n:Int)∧Ld c.drew (at0 a8 ((i64.wrap (first3+i64.wrap (i64.wrap ((2:Int)*a)+1))).toNat*1)) fun a9=>AsI (kd z) a9 fun aa=>NilP data0 fun ab=>0≤i64.wrap (i64.wrap (first3+i64.wrap (i64.wrap ((2:Int)*a)+1))+1)∧i64.wrap (i64.wrap (first3+i64.wrap (i64.wrap ((2:Int)*a)+1))+1)<(↑data0n:Int)∧Ld c.drew (at0 ab ((i64.wrap (i64.wrap (first3+i64.wrap (i64.wrap ((2:Int)*a)+1))+1)).toNat*1)) fun ac=>AsI (kd z) ac fun ad=>A_ prog ((nz z 218 242):Nat) #[.int (kd z) aa,.int (kd z) ad] c.drew fun ae g=>AsB ae fun af=>BIf af (f [.int .i64 (i64.wrap (i64.wrap (i64.wrap ((2:Int)*a)+1)+1))] g) (f [.int .i64 (i64.wrap (i64.wrap ((2:Int)*a)+1))] g)) (f [.int .i64 (i64.wrap (i64.wrap ((2:Int)*a)+1))] c.drew)))
theorem F259z_of (z:Bool) (data0:Option Addr) (data0n data0c:Nat) (lo1:Int) (hi2:Int) (first3:Int) (w:World) (Q:KQ) (h:F259z z data0 data0n data0c lo1 hi2 first3 w Q):Ret prog (nz z 259 267) #[.slice data0 data0n data0c,.int .i64 lo1,.int .i64 hi2,.int .i64 first3] w Q:=by
 cases z
 ·exact co Tryz.func259 h
 ·exact co Tryz.func267 h
def F262z (z:Bool) (data0:Option Addr) (data0n data0c:Nat) (a1:Int) (swaps2:Addr) (w:World) (Q:KQ):Prop :=
 A_ prog ((nz z 263 269):Nat) #[Value.slice data0 data0n data0c,.int .i64 (i64.wrap (a1-1)),.int .i64 a1,.int .i64 (i64.wrap (a1+1)),.pointer (some swaps2)] w fun a b=>AsI .i64 a fun c=>Q (.int .i64 c) b
theorem F262z_of (z:Bool) (data0:Option Addr) (data0n data0c:Nat) (a1:Int) (swaps2:Addr) (w:World) (Q:KQ) (h:F262z z data0 data0n data0c a1 swaps2 w Q):Ret prog (nz z 262 268) #[.slice data0 data0n data0c,.int .i64 a1,.pointer (some swaps2)] w Q:=by
 cases z
 ·exact co Tryz.func262 h
 ·exact co Tryz.func268 h
def F263z (z:Bool) (data0:Option Addr) (data0n data0c:Nat) (a1 b2 c3:Int) (swaps4:Addr) (w:World) (Q:KQ):Prop :=
 A_ prog ((nz z 284 286):Nat) #[Value.slice data0 data0n data0c,.int .i64 a1,.int .i64 b2,.pointer (some swaps4)] w fun a b=>I_ a fun c=>Uii c fun d e f=>UnN f (A_ prog ((nz z 284 286):Nat) #[Value.slice data0 data0n data0c,.int .i64 e,.int .i64 c3,.pointer (some swaps4)] b fun g h=>I_ g fun i=>Uii i fun j r k=>UnN k (A_ prog ((nz z 284 286):Nat) #[Value.slice data0 data0n data0c,.int .i64 d,.int .i64 j,.pointer (some swaps4)] h fun l m=>I_ l fun n=>Uii n fun t o p=>UnN p (Q (.int .i64 o) m)))
theorem F263z_of (z:Bool) (data0:Option Addr) (data0n data0c:Nat) (a1:Int) (b2:Int) (c3:Int) (swaps4:Addr) (w:World) (Q:KQ) (h:F263z z data0 data0n data0c a1 b2 c3 swaps4 w Q):Ret prog (nz z 263 269) #[.slice data0 data0n data0c,.int .i64 a1,.int .i64 b2,.int .i64 c3,.pointer (some swaps4)] w Q:=by
 cases z
 ·exact co Tryz.func263 h
 ·exact co Tryz.func269 h
def F284z (z:Bool) (data0:Option Addr) (data0n data0c:Nat) (a1 b2:Int) (swaps3:Addr) (w:World) (Q:KQ):Prop :=
 NilP data0 fun a1_1=>0≤b2∧b2<(↑data0n:Int)∧Ld w.drew (at0 a1_1 (b2.toNat*1)) fun b=>AsI (kd z) b fun c=>NilP data0 fun d=>0≤a1∧a1<(↑data0n:Int)∧Ld w.drew (at0 d (a1.toNat*1)) fun e=>AsI (kd z) e fun f=>A_ prog ((nz z 218 242):Nat) #[.int (kd z) c,.int (kd z) f] w.drew fun g a=>AsB g fun h=>BIf h (li_ a swaps3 .i64 fun i=>St a swaps3 (.int .i64 (i64.wrap (i+1))) fun j=>Q (Value.tuple #[.int .i64 b2,.int .i64 a1]) j) (Q (Value.tuple #[.int .i64 a1,.int .i64 b2]) a)
theorem F284z_of (z:Bool) (data0:Option Addr) (data0n data0c:Nat) (a1:Int) (b2:Int) (swaps3:Addr) (w:World) (Q:KQ) (h:F284z z data0 data0n data0c a1 b2 swaps3 w Q):Ret prog (nz z 284 286) #[.slice data0 data0n data0c,.int .i64 a1,.int .i64 b2,.pointer (some swaps3)] w Q:=by
 cases z
 ·exact co Tryz.func284 h
 ·exact co Tryz.func286 h
def F9 (w0c0 w0c1 w0c2 w0c3 w0c4 w0c5 w0c6 w0c7 w0c8 places1:Int) (w:World) (Q:KQ):Prop :=
 New w #[.int .i64 w0c0,.int .i64 w0c1,.int .i64 w0c2,.int .i64 w0c3,.int .i64 w0c4,.int .i64 w0c5,.int .i64 w0c6,.int .i64 w0c7,.int .i64 w0c8] 25 fun f g=>li_ g (at0 f 7) .i64 fun l=>A_ prog 37 #[.int .i64 l,.int .i64 7] g fun m n=>AsI .i64 m fun h=>A_ prog 37 #[.int .i64 places1,.int .i64 4] n fun o p=>AsI .i64 o fun b=>A_ prog 37 #[.int .i64 (i64.wrap ((1:Int)+b)),.int .i64 3] p fun r t=>AsI .i64 r fun u=>A_ prog 38 #[Value.agg #[.int .i64 256,.int .i64 (i64.wrap ((1:Int)+b)),.int .i64 (i64.wrap ((1:Int)+u)),.int .i64 (i64.wrap ((1:Int)+b)),.int .i64 0,.int .i64 0]] t fun v i=>I_ v fun x=>Upi x fun c y z=>UnN z (li_ i (at0 f 8) .i64 fun a0=>A_ prog 37 #[.int .i64 a0,.int .i64 248] i fun a1 a2=>AsI .i64 a1 fun a3=>A_ prog 39 #[.int .i64 8,.int .i64 (i64.wrap ((1:Int)+a3))] a2 fun a4 a5=>I_ a4 fun a6=>Upi a6 fun d a7 a8=>UnN a8 (A_ prog 17 #[.int .i64 y] a5 fun a9 j=>AsI .i64 a9 fun aa=>BIf (aa != 0) (Q (.pointer none) j) (A_ prog 17 #[.int .i64 a7] j fun ab a=>AsI .i64 ab fun ac=>BIf (ac != 0) (Q (.pointer none) a) (BIf c.isNone (Q (.pointer none) a) (BIf d.isNone (Q (.pointer none) a) (A_ prog 40 #[.pointer c,.pointer d,.int .i64 (i64.wrap ((1:Int)+h))] a fun ad ae=>I_ ad fun af=>Upi af fun k ag ah=>UnN ah (A_ prog 17 #[.int .i64 ag] ae fun ai e=>AsI .i64 ai fun aj=>BIf (aj != 0) (Q (.pointer none) e) (BIf k.isNone (Q (.pointer none) e) (New e #[.pointer c,.pointer d,.pointer k,.int .i64 (i64.wrap ((1:Int)+h)),Value.slice none (0:Nat) (0:Nat)] 49 fun ak al=>Q (.pointer (some ak)) al)))))))))
theorem F9_of {w0c0 w0c1 w0c2 w0c3 w0c4 w0c5 w0c6 w0c7 w0c8 places1 w Q} (h:F9 w0c0 w0c1 w0c2 w0c3 w0c4 w0c5 w0c6 w0c7 w0c8 places1 w Q):Ret prog 9 #[.agg #[.int .i64 w0c0,.int .i64 w0c1,.int .i64 w0c2,.int .i64 w0c3,.int .i64 w0c4,.int .i64 w0c5,.int .i64 w0c6,.int .i64 w0c7,.int .i64 w0c8],.int .i64 places1] w Q:=co Tryz.func9 h
def F10  (w:World) (Q:KQ):Prop :=
 A_ prog 38 #[Value.agg #[.int .i64 256,.int .i64 2,.int .i64 2,.int .i64 2,.int .i64 0,.int .i64 0]] w fun a4 a5=>I_ a4 fun a6=>Upi a6 fun d a7 a8=>UnN a8 (A_ prog 39 #[.int .i64 8,.int .i64 248] a5 fun a9 aa=>I_ a9 fun ab=>Upi ab fun h ac ad=>UnN ad (A_ prog 17 #[.int .i64 a7] aa fun ae m=>AsI .i64 ae fun af=>BIf (af != 0) (Q (.bool false) m) (A_ prog 17 #[.int .i64 ac] m fun ag e=>AsI .i64 ag fun ah=>BIf (ah != 0) (Q (.bool false) e) (BIf d.isNone (Q (.bool false) e) (BIf h.isNone (Q (.bool false) e) (A_ prog 40 #[.pointer d,.pointer h,.int .i64 2] e fun ai aj=>I_ ai fun ak=>Upi ak fun a al am=>UnN am (A_ prog 17 #[.int .i64 al] aj fun an i=>AsI .i64 an fun ao=>BIf (ao != 0) (Q (.bool false) i) (BIf a.isNone (Q (.bool false) i) (A_ prog 41 #[.pointer a] i fun ap aq=>I_ ap fun ar=>Uvi ar fun b au av=>UnN av (A_ prog 17 #[.int .i64 au] aq fun ax j=>AsI .i64 ax fun ay=>BIf (ay != 0) (Q (.bool false) j) (BIf (b != 32768) (Q (.bool false) j) (A_ prog 42 #[.int .u32 4096,.int .u64 131072] j fun az aA=>V_ az fun aB=>a_ aB fun aC aD aE aF aG aH aI aJ aK=>UnN aK (RunV prog (Instr.buildSlice 33 1 #[(0,Value.agg #[.int .i64 aC,.int .u32 aD,.int .u64 aE,.int .i64 aF,.int .i64 aG,.int .u32 aH,.bool aI,.bool aJ])]) aA fun aL aM=>t_ aL fun aN aO aP=>A_ prog 24 #[.pointer a,.int .u64 b,Value.slice aN aO aP] aM fun aQ aR=>AsI .i64 aQ fun aS=>A_ prog 17 #[.int .i64 aS] aR fun aT n=>AsI .i64 aT fun aU=>BIf (aU != 0) (Q (.bool false) n) (A_ prog 42 #[.int .u32 4096,.int .u64 196608] n fun aV aW=>V_ aV fun aX=>a_ aX fun aY aZ b0 b1 b2 b3 b4 b5 b6=>UnN b6 (RunV prog (Instr.buildSlice 33 1 #[(0,Value.agg #[.int .i64 aY,.int .u32 aZ,.int .u64 b0,.int .i64 b1,.int .i64 b2,.int .u32 b3,.bool b4,.bool b5])]) aW fun b7 b8=>t_ b7 fun b9 ba bb=>A_ prog 24 #[.pointer a,.int .u64 b,Value.slice b9 ba bb] b8 fun bc bd=>AsI .i64 bc fun be=>A_ prog 17 #[.int .i64 be] bd fun bf o=>AsI .i64 bf fun bg=>BIf (bg != 141) (Q (.bool false) o) (A_ prog 36 #[.pointer d,.int .u64 36868] o fun bh bi=>I_ bh fun bj=>Uui bj fun bk cj bl=>UnN bl (A_ prog 43 #[.pointer a,.int .u64 b,.int .u32 8191] bi fun bm bn=>I_ bm fun bo=>UnC bo fun bp bq=>V_ bp fun br=>a_ br fun bs bt bu bv bx bz bA bB bC=>UnN bC (ub_ bq fun bD bE=>UnN bE (New bn #[.int .i64 0,.int .u32 0,.int .u64 0,.int .i64 0,.int .i64 0,.int .u32 0,.bool false,.bool false] 57 fun k bF=>S_8 bF k (.int .i64 bs) (.int .u32 bt) (.int .u64 bu) (.int .i64 bv) (.int .i64 bx) (.int .u32 bz) (.bool bA) (.bool bB) fun f=>BIf (bk != 133246) (Q (.bool false) f.drew) (BIf (!bD) (Q (.bool false) f.drew) (B_ f.drew k fun p r t u v x y z=>A_ prog 42 #[.int .u32 4096,.int .u64 131072] f.drew fun bG g=>V_ bG fun bH=>a_ bH fun bI bJ bK bL bM bN bO bP bQ=>UnN bQ ((C_8 g k (.int .i64 p) (.int .u32 r) (.int .u64 t) (.int .i64 u) (.int .i64 v) (.int .u32 x) (.bool y) (.bool z) <| tt g)∧RunP prog (v_ BinOp.neq 57 (Operand.tmp 100) (Operand.tmp 101) (Value.agg #[.int .i64 p,.int .u32 r,.int .u64 t,.int .i64 u,.int .i64 v,.int .u32 x,.bool y,.bool z]) (Value.agg #[.int .i64 bI,.int .u32 bJ,.int .u64 bK,.int .i64 bL,.int .i64 bM,.int .u32 bN,.bool bO,.bool bP])) fun bR=>AsB bR fun bS=>BIf bS (Q (.bool false) g) (RunV prog (Instr.buildSlice 34 1 #[(0,.int .u32 6844)]) g fun bT bU=>t_ bT fun bV bW bX=>A_ prog 44 #[.pointer a,.int .u64 b,.int .i64 3,Value.slice bV bW bX] bU fun bY bZ=>AsI .i64 bY fun c0=>A_ prog 17 #[.int .i64 c0] bZ fun c1 a0=>AsI .i64 c1 fun c2=>BIf (c2 != 0) (Q (.bool false) a0) (A_ prog 27 #[.pointer d] a0 fun c3 c=>t_ c3 fun a1 l ck=>BIf ((↑l:Int)==7) (NilP a1 fun c4=>(0:Int)≤5∧(5:Int)<(↑l:Int)∧li_ c (at0 (at0 c4 20) 0) .i64 fun c5=>BIf (c5==3) (NilP a1 fun c6=>(0:Int)≤5∧(5:Int)<(↑l:Int)∧li_ c (at0 (at0 c6 20) 2) .u32 fun c7=>BIf (c7==4099) (A_ prog 22 #[.pointer a] c fun c8 a2=>t_ c8 fun cl c9 cm=>BIf ((↑c9:Int)==0) (A_ prog 18 #[.pointer a,.int .u64 b] a2 fun ca cb=>AsI .i64 ca fun cc=>A_ prog 17 #[.int .i64 cc] cb fun cd a3=>AsI .i64 cd fun cf=>BIf (cf==0) (A_ prog 20 #[.pointer h] a3 fun cg ch=>AsI .i64 cg fun ci=>Q (.bool (ci==248)) ch) (Q (.bool false) a3)) (Q (.bool false) a2)) (Q (.bool false) c)) (Q (.bool false) c)) (Q (.bool false) c)))))))))))))))))))))))))
theorem F10_of  (w:World) (Q:KQ) (h:F10  w Q):Ret prog 10 #[] w Q:=co Tryz.func10 h
def F11 (d0:Addr) (o1c0 o1c1 o1c2:Int) (o1c3:Option Addr) (o1c3n o1c3c:Nat) (o1c4:Option Addr) (o1c4n o1c4c:Nat) (o1c5 o1c6:Int) (o1c7 o1c8:Bool) (o1c9:Option Addr) (o1c9n o1c9c:Nat) (o1c10 o1c11 o1c12 o1c13:Int) (o1c14:Bool) (o1c15 o1c16:Int) (w:World) (Q:KQ):Prop :=
 New w #[.int .i64 o1c0,.int .i64 o1c1,.int .i64 o1c2,Value.slice o1c3 o1c3n o1c3c,Value.slice o1c4 o1c4n o1c4c,.int .i64 o1c5,.int .u32 o1c6,.bool o1c7,.bool o1c8,Value.slice o1c9 o1c9n o1c9c,.int .i64 o1c10,.int .u32 o1c11,.int .i64 o1c12,.int .u32 o1c13,.bool o1c14,.int .i64 o1c15,.int .i64 o1c16] 42 fun b m=>lp_ m.drew (at0 d0 2) fun a4=>li_ m.drew (at0 b 1) .i64 fun u=>A_ prog 12 #[.pointer a4] m.drew fun a5 v=>t_ a5 fun a6 a7 a8=>ce_ v (at0 b 1) (.int .i64 u)∧A_ prog 23 #[Value.slice a6 a7 a8,.int .i64 u] v fun a9 a=>AsI .u64 a9 fun e=>li_ a (at0 b 0) .i64 fun d=>BIf (d==1) (lp_ a (at0 d0 2) fun aa=>A_ prog 41 #[.pointer aa] a fun ab ac=>I_ ab fun ad=>Uvi ad fun ae af ag=>UnN ag (A_ prog 17 #[.int .i64 af] ac fun ah ai=>AsI .i64 ah fun aj=>Q (Value.tuple #[.int .u64 ae,.int .i64 aj]) ai)) (BIf (d==2) (lp_ a (at0 d0 2) fun ak=>A_ prog 18 #[.pointer ak,.int .u64 e] a fun al am=>AsI .i64 al fun an=>A_ prog 17 #[.int .i64 an] am fun ao ap=>AsI .i64 ao fun aq=>Q (Value.tuple #[.int .u64 0,.int .i64 aq]) ap) (BIf (d==3) (lp_ a.drew (at0 d0 2) fun ar=>ls_ a.drew (at0 b 3) fun au av ax=>A_ prog 24 #[.pointer ar,.int .u64 e,Value.slice au av ax] a.drew fun ay az=>AsI .i64 ay fun aA=>A_ prog 17 #[.int .i64 aA] az fun aB aC=>AsI .i64 aB fun aD=>Q (Value.tuple #[.int .u64 0,.int .i64 aD]) aC) (BIf (d==4) (lp_ a.drew (at0 d0 2) fun aE=>ls_ a.drew (at0 b 3) fun aF aG aH=>A_ prog 29 #[.pointer aE,.int .u64 e,Value.slice aF aG aH] a.drew fun aI aJ=>AsI .i64 aI fun aK=>A_ prog 17 #[.int .i64 aK] aJ fun aL aM=>AsI .i64 aL fun aN=>Q (Value.tuple #[.int .u64 0,.int .i64 aN]) aM) (BIf (d==5) (lp_ a.drew (at0 d0 2) fun aO=>li_ a.drew (at0 b 2) .i64 fun aP=>ls_ a.drew (at0 b 4) fun aQ aR aS=>A_ prog 44 #[.pointer aO,.int .u64 e,.int .i64 aP,Value.slice aQ aR aS] a.drew fun aT aU=>AsI .i64 aT fun aV=>A_ prog 17 #[.int .i64 aV] aU fun aW aX=>AsI .i64 aW fun aY=>Q (Value.tuple #[.int .u64 0,.int .i64 aY]) aX) (BIf (d==6) (lp_ a.drew (at0 d0 2) fun aZ=>li_ a.drew (at0 b 2) .i64 fun b0=>t_a a.drew (at0 b 5) fun b1 b2 b3 b4=>ls_ a.drew (at0 b 4) fun b5 b6 b7=>A_ prog 45 #[.pointer aZ,.int .u64 e,.int .i64 b0,Value.agg #[.int .i64 b1,.int .u32 b2,.bool b3,.bool b4],Value.slice b5 b6 b7] a.drew fun b8 b9=>AsI .i64 b8 fun ba=>A_ prog 17 #[.int .i64 ba] b9 fun bb bc=>AsI .i64 bb fun bd=>Q (Value.tuple #[.int .u64 0,.int .i64 bd]) bc) (BIf (d==7) (lp_ a.drew (at0 d0 2) fun be=>li_ a.drew (at0 b 2) .i64 fun bf=>A_ prog 19 #[.pointer be,.int .u64 e,.int .i64 bf] a.drew fun bg bh=>AsI .i64 bg fun bi=>A_ prog 17 #[.int .i64 bi] bh fun bj bk=>AsI .i64 bj fun bl=>Q (Value.tuple #[.int .u64 0,.int .i64 bl]) bk) (BIf (d==12) (lp_ a.drew (at0 d0 1) fun bm=>li_ a.drew (at0 b 15) .i64 fun bn=>li_ a.drew (at0 b 16) .i64 fun bo=>A_ prog 46 #[.pointer bm,.int .i64 bn,.int .i64 bo] a.drew fun bp bq=>I_ bp fun br=>Uii br fun n o bs=>UnN bs (A_ prog 17 #[.int .i64 o] bq fun bt f=>AsI .i64 bt fun bu=>BIf (bu==0) (ls_ f.drew (at0 d0 4) fun x y z=>li_ f.drew (at0 b 15) .i64 fun bv=>RunV prog (Instr.buildSlice 47 1 #[(0,Value.agg #[.int .i64 n,.int .i64 bv])]) f.drew fun bx a0=>t_ bx fun bz bA bB=>ce_ a0 (at0 d0 4) (Value.slice x y z)∧RunV prog (Builtin.append_ #[(47:Nat),(47:Nat)] (47:Nat) #[Value.slice x y z,Value.slice bz bA bB]) a0 fun bC bD=>t_ bC fun bE bF bG=>St bD (at0 d0 4) (Value.slice bE bF bG) fun bH=>A_ prog 17 #[.int .i64 o] bH fun bI bJ=>AsI .i64 bI fun bK=>Q (Value.tuple #[.int .u64 (u64.wrap n),.int .i64 bK]) bJ) (A_ prog 17 #[.int .i64 o] f fun bL bM=>AsI .i64 bL fun bN=>Q (Value.tuple #[.int .u64 (u64.wrap n),.int .i64 bN]) bM))) (BIf (d==13) (ls_ a (at0 d0 4) fun cp bO cq=>BIf (decide ((↑bO:Int)>0)) (li_ a.drew (at0 b 15) .i64 fun bP=>ls_ a.drew (at0 d0 4) fun cr bQ cs=>A_ prog 37 #[.int .i64 bP,.int .i64 (↑bQ:Int)] a.drew fun bR g=>AsI .i64 bR fun c=>ls_ g (at0 d0 4) fun bS bT ct=>NilP bS fun a1=>0≤c∧c<(↑bT:Int)∧li_ g (at0 a1 (c.toNat*2)) .i64 fun bU=>li_ g (at0 (at0 a1 (c.toNat*2)) 1) .i64 fun bV=>New g #[.int .i64 0,.int .i64 0] 68 fun h bW=>St bW h (.int .i64 bU) fun bX=>St bX (at0 h 1) (.int .i64 bV) fun p=>ls_ p.drew (at0 d0 4) fun a2 bY i=>0≤c∧c≤(↑i:Int)∧ls_ p.drew (at0 d0 4) fun r j k=>0≤i64.wrap (c+1)∧i64.wrap (c+1)≤(↑j:Int)∧RunV prog (Instr.buildSlice 47 0 #[]) p.drew fun bZ t=>t_ bZ fun c0 c1 c2=>ce_ t (at0 d0 4) (Value.slice r j k)∧ce_ t (at0 d0 4) (Value.slice a2 bY i)∧RunV prog (Builtin.append_ #[(47:Nat),(47:Nat)] (47:Nat) #[Value.slice c0 c1 c2,Value.slice (S_ a2 (0:Nat) i (2:Nat)) (c.toNat-(0:Nat)) (i-(0:Nat))]) t fun c3 a3=>t_ c3 fun c4 c5 c6=>ce_ a3 (at0 d0 4) (Value.slice r j k)∧RunV prog (Builtin.append_ #[(47:Nat),(47:Nat)] (47:Nat) #[Value.slice c4 c5 c6,Value.slice (S_ r (i64.wrap (c+1)).toNat k (2:Nat)) (j-(i64.wrap (c+1)).toNat) (k-(i64.wrap (c+1)).toNat)]) a3 fun c7 c8=>t_ c7 fun c9 ca cb=>St c8 (at0 d0 4) (Value.slice c9 ca cb) fun l=>lp_ l.drew (at0 d0 1) fun cc=>li_ l.drew (at0 h 0) .i64 fun cd=>li_ l.drew (at0 h 1) .i64 fun cf=>A_ prog 47 #[.pointer cc,.int .i64 cd,.int .i64 cf] l.drew fun cg ch=>I_ cg fun ci=>Uii ci fun cj ck cl=>UnN cl (A_ prog 17 #[.int .i64 ck] ch fun cm cn=>AsI .i64 cm fun co=>Q (Value.tuple #[.int .u64 (u64.wrap cj),.int .i64 co]) cn)) (Q (Value.tuple #[.int .u64 0,.int .i64 0]) a)) (Q (Value.tuple #[.int .u64 0,.int .i64 0]) a)))))))))
theorem F11_of {d0 o1c0 o1c1 o1c2 o1c3 o1c3n o1c3c o1c4 o1c4n o1c4c o1c5 o1c6 o1c7 o1c8 o1c9 o1c9n o1c9c o1c10 o1c11 o1c12 o1c13 o1c14 o1c15 o1c16 w Q} (h:F11 d0 o1c0 o1c1 o1c2 o1c3 o1c3n o1c3c o1c4 o1c4n o1c4c o1c5 o1c6 o1c7 o1c8 o1c9 o1c9n o1c9c o1c10 o1c11 o1c12 o1c13 o1c14 o1c15 o1c16 w Q):Ret prog 11 #[.pointer (some d0),.agg #[.int .i64 o1c0,.int .i64 o1c1,.int .i64 o1c2,.slice o1c3 o1c3n o1c3c,.slice o1c4 o1c4n o1c4c,.int .i64 o1c5,.int .u32 o1c6,.bool o1c7,.bool o1c8,.slice o1c9 o1c9n o1c9c,.int .i64 o1c10,.int .u32 o1c11,.int .i64 o1c12,.int .u32 o1c13,.bool o1c14,.int .i64 o1c15,.int .i64 o1c16]] w Q:=co Tryz.func11 h
def F14 (d0:Addr) (w:World) (Q:KQ):Prop :=
 li_ w (at0 d0 3) .i64 fun a=>NN (u64.wrap (i64.wrap ((32:Int)-a))) (Q (.int .u64 (l_ u64 (1:Int) (u64.wrap (i64.wrap ((32:Int)-a))))) w)
theorem F14_of {d0 w Q} (h:F14 d0 w Q):Ret prog 14 #[.pointer (some d0)] w Q:=co Tryz.func14 h
def F15 (a0:Option Addr) (a0n a0c:Nat) (b1:Option Addr) (b1n b1c:Nat) (w:World) (Q:KQ):Prop :=
 BIf ((↑a0n:Int) != (↑b1n:Int)) (Q (.bool false) w) (Sh.Loop [.int .i64 0,.bool false] w fun c d b=>Uib d fun a e f=>UnN f (BIf (decide (a<(↑a0n:Int))) (NilP a0 fun g=>0≤a∧a<(↑a0n:Int)∧B_ b.drew (at0 g (a.toNat*8)) fun h i j k l m n o=>NilP b1 fun p=>0≤a∧a<(↑b1n:Int)∧B_ b.drew (at0 p (a.toNat*8)) fun r t u v x y z a1=>RunP prog (v_ BinOp.neq 57 (Operand.tmp 20) (Operand.tmp 24) (Value.agg #[.int .i64 h,.int .u32 i,.int .u64 j,.int .i64 k,.int .i64 l,.int .u32 m,.bool n,.bool o]) (Value.agg #[.int .i64 r,.int .u32 t,.int .u64 u,.int .i64 v,.int .i64 x,.int .u32 y,.bool z,.bool a1])) fun a2=>AsB a2 fun a3=>BIf a3 (Q (.bool false) b.drew) (c [.int .i64 (i64.wrap (a+1)),.bool e] b.drew)) (Q (.bool true) b)))
theorem F15_of {a0 a0n a0c b1 b1n b1c w Q} (h:F15 a0 a0n a0c b1 b1n b1c w Q):Ret prog 15 #[.slice a0 a0n a0c,.slice b1 b1n b1c] w Q:=co Tryz.func15 h
def F17 (e0:Int) (w:World) (Q:KQ):Prop :=
 Q (.int .i64 e0) w
theorem F17_of {e0 w Q} (h:F17 e0 w Q):Ret prog 17 #[.int .i64 e0] w Q:=co Tryz.func17 h
def F23 (l0:Option Addr) (l0n l0c:Nat) (n1:Int) (w:World) (Q:KQ):Prop :=
 A_ prog 37 #[.int .i64 n1,.int .i64 (i64.wrap ((↑l0n:Int)+1))] w fun c b=>AsI .i64 c fun a=>BIf (decide (a<(↑l0n:Int))) (NilP l0 fun d=>0≤a∧a<(↑l0n:Int)∧li_ b (at0 d (a.toNat*1)) .u64 fun e=>Q (.int .u64 e) b) (Q (.int .u64 1191936) b)
theorem F23_of {l0 l0n l0c n1 w Q} (h:F23 l0 l0n l0c n1 w Q):Ret prog 23 #[.slice l0 l0n l0c,.int .i64 n1] w Q:=co Tryz.func23 h
def F37 (n0 k1:Int) (w:World) (Q:KQ):Prop :=
 NZ k1 (BIf (decide (n0.tmod k1<0)) (Q (.int .i64 (i64.wrap (n0.tmod k1+k1))) w) (Q (.int .i64 (n0.tmod k1)) w))
theorem F37_of {n0 k1 w Q} (h:F37 n0 k1 w Q):Ret prog 37 #[.int .i64 n0,.int .i64 k1] w Q:=co Tryz.func37 h
end Go.Proofs.YtmgjicnipgdjhaaGreatDoor
