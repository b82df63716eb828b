import Derived.Test.YtmgjicnipgdjhaaGreatDoorP05
set_option linter.unusedVariables false
set_option linter.unusedSimpArgs false
set_option maxRecDepth 100000
set_option maxHeartbeats 4000000
namespace Go.Proofs.YtmgjicnipgdjhaaGreatDoor
open Go Go.Sh Go.Proofs
open Go.IntKind (i64 u64 u32)
def F3 (w0c0 w0c1 w0c2 w0c3 w0c4 w0c5 w0c6 w0c7 w0c8:Int) (script1:Option Addr) (script1n script1c:Nat) (w:World) (Q:KQ):Prop :=
 New w #[.int .i64 w0c0,.int .i64 w0c1,.int .i64 w0c2,.int .i64 w0c3,.int .i64 w0c4,.int .i64 w0c5,.int .i64 w0c6,.int .i64 w0c7,.int .i64 w0c8] 25 fun ad r=>r_f r ad fun ae af ag ah ai aj ak al am=>A_ prog 9 #[Value.agg #[.int .i64 ae,.int .i64 af,.int .i64 ag,.int .i64 ah,.int .i64 ai,.int .i64 aj,.int .i64 ak,.int .i64 al,.int .i64 am],.int .i64 0] r fun an ao=>AsP an fun ap=>New ao #[.pointer none] 27 fun a aq=>St aq a (.pointer ap) fun l=>lp_ l a fun ar=>BIf ar.isNone (FinM [] l fun au=>Q (.bool false) au) (A_ prog 10 #[] l fun av t=>AsB av fun ax=>BIf (!ax) (FinM [] t fun ay=>Q (.bool false) ay) (Sh.Loop [mkV [],.int .i64 0,.bool false] t fun az aA f=>UnM aA fun u aB=>Uib aB fun c aC aD=>UnN aD (BIf (decide (c<(↑script1n:Int))) (lp_ f.drew a fun aE=>NilP script1 fun aF=>0≤c∧c<(↑script1n:Int)∧R_b f.drew (at0 aF (c.toNat*17)) fun aG aH aI aJ aK aL aM aN aO aP aQ aR aS aT aU aV aW aX aY aZ b0 b1 b2=>A_ prog 11 #[.pointer aE,Value.agg #[.int .i64 aG,.int .i64 aH,.int .i64 aI,Value.slice aJ aK aL,Value.slice aM aN aO,.int .i64 aP,.int .u32 aQ,.bool aR,.bool aS,Value.slice aT aU aV,.int .i64 aW,.int .u32 aX,.int .i64 aY,.int .u32 aZ,.bool b0,.int .i64 b1,.int .i64 b2]] f.drew fun b3 m=>I_ b3 fun b4=>Uvi b4 fun cs ct b5=>UnN b5 (lp_ m a fun b6=>NilP b6 fun b7=>lp_ m (at0 b7 2) fun b8=>A_ prog 12 #[.pointer b8] m fun b9 ba=>t_ b9 fun v n cu=>Sh.Loop [mkV u,.int .i64 0,.bool aC] ba fun bb bc x=>UnM bc fun o bd=>Uib bd fun b y be=>UnN be (BIf (decide (b<(↑n:Int))) (New x #[Value.slice none (0:Nat) (0:Nat)] 33 fun g h=>lp_ h.drew a fun z=>NilP z fun a0=>li_ h.drew (at0 a0 3) .i64 fun a1=>NilP v fun a2=>0≤b∧b<(↑n:Int)∧li_ h.drew (at0 a2 (b.toNat*1)) .u64 fun a3=>New h.drew #[.bool false,.bool false,.bool false,.int .i64 0,.bool false,.bool false,.int .u64 0,.int .u64 0,.int .u32 0,.int .u32 0,.int .u32 0,.int .i64 0] 52 fun a4 i=>ce_ i (at0 a2 (b.toNat*1)) (.int .u64 a3)∧ce_ i (at0 a0 3) (.int .i64 a1)∧ce_ i a (.pointer z)∧S_12 i a4 (.bool true) (.bool false) (.bool false) (.int .i64 a1) (.bool false) (.bool true) (.int .u64 a3) (.int .u64 0) (.int .u32 0) (.int .u32 0) (.int .u32 0) (.int .i64 0) fun j=>lp_ j.drew a fun bf=>NilP bf fun bg=>lp_ j.drew (at0 bg 0) fun bh=>J_ j.drew a4 fun bi bj bk bl bm bn bo bp bq br bs bt=>A_ prog 13 #[Value.iface 44 (.pointer bh),Value.agg #[.bool bi,.bool bj,.bool bk,.int .i64 bl,.bool bm,.bool bn,.int .u64 bo,.int .u64 bp,.int .u32 bq,.int .u32 br,.int .u32 bs,.int .i64 bt]] j.drew fun bu bv=>L_f prog bu bv (fun bx bz bA a5=>UnC bx fun bB bC=>V_ bB fun bD=>a_ bD fun bE bF bG bH bI bJ bK bL bM=>UnN bM (UnN bC (New bz #[.int .i64 0,.int .u32 0,.int .u64 0,.int .i64 0,.int .i64 0,.int .u32 0,.bool false,.bool false] 57 fun k bN=>S_8 bN k (.int .i64 bE) (.int .u32 bF) (.int .u64 bG) (.int .i64 bH) (.int .i64 bI) (.int .u32 bJ) (.bool bK) (.bool bL) fun bO=>bA bO fun p=>li_ p.drew (at0 k 1) .u32 fun a6=>lp_ p.drew a fun bP=>A_ prog 14 #[.pointer bP] p.drew fun bQ d=>AsI .u64 bQ fun bR=>ce_ d (at0 k 1) (.int .u32 a6)∧BIf (decide (u64.wrap a6<bR)) (ls_ d g fun bS bT bU=>B_ d k fun bV bW bX bY bZ c0 c1 c2=>RunV prog (Instr.buildSlice 33 1 #[(0,Value.agg #[.int .i64 bV,.int .u32 bW,.int .u64 bX,.int .i64 bY,.int .i64 bZ,.int .u32 c0,.bool c1,.bool c2])]) d fun c3 c4=>t_ c3 fun c5 c6 c7=>RunV prog (Builtin.append_ #[(33:Nat),(33:Nat)] (33:Nat) #[Value.slice bS bT bU,Value.slice c5 c6 c7]) c4 fun c8 c9=>t_ c8 fun ca cb cc=>St c9 g (Value.slice ca cb cc) fun cd=>a5 cd) (a5 d)))) fun a7 e=>ls_ e.drew g fun a8 a9 aa=>lp_ e.drew a fun cf=>NilP cf fun cg=>lp_ e.drew (at0 cg 2) fun ch=>NilP v fun ci=>0≤b∧b<(↑n:Int)∧li_ e.drew (at0 ci (b.toNat*1)) .u64 fun cj=>A_ prog 16 #[.pointer ch,.int .u64 cj] e.drew fun ck ab=>t_ ck fun cl cm cn=>ce_ ab g (Value.slice a8 a9 aa)∧A_ prog 15 #[Value.slice a8 a9 aa,Value.slice cl cm cn] ab fun co ac=>AsB co fun cp=>BIf (!cp) (FinM (a7 :: o) ac fun cq=>Q (.bool false) cq) (bb [mkV (a7 :: o),.int .i64 (i64.wrap (b+1)),.bool y] ac)) (az [mkV o,.int .i64 (i64.wrap (c+1)),.bool y] x)))) (FinM u f fun cr=>Q (.bool true) cr))))
theorem F3_of {w0c0 w0c1 w0c2 w0c3 w0c4 w0c5 w0c6 w0c7 w0c8 script1 script1n script1c w Q} (h:F3 w0c0 w0c1 w0c2 w0c3 w0c4 w0c5 w0c6 w0c7 w0c8 script1 script1n script1c w Q):Ret prog 3 #[.agg #[.int .i64 w0c0,.int .i64 w0c1,.int .i64 w0c2,.int .i64 w0c3,.int .i64 w0c4,.int .i64 w0c5,.int .i64 w0c6,.int .i64 w0c7,.int .i64 w0c8],.slice script1 script1n script1c] w Q:=co Tryz.func3 h
def F13 (m0:Value) (c1c0 c1c1 c1c2:Bool) (c1c3:Int) (c1c4 c1c5:Bool) (c1c6 c1c7 c1c8 c1c9 c1c10 c1c11:Int) (w:World) (Q:KQ):Prop :=
 New w m0.cells (126:Nat) fun a b=>New b #[.bool c1c0,.bool c1c1,.bool c1c2,.int .i64 c1c3,.bool c1c4,.bool c1c5,.int .u64 c1c6,.int .u64 c1c7,.int .u32 c1c8,.int .u32 c1c9,.int .u32 c1c10,.int .i64 c1c11] 52 fun c d=>Q (Value.func (Fn.func 50) #[] #[.pointer (some c),.pointer (some a)]) d
theorem F13_of {m0 c1c0 c1c1 c1c2 c1c3 c1c4 c1c5 c1c6 c1c7 c1c8 c1c9 c1c10 c1c11 w Q} (h:F13 m0 c1c0 c1c1 c1c2 c1c3 c1c4 c1c5 c1c6 c1c7 c1c8 c1c9 c1c10 c1c11 w Q):Ret prog 13 #[m0,.agg #[.bool c1c0,.bool c1c1,.bool c1c2,.int .i64 c1c3,.bool c1c4,.bool c1c5,.int .u64 c1c6,.int .u64 c1c7,.int .u32 c1c8,.int .u32 c1c9,.int .u32 c1c10,.int .i64 c1c11]] w Q:=co Tryz.func13 h
def F50c (y0:Value) (e0 e1:Addr) (w:World) (Q:KQ):Prop :=
 lb_ w (at0 e0 0) fun i=>BIf (!i) (Q (Value.tuple #[]) w) (Sh.Loop [.int .u32 0] w fun j k b=>ui_ k .u32 fun c l=>UnN l (BIf (decide (c<256)) (Ld b e1 fun m=>J_ b e0 fun n o p r t u v x y z a0 a1=>A_ prog 51 #[m,Value.agg #[.bool n,.bool o,.bool p,.int .i64 r,.bool t,.bool u,.int .u64 v,.int .u64 x,.int .u32 y,.int .u32 z,.int .u32 a0,.int .i64 a1],.int .u32 (l_ u32 c (24:Int))] b fun a2 a3=>t_ a2 fun a4 e au=>Sh.Loop [.int .i64 0] a3 fun a5 a6 d=>ui_ a6 .i64 fun a a7=>UnN a7 (BIf (decide (a<(↑e:Int))) (NilP a4 fun a8=>0≤a∧a<(↑e:Int)∧B_ d (at0 a8 (a.toNat*8)) fun a9 aa ab ac ad ae af ag=>New d #[.int .i64 0,.int .u32 0,.int .u64 0,.int .i64 0,.int .i64 0,.int .u32 0,.bool false,.bool false] 57 fun f ah=>S_8 ah f (.int .i64 a9) (.int .u32 aa) (.int .u64 ab) (.int .i64 ac) (.int .i64 ad) (.int .u32 ae) (.bool af) (.bool ag) fun g=>B_ g f fun ai aj ak al am an ao ap=>FnY prog y0 [Value.agg #[.int .i64 ai,.int .u32 aj,.int .u64 ak,.int .i64 al,.int .i64 am,.int .u32 an,.bool ao,.bool ap]] g fun aq h=>AsB aq fun ar=>BIf (!ar) (Q (Value.tuple #[]) h) (a5 [.int .i64 (i64.wrap (a+1))] h)) (j [.int .u32 (u32.wrap (c+1))] d))) (Q (Value.tuple #[]) b)))
theorem F50c_of {y0 e0 e1 w Q} (h:F50c y0 e0 e1 w Q):Ret prog 50 #[y0,.pointer (some e0),.pointer (some e1)] w Q:=co Tryz.func50 h
def F51 (m0:Value) (c1c0 c1c1 c1c2:Bool) (c1c3:Int) (c1c4 c1c5:Bool) (c1c6 c1c7 c1c8 c1c9 c1c10 c1c11 va2:Int) (w:World) (Q:KQ):Prop :=
 New w #[.bool c1c0,.bool c1c1,.bool c1c2,.int .i64 c1c3,.bool c1c4,.bool c1c5,.int .u64 c1c6,.int .u64 c1c7,.int .u32 c1c8,.int .u32 c1c9,.int .u32 c1c10,.int .i64 c1c11] 52 fun t u=>New u #[Value.slice none (0:Nat) (0:Nat)] 33 fun d v=>Sh.Loop [.int .u32 0] v fun x y e=>ui_ y .u32 fun c z=>UnN z (BIf (decide (c<16)) (Join (fun a0 a1=>UnN a0 (x [.int .u32 (u32.wrap (c+1))] a1)) fun a=>J_ e t fun a2 a3 a4 a5 a6 a7 a8 a9 aa ab ac ad=>A_ prog 100 #[Value.agg #[.bool a2,.bool a3,.bool a4,.int .i64 a5,.bool a6,.bool a7,.int .u64 a8,.int .u64 a9,.int .u32 aa,.int .u32 ab,.int .u32 ac,.int .i64 ad],.int .u32 (u32.wrap (va2+u32.wrap (c*1048576)))] e fun ae m=>I_ ae fun af=>Uvb af fun ag ah ai=>UnN ai (BIf (!ah) (a [] m) (A_ prog 101 #[m0,.int .u64 ag] m fun aj f=>I_ aj fun ak=>Uub ak fun j al am=>UnN am (BIf (!al) (a [] f) (BIf (Q_ u32 j (3:Int)==0) (a [] f) (BIf (Q_ u32 j (3:Int)==3) (a [] f) (A_ prog 102 #[.int .u32 j] f fun an ao=>V_ an fun ap=>O_c ap fun aq ar au av ax ay az aA aB=>UnN aB (New ao #[.int .i64 0,.int .u64 0,.int .i64 0,.bool false,.int .i64 0,.int .u32 0,.bool false,.bool false] 156 fun b aC=>S_8 aC b (.int .i64 aq) (.int .u64 ar) (.int .i64 au) (.bool av) (.int .i64 ax) (.int .u32 ay) (.bool az) (.bool aA) fun g=>li_ g (at0 b 0) .i64 fun aD=>BIf (aD != 1) (M_ g b fun aE aF aG aH aI aJ aK aL=>A_ prog 103 #[Value.agg #[.int .i64 aE,.int .u64 aF,.int .i64 aG,.bool aH,.int .i64 aI,.int .u32 aJ,.bool aK,.bool aL],.int .i64 0,.int .u32 (u32.wrap (va2+u32.wrap (c*1048576)))] g fun aM aN=>V_ aM fun aO=>a_ aO fun aP aQ aR aS aT aU aV aW aX=>UnN aX (FnY prog (Value.func (Fn.func 99) #[] #[.pointer (some d)]) [Value.agg #[.int .i64 aP,.int .u32 aQ,.int .u64 aR,.int .i64 aS,.int .i64 aT,.int .u32 aU,.bool aV,.bool aW]] aN fun aY aZ=>I_ aY fun b0=>UnN b0 (a [] aZ))) (Sh.Loop [.int .u32 0] g fun b1 b2 k=>ui_ b2 .u32 fun h b3=>UnN b3 (BIf (decide (h<256)) (Join (fun b4 b5=>UnN b4 (b1 [.int .u32 (u32.wrap (h+1))] b5)) fun l=>li_ k (at0 b 1) .u64 fun b6=>A_ prog 101 #[m0,.int .u64 (u64.wrap (b6+u64.wrap (u64.wrap h*4)))] k fun b7 i=>I_ b7 fun b8=>Uub b8 fun n b9 ba=>UnN ba (BIf b9 (BIf (Q_ u32 n (3:Int) != 0) (li_ i.drew (at0 b 2) .i64 fun o=>A_ prog 104 #[.int .u32 n] i.drew fun bb p=>V_ bb fun bc=>O_c bc fun bd be bf bg bh bi bj bk bl=>UnN bl (ce_ p (at0 b 2) (.int .i64 o)∧A_ prog 103 #[Value.agg #[.int .i64 bd,.int .u64 be,.int .i64 bf,.bool bg,.int .i64 bh,.int .u32 bi,.bool bj,.bool bk],.int .i64 o,.int .u32 (u32.wrap (u32.wrap (va2+u32.wrap (c*1048576))+l_ u32 h (12:Int)))] p fun bm bn=>V_ bm fun bo=>a_ bo fun bp bq br bs bt bu bv bx bz=>UnN bz (FnV prog (Value.func (Fn.func 99) #[] #[.pointer (some d)]) [Value.agg #[.int .i64 bp,.int .u32 bq,.int .u64 br,.int .i64 bs,.int .i64 bt,.int .u32 bu,.bool bv,.bool bx]] bn fun bA bB=>I_ bA fun bC=>UnN bC (l [] bB)))) (l [] i)) (l [] i))) (a [] k))))))))))) (ls_ e d fun bD bE bF=>A_ prog 105 #[Value.slice bD bE bF,Value.func (Fn.func 106) #[] #[]] e fun bG r=>I_ bG fun bH=>UnN bH (ls_ r d fun bI bJ bK=>A_ prog 107 #[Value.slice bI bJ bK] r fun bL bM=>t_ bL fun bN bO bP=>Q (Value.slice bN bO bP) bM)))
theorem F51_of {m0 c1c0 c1c1 c1c2 c1c3 c1c4 c1c5 c1c6 c1c7 c1c8 c1c9 c1c10 c1c11 va2 w Q} (h:F51 m0 c1c0 c1c1 c1c2 c1c3 c1c4 c1c5 c1c6 c1c7 c1c8 c1c9 c1c10 c1c11 va2 w Q):Ret prog 51 #[m0,.agg #[.bool c1c0,.bool c1c1,.bool c1c2,.int .i64 c1c3,.bool c1c4,.bool c1c5,.int .u64 c1c6,.int .u64 c1c7,.int .u32 c1c8,.int .u32 c1c9,.int .u32 c1c10,.int .i64 c1c11],.int .u32 va2] w Q:=co Tryz.func51 h
def F99c (t0c0 t0c1 t0c2 t0c3 t0c4 t0c5:Int) (t0c6 t0c7:Bool) (e0:Addr) (w:World) (Q:KQ):Prop :=
 New w #[.int .i64 t0c0,.int .u32 t0c1,.int .u64 t0c2,.int .i64 t0c3,.int .i64 t0c4,.int .u32 t0c5,.bool t0c6,.bool t0c7] 57 fun d a=>ls_ a.drew e0 fun aV e aW=>BIf ((↑e:Int)==0) (ls_ a.drew e0 fun f g h=>B_ a.drew d fun i j k l m n o p=>RunV prog (Instr.buildSlice 33 1 #[(0,Value.agg #[.int .i64 i,.int .u32 j,.int .u64 k,.int .i64 l,.int .i64 m,.int .u32 n,.bool o,.bool p])]) a.drew fun r t=>t_ r fun u v x=>RunV prog (Builtin.append_ #[(33:Nat),(33:Nat)] (33:Nat) #[Value.slice f g h,Value.slice u v x]) t fun y z=>t_ y fun a0 a1 a2=>St z e0 (Value.slice a0 a1 a2) fun a3=>Q (Value.tuple #[]) a3) (ls_ a.drew e0 fun a4 a5 aX=>ls_ a.drew e0 fun aY b aZ=>NilP a4 fun c=>0≤i64.wrap ((↑b:Int)-1)∧i64.wrap ((↑b:Int)-1)<(↑a5:Int)∧Ld a.drew (at0 c ((i64.wrap ((↑b:Int)-1)).toNat*8)) fun a6=>AsI .i64 a6 fun a7=>Ld a.drew (at0 (at0 c ((i64.wrap ((↑b:Int)-1)).toNat*8)) (1:Nat)) fun a8=>AsI .u32 a8 fun a9=>Ld a.drew (at0 (at0 c ((i64.wrap ((↑b:Int)-1)).toNat*8)) (2:Nat)) fun aa=>AsI .u64 aa fun ab=>Ld a.drew (at0 (at0 c ((i64.wrap ((↑b:Int)-1)).toNat*8)) (3:Nat)) fun ac=>AsI .i64 ac fun ad=>Ld a.drew (at0 (at0 c ((i64.wrap ((↑b:Int)-1)).toNat*8)) (4:Nat)) fun ae=>AsI .i64 ae fun af=>Ld a.drew (at0 (at0 c ((i64.wrap ((↑b:Int)-1)).toNat*8)) (5:Nat)) fun ag=>AsI .u32 ag fun ah=>Ld a.drew (at0 (at0 c ((i64.wrap ((↑b:Int)-1)).toNat*8)) (6:Nat)) fun ai=>AsB ai fun aj=>Ld a.drew (at0 (at0 c ((i64.wrap ((↑b:Int)-1)).toNat*8)) (7:Nat)) fun ak=>AsB ak fun al=>B_ a.drew d fun am an ao ap aq ar au av=>RunP prog (v_ BinOp.neq 57 (Operand.tmp 12) (Operand.tmp 13) (Value.agg #[.int .i64 a7,.int .u32 a9,.int .u64 ab,.int .i64 ad,.int .i64 af,.int .u32 ah,.bool aj,.bool al]) (Value.agg #[.int .i64 am,.int .u32 an,.int .u64 ao,.int .i64 ap,.int .i64 aq,.int .u32 ar,.bool au,.bool av])) fun ax=>AsB ax fun ay=>BIf ay (ls_ a.drew e0 fun az aA aB=>B_ a.drew d fun aC aD aE aF aG aH aI aJ=>RunV prog (Instr.buildSlice 33 1 #[(0,Value.agg #[.int .i64 aC,.int .u32 aD,.int .u64 aE,.int .i64 aF,.int .i64 aG,.int .u32 aH,.bool aI,.bool aJ])]) a.drew fun aK aL=>t_ aK fun aM aN aO=>RunV prog (Builtin.append_ #[(33:Nat),(33:Nat)] (33:Nat) #[Value.slice az aA aB,Value.slice aM aN aO]) aL fun aP aQ=>t_ aP fun aR aS aT=>St aQ e0 (Value.slice aR aS aT) fun aU=>Q (Value.tuple #[]) aU) (Q (Value.tuple #[]) a.drew))
theorem F99c_of {t0c0 t0c1 t0c2 t0c3 t0c4 t0c5 t0c6 t0c7 e0 w Q} (h:F99c t0c0 t0c1 t0c2 t0c3 t0c4 t0c5 t0c6 t0c7 e0 w Q):Ret prog 99 #[.agg #[.int .i64 t0c0,.int .u32 t0c1,.int .u64 t0c2,.int .i64 t0c3,.int .i64 t0c4,.int .u32 t0c5,.bool t0c6,.bool t0c7],.pointer (some e0)] w Q:=co Tryz.func99 h
def F100 (c0c0 c0c1 c0c2:Bool) (c0c3:Int) (c0c4 c0c5:Bool) (c0c6 c0c7 c0c8 c0c9 c0c10 c0c11 va1:Int) (w:World) (Q:KQ):Prop :=
 New w #[.bool c0c0,.bool c0c1,.bool c0c2,.int .i64 c0c3,.bool c0c4,.bool c0c5,.int .u64 c0c6,.int .u64 c0c7,.int .u32 c0c8,.int .u32 c0c9,.int .u32 c0c10,.int .i64 c0c11] 52 fun b a=>li_ a (at0 b 3) .i64 fun c=>BIf (u64.wrap (Q_ i64 c (7:Int))==0) (li_ a.drew (at0 b 6) .u64 fun d=>NN (u64.wrap ((14:Int)-u64.wrap (Q_ i64 c (7:Int)))) (lb_ a.drew (at0 b 4) fun e=>Q (Value.tuple #[.int .u64 (u64.wrap (n_ u64 d (u64.wrap (l_ u64 (1:Int) (u64.wrap ((14:Int)-u64.wrap (Q_ i64 c (7:Int))))-1))+u64.wrap (u64.wrap (u32.wrap (va1.tdiv (1048576:Int)))*4))),.bool !e]) a.drew)) (NN (u64.wrap ((32:Int)-u64.wrap (Q_ i64 c (7:Int)))) (BIf (W_ u32 va1 (u64.wrap ((32:Int)-u64.wrap (Q_ i64 c (7:Int))))==0) (li_ a.drew (at0 b 6) .u64 fun f=>NN (u64.wrap ((14:Int)-u64.wrap (Q_ i64 c (7:Int)))) (lb_ a.drew (at0 b 4) fun g=>Q (Value.tuple #[.int .u64 (u64.wrap (n_ u64 f (u64.wrap (l_ u64 (1:Int) (u64.wrap ((14:Int)-u64.wrap (Q_ i64 c (7:Int))))-1))+u64.wrap (u64.wrap (u32.wrap (va1.tdiv (1048576:Int)))*4))),.bool !g]) a.drew)) (li_ a.drew (at0 b 7) .u64 fun h=>lb_ a.drew (at0 b 5) fun i=>Q (Value.tuple #[.int .u64 (u64.wrap (n_ u64 h (16383:Int)+u64.wrap (u64.wrap (u32.wrap (va1.tdiv (1048576:Int)))*4))),.bool !i]) a.drew)))
theorem F100_of {c0c0 c0c1 c0c2 c0c3 c0c4 c0c5 c0c6 c0c7 c0c8 c0c9 c0c10 c0c11 va1 w Q} (h:F100 c0c0 c0c1 c0c2 c0c3 c0c4 c0c5 c0c6 c0c7 c0c8 c0c9 c0c10 c0c11 va1 w Q):Ret prog 100 #[.agg #[.bool c0c0,.bool c0c1,.bool c0c2,.int .i64 c0c3,.bool c0c4,.bool c0c5,.int .u64 c0c6,.int .u64 c0c7,.int .u32 c0c8,.int .u32 c0c9,.int .u32 c0c10,.int .i64 c0c11],.int .u32 va1] w Q:=co Tryz.func100 h
def F101 (m0:Value) (pa1:Int) (w:World) (Q:KQ):Prop :=
 isI m0 = true ∧ BIf (x_g m0) (Q (Value.tuple #[.int .u32 0, .bool false]) w) (InvV prog m0 "Word" [.int .u64 pa1] w fun a b => I_ a fun c => Uui c fun d e f => UnN f (Q (Value.tuple #[.int .u32 d, .bool (e == 0)]) b))
theorem F101_of {m0 pa1 w Q} (h:F101 m0 pa1 w Q):Ret prog 101 #[m0,.int .u64 pa1] w Q:=co Tryz.func101 h
def F105 (x0:Option Addr) (x0n x0c:Nat) (cmp1:Value) (w:World) (Q:KQ):Prop :=
 A_ prog 163 #[.int .u64 (u64.wrap (↑x0n:Int))] w fun a b=>AsI .i64 a fun c=>A_ prog 168 #[Value.slice x0 x0n x0c,.int .i64 0,.int .i64 (↑x0n:Int),.int .i64 c,cmp1] b fun d e=>I_ d fun f=>UnN f (Q (Value.tuple #[]) e)
theorem F105_of {x0 x0n x0c cmp1 w Q} (h:F105 x0 x0n x0c cmp1 w Q):Ret prog 105 #[.slice x0 x0n x0c,cmp1] w Q:=co Tryz.func105 h
def F106 (a0c0 a0c1 a0c2 a0c3 a0c4 a0c5:Int) (a0c6 a0c7:Bool) (b1c0 b1c1 b1c2 b1c3 b1c4 b1c5:Int) (b1c6 b1c7:Bool) (w:World) (Q:KQ):Prop :=
 New w #[.int .i64 a0c0,.int .u32 a0c1,.int .u64 a0c2,.int .i64 a0c3,.int .i64 a0c4,.int .u32 a0c5,.bool a0c6,.bool a0c7] 57 fun b a4=>New a4 #[.int .i64 b1c0,.int .u32 b1c1,.int .u64 b1c2,.int .i64 b1c3,.int .i64 b1c4,.int .u32 b1c5,.bool b1c6,.bool b1c7] 57 fun a c=>li_ c.drew (at0 b 1) .u32 fun a5=>li_ c.drew (at0 a 1) .u32 fun a6=>li_ c.drew (at0 b 0) .i64 fun a1=>li_ c.drew (at0 a 0) .i64 fun a2=>li_ c.drew (at0 b 2) .u64 fun x=>li_ c.drew (at0 a 2) .u64 fun y=>li_ c.drew (at0 b 3) .i64 fun t=>li_ c.drew (at0 a 3) .i64 fun u=>li_ c.drew (at0 (at0 b 4) 0) .i64 fun o=>li_ c.drew (at0 (at0 a 4) 0) .i64 fun p=>li_ c.drew (at0 (at0 b 4) 1) .u32 fun m=>li_ c.drew (at0 (at0 a 4) 1) .u32 fun n=>lb_ c.drew (at0 (at0 b 4) 2) fun k=>lb_ c.drew (at0 (at0 a 4) 2) fun j=>lb_ c.drew (at0 (at0 b 4) 3) fun h=>lb_ c.drew (at0 (at0 a 4) 3) fun f=>A_ prog 170 #[.int .u32 a5,.int .u32 a6] c.drew fun a7 d=>AsI .i64 a7 fun a8=>ce_ d (at0 (at0 a 4) 3) (.bool f)∧ce_ d (at0 (at0 b 4) 3) (.bool h)∧ce_ d (at0 (at0 a 4) 2) (.bool j)∧ce_ d (at0 (at0 b 4) 2) (.bool k)∧ce_ d (at0 (at0 a 4) 1) (.int .u32 n)∧ce_ d (at0 (at0 b 4) 1) (.int .u32 m)∧ce_ d (at0 (at0 a 4) 0) (.int .i64 p)∧ce_ d (at0 (at0 b 4) 0) (.int .i64 o)∧ce_ d (at0 a 3) (.int .i64 u)∧ce_ d (at0 b 3) (.int .i64 t)∧ce_ d (at0 a 2) (.int .u64 y)∧ce_ d (at0 b 2) (.int .u64 x)∧ce_ d (at0 a 0) (.int .i64 a2)∧ce_ d (at0 b 0) (.int .i64 a1)∧A_ prog 171 #[.int .i64 a1,.int .i64 a2] d fun a9 e=>AsI .i64 a9 fun aa=>ce_ e (at0 (at0 a 4) 3) (.bool f)∧ce_ e (at0 (at0 b 4) 3) (.bool h)∧ce_ e (at0 (at0 a 4) 2) (.bool j)∧ce_ e (at0 (at0 b 4) 2) (.bool k)∧ce_ e (at0 (at0 a 4) 1) (.int .u32 n)∧ce_ e (at0 (at0 b 4) 1) (.int .u32 m)∧ce_ e (at0 (at0 a 4) 0) (.int .i64 p)∧ce_ e (at0 (at0 b 4) 0) (.int .i64 o)∧ce_ e (at0 a 3) (.int .i64 u)∧ce_ e (at0 b 3) (.int .i64 t)∧ce_ e (at0 a 2) (.int .u64 y)∧ce_ e (at0 b 2) (.int .u64 x)∧A_ prog 172 #[.int .u64 x,.int .u64 y] e fun ab g=>AsI .i64 ab fun ac=>ce_ g (at0 (at0 a 4) 3) (.bool f)∧ce_ g (at0 (at0 b 4) 3) (.bool h)∧ce_ g (at0 (at0 a 4) 2) (.bool j)∧ce_ g (at0 (at0 b 4) 2) (.bool k)∧ce_ g (at0 (at0 a 4) 1) (.int .u32 n)∧ce_ g (at0 (at0 b 4) 1) (.int .u32 m)∧ce_ g (at0 (at0 a 4) 0) (.int .i64 p)∧ce_ g (at0 (at0 b 4) 0) (.int .i64 o)∧ce_ g (at0 a 3) (.int .i64 u)∧ce_ g (at0 b 3) (.int .i64 t)∧A_ prog 171 #[.int .i64 t,.int .i64 u] g fun ad i=>AsI .i64 ad fun ae=>ce_ i (at0 (at0 a 4) 3) (.bool f)∧ce_ i (at0 (at0 b 4) 3) (.bool h)∧ce_ i (at0 (at0 a 4) 2) (.bool j)∧ce_ i (at0 (at0 b 4) 2) (.bool k)∧ce_ i (at0 (at0 a 4) 1) (.int .u32 n)∧ce_ i (at0 (at0 b 4) 1) (.int .u32 m)∧ce_ i (at0 (at0 a 4) 0) (.int .i64 p)∧ce_ i (at0 (at0 b 4) 0) (.int .i64 o)∧A_ prog 171 #[.int .i64 o,.int .i64 p] i fun af l=>AsI .i64 af fun ag=>ce_ l (at0 (at0 a 4) 3) (.bool f)∧ce_ l (at0 (at0 b 4) 3) (.bool h)∧ce_ l (at0 (at0 a 4) 2) (.bool j)∧ce_ l (at0 (at0 b 4) 2) (.bool k)∧ce_ l (at0 (at0 a 4) 1) (.int .u32 n)∧ce_ l (at0 (at0 b 4) 1) (.int .u32 m)∧A_ prog 170 #[.int .u32 m,.int .u32 n] l fun ah r=>AsI .i64 ah fun ai=>ce_ r (at0 (at0 a 4) 3) (.bool f)∧ce_ r (at0 (at0 b 4) 3) (.bool h)∧ce_ r (at0 (at0 a 4) 2) (.bool j)∧ce_ r (at0 (at0 b 4) 2) (.bool k)∧A_ prog 173 #[.bool k] r fun aj v=>AsI .i64 aj fun ak=>ce_ v (at0 (at0 a 4) 3) (.bool f)∧ce_ v (at0 (at0 b 4) 3) (.bool h)∧ce_ v (at0 (at0 a 4) 2) (.bool j)∧A_ prog 173 #[.bool j] v fun al z=>AsI .i64 al fun am=>ce_ z (at0 (at0 a 4) 3) (.bool f)∧ce_ z (at0 (at0 b 4) 3) (.bool h)∧A_ prog 171 #[.int .i64 ak,.int .i64 am] z fun an a0=>AsI .i64 an fun ao=>ce_ a0 (at0 (at0 a 4) 3) (.bool f)∧ce_ a0 (at0 (at0 b 4) 3) (.bool h)∧A_ prog 173 #[.bool h] a0 fun ap a3=>AsI .i64 ap fun aq=>ce_ a3 (at0 (at0 a 4) 3) (.bool f)∧A_ prog 173 #[.bool f] a3 fun ar au=>AsI .i64 ar fun av=>A_ prog 171 #[.int .i64 aq,.int .i64 av] au fun ax ay=>AsI .i64 ax fun az=>RunV prog (Instr.buildSlice 70 8 #[(0,.int .i64 a8),(1,.int .i64 aa),(2,.int .i64 ac),(3,.int .i64 ae),(4,.int .i64 ag),(5,.int .i64 ai),(6,.int .i64 ao),(7,.int .i64 az)]) ay fun aA aB=>t_ aA fun aC aD aE=>A_ prog 169 #[Value.slice aC aD aE] aB fun aF aG=>AsI .i64 aF fun aH=>Q (.int .i64 aH) aG
theorem F106_of {a0c0 a0c1 a0c2 a0c3 a0c4 a0c5 a0c6 a0c7 b1c0 b1c1 b1c2 b1c3 b1c4 b1c5 b1c6 b1c7 w Q} (h:F106 a0c0 a0c1 a0c2 a0c3 a0c4 a0c5 a0c6 a0c7 b1c0 b1c1 b1c2 b1c3 b1c4 b1c5 b1c6 b1c7 w Q):Ret prog 106 #[.agg #[.int .i64 a0c0,.int .u32 a0c1,.int .u64 a0c2,.int .i64 a0c3,.int .i64 a0c4,.int .u32 a0c5,.bool a0c6,.bool a0c7],.agg #[.int .i64 b1c0,.int .u32 b1c1,.int .u64 b1c2,.int .i64 b1c3,.int .i64 b1c4,.int .u32 b1c5,.bool b1c6,.bool b1c7]] w Q:=co Tryz.func106 h
def F107 (s0:Option Addr) (s0n s0c:Nat) (w:World) (Q:KQ):Prop :=
 BIf (decide ((↑s0n:Int)<2)) (Q (Value.slice s0 s0n s0c) w) (Sh.Loop [.int .i64 1,Value.slice none (0:Nat) (0:Nat)] w fun i j e=>Uis j fun a k l m n=>UnN n (BIf (decide (a<(↑s0n:Int))) (NilP s0 fun o=>0≤a∧a<(↑s0n:Int)∧B_ e.drew (at0 o (a.toNat*8)) fun p r t u v x y z=>NilP s0 fun f=>0≤i64.wrap (a-1)∧i64.wrap (a-1)<(↑s0n:Int)∧Ld e.drew (at0 f ((i64.wrap (a-1)).toNat*8)) fun a0=>AsI .i64 a0 fun a1=>Ld e.drew (at0 (at0 f ((i64.wrap (a-1)).toNat*8)) (1:Nat)) fun a2=>AsI .u32 a2 fun a3=>Ld e.drew (at0 (at0 f ((i64.wrap (a-1)).toNat*8)) (2:Nat)) fun a4=>AsI .u64 a4 fun a5=>Ld e.drew (at0 (at0 f ((i64.wrap (a-1)).toNat*8)) (3:Nat)) fun a6=>AsI .i64 a6 fun a7=>Ld e.drew (at0 (at0 f ((i64.wrap (a-1)).toNat*8)) (4:Nat)) fun a8=>AsI .i64 a8 fun a9=>Ld e.drew (at0 (at0 f ((i64.wrap (a-1)).toNat*8)) (5:Nat)) fun aa=>AsI .u32 aa fun ab=>Ld e.drew (at0 (at0 f ((i64.wrap (a-1)).toNat*8)) (6:Nat)) fun ac=>AsB ac fun ad=>Ld e.drew (at0 (at0 f ((i64.wrap (a-1)).toNat*8)) (7:Nat)) fun ae=>AsB ae fun af=>RunP prog (v_ BinOp.eql 57 (Operand.tmp 19) (Operand.tmp 24) (Value.agg #[.int .i64 p,.int .u32 r,.int .u64 t,.int .i64 u,.int .i64 v,.int .u32 x,.bool y,.bool z]) (Value.agg #[.int .i64 a1,.int .u32 a3,.int .u64 a5,.int .i64 a7,.int .i64 a9,.int .u32 ab,.bool ad,.bool af])) fun ag=>AsB ag fun ah=>BIf ah (0≤a∧a≤(↑s0n:Int)∧Sh.Loop [.int .i64 1,.int .i64 a] e.drew fun ai aj c=>Uii aj fun b d ak=>UnN ak (BIf (decide (b<(↑(s0n-a.toNat):Int))) (Join (fun al am=>ui_ al .i64 fun an ao=>UnN ao (ai [.int .i64 (i64.wrap (b+1)),.int .i64 an] am)) fun h=>NilP (S_ s0 a.toNat s0c (8:Nat)) fun ap=>0≤b∧b<(↑(s0n-a.toNat):Int)∧B_ c.drew (at0 ap (b.toNat*8)) fun aq ar au av ax ay az aA=>NilP (S_ s0 a.toNat s0c (8:Nat)) fun g=>0≤i64.wrap (b-1)∧i64.wrap (b-1)<(↑(s0n-a.toNat):Int)∧Ld c.drew (at0 g ((i64.wrap (b-1)).toNat*8)) fun aB=>AsI .i64 aB fun aC=>Ld c.drew (at0 (at0 g ((i64.wrap (b-1)).toNat*8)) (1:Nat)) fun aD=>AsI .u32 aD fun aE=>Ld c.drew (at0 (at0 g ((i64.wrap (b-1)).toNat*8)) (2:Nat)) fun aF=>AsI .u64 aF fun aG=>Ld c.drew (at0 (at0 g ((i64.wrap (b-1)).toNat*8)) (3:Nat)) fun aH=>AsI .i64 aH fun aI=>Ld c.drew (at0 (at0 g ((i64.wrap (b-1)).toNat*8)) (4:Nat)) fun aJ=>AsI .i64 aJ fun aK=>Ld c.drew (at0 (at0 g ((i64.wrap (b-1)).toNat*8)) (5:Nat)) fun aL=>AsI .u32 aL fun aM=>Ld c.drew (at0 (at0 g ((i64.wrap (b-1)).toNat*8)) (6:Nat)) fun aN=>AsB aN fun aO=>Ld c.drew (at0 (at0 g ((i64.wrap (b-1)).toNat*8)) (7:Nat)) fun aP=>AsB aP fun aQ=>RunP prog (v_ BinOp.neq 57 (Operand.tmp 38) (Operand.tmp 43) (Value.agg #[.int .i64 aq,.int .u32 ar,.int .u64 au,.int .i64 av,.int .i64 ax,.int .u32 ay,.bool az,.bool aA]) (Value.agg #[.int .i64 aC,.int .u32 aE,.int .u64 aG,.int .i64 aI,.int .i64 aK,.int .u32 aM,.bool aO,.bool aQ])) fun aR=>AsB aR fun aS=>BIf aS (NilP (S_ s0 a.toNat s0c (8:Nat)) fun aT=>0≤b∧b<(↑(s0n-a.toNat):Int)∧B_ c.drew (at0 aT (b.toNat*8)) fun aU aV aW aX aY aZ b0 b1=>NilP s0 fun b2=>0≤d∧d<(↑s0n:Int)∧S_8 c.drew (at0 b2 (d.toNat*8)) (.int .i64 aU) (.int .u32 aV) (.int .u64 aW) (.int .i64 aX) (.int .i64 aY) (.int .u32 aZ) (.bool b0) (.bool b1) fun b3=>h [.int .i64 (i64.wrap (d+1))] b3) (h [.int .i64 d] c.drew)) (0≤d∧d≤(↑s0n:Int)∧RunV prog (Builtin.clear_ #[(33:Nat)] (0:Nat) #[Value.slice (S_ s0 d.toNat s0c (8:Nat)) (s0n-d.toNat) (s0c-d.toNat)]) c fun b4 b5=>I_ b4 fun b6=>UnN b6 (0≤d∧d≤(↑s0c:Int)∧Q (Value.slice (S_ s0 (0:Nat) s0c (8:Nat)) (d.toNat-(0:Nat)) (s0c-(0:Nat))) b5)))) (i [.int .i64 (i64.wrap (a+1)),Value.slice k l m] e.drew)) (Q (Value.slice s0 s0n s0c) e)))
theorem F107_of {s0 s0n s0c w Q} (h:F107 s0 s0n s0c w Q):Ret prog 107 #[.slice s0 s0n s0c] w Q:=co Tryz.func107 h
def F168 (data0:Option Addr) (data0n data0c:Nat) (a1 b2 limit3:Int) (cmp4:Value) (w:World) (Q:KQ):Prop :=
 Sh.Loop [.bool true,.bool true,.int .i64 a1,.int .i64 b2,.int .i64 limit3] w fun l a3 i=>p_f a3 fun o m a b n a4=>UnN a4 (BIf (decide (i64.wrap (b-a)≤12)) (A_ prog 223 #[Value.slice data0 data0n data0c,.int .i64 a,.int .i64 b,cmp4] i fun a5 a6=>I_ a5 fun a7=>UnN a7 (Q (Value.tuple #[]) a6)) (BIf (n==0) (A_ prog 224 #[Value.slice data0 data0n data0c,.int .i64 a,.int .i64 b,cmp4] i fun a8 a9=>I_ a8 fun aa=>UnN aa (Q (Value.tuple #[]) a9)) (Join (fun ab ac=>ui_ ab .i64 fun f ad=>UnN ad (A_ prog 226 #[Value.slice data0 data0n data0c,.int .i64 a,.int .i64 b,cmp4] ac fun ae p=>I_ ae fun af=>Uii af fun r t ag=>UnN ag (Join (fun ah j=>Uii ah fun ai g aj=>UnN aj (Join (fun ak c=>UnN ak (Join (fun al am=>ui_ al .i64 fun h an=>UnN an (A_ prog 230 #[Value.slice data0 data0n data0c,.int .i64 h,.int .i64 b,.int .i64 g,cmp4] am fun ao u=>I_ ao fun ap=>Uib ap fun d v aq=>UnN aq (BIf (decide (i64.wrap (d-h)<i64.wrap (b-d))) (A_ prog 168 #[Value.slice data0 data0n data0c,.int .i64 h,.int .i64 d,.int .i64 f,cmp4] u fun ar au=>I_ ar fun av=>UnN av (l [.bool v,.bool (decide (i64.wrap (d-h)≥i64.wrap ((i64.wrap (b-a)).tdiv (8:Int)))),.int .i64 (i64.wrap (d+1)),.int .i64 b,.int .i64 f] au)) (A_ prog 168 #[Value.slice data0 data0n data0c,.int .i64 (i64.wrap (d+1)),.int .i64 b,.int .i64 f,cmp4] u fun ax ay=>I_ ax fun az=>UnN az (l [.bool v,.bool (decide (i64.wrap (b-d)≥i64.wrap ((i64.wrap (b-a)).tdiv (8:Int)))),.int .i64 h,.int .i64 d,.int .i64 f] ay))))) fun x=>BIf (decide (a>0)) (NilP data0 fun e=>0≤i64.wrap (a-1)∧i64.wrap (a-1)<(↑data0n:Int)∧Ld c.drew (at0 e ((i64.wrap (a-1)).toNat*8)) fun aA=>AsI .i64 aA fun aB=>Ld c.drew (at0 (at0 e ((i64.wrap (a-1)).toNat*8)) (1:Nat)) fun aC=>AsI .u32 aC fun aD=>Ld c.drew (at0 (at0 e ((i64.wrap (a-1)).toNat*8)) (2:Nat)) fun aE=>AsI .u64 aE fun aF=>Ld c.drew (at0 (at0 e ((i64.wrap (a-1)).toNat*8)) (3:Nat)) fun aG=>AsI .i64 aG fun aH=>Ld c.drew (at0 (at0 e ((i64.wrap (a-1)).toNat*8)) (4:Nat)) fun aI=>AsI .i64 aI fun aJ=>Ld c.drew (at0 (at0 e ((i64.wrap (a-1)).toNat*8)) (5:Nat)) fun aK=>AsI .u32 aK fun aL=>Ld c.drew (at0 (at0 e ((i64.wrap (a-1)).toNat*8)) (6:Nat)) fun aM=>AsB aM fun aN=>Ld c.drew (at0 (at0 e ((i64.wrap (a-1)).toNat*8)) (7:Nat)) fun aO=>AsB aO fun aP=>NilP data0 fun aQ=>0≤g∧g<(↑data0n:Int)∧B_ c.drew (at0 aQ (g.toNat*8)) fun aR aS aT aU aV aW aX aY=>FnV prog cmp4 [Value.agg #[.int .i64 aB,.int .u32 aD,.int .u64 aF,.int .i64 aH,.int .i64 aJ,.int .u32 aL,.bool aN,.bool aP],Value.agg #[.int .i64 aR,.int .u32 aS,.int .u64 aT,.int .i64 aU,.int .i64 aV,.int .u32 aW,.bool aX,.bool aY]] c.drew fun aZ y=>AsI .i64 aZ fun b0=>BIf (!decide (b0<0)) (A_ prog 229 #[Value.slice data0 data0n data0c,.int .i64 a,.int .i64 b,.int .i64 g,cmp4] y fun b1 b3=>AsI .i64 b1 fun b4=>l [.bool o,.bool m,.int .i64 b4,.int .i64 b,.int .i64 f] b3) (x [.int .i64 a] y)) (x [.int .i64 a] c.drew))) fun k=>BIf m (BIf o (BIf (ai==1) (A_ prog 228 #[Value.slice data0 data0n data0c,.int .i64 a,.int .i64 b,cmp4] j fun b5 z=>AsB b5 fun b6=>BIf b6 (Q (Value.tuple #[]) z) (k [] z)) (k [] j)) (k [] j)) (k [] j))) fun a0=>BIf (t==2) (A_ prog 227 #[Value.slice data0 data0n data0c,.int .i64 a,.int .i64 b,cmp4] p fun b7 b8=>I_ b7 fun b9=>UnN b9 (a0 [.int .i64 1,.int .i64 (i64.wrap (i64.wrap (b-1)-i64.wrap (r-a)))] b8)) (a0 [.int .i64 t,.int .i64 r] p)))) fun a2=>BIf (!m) (A_ prog 225 #[Value.slice data0 data0n data0c,.int .i64 a,.int .i64 b,cmp4] i fun ba bb=>I_ ba fun bc=>UnN bc (a2 [.int .i64 (i64.wrap (n-1))] bb)) (a2 [.int .i64 n] i))))
theorem F168_of {data0 data0n data0c a1 b2 limit3 cmp4 w Q} (h:F168 data0 data0n data0c a1 b2 limit3 cmp4 w Q):Ret prog 168 #[.slice data0 data0n data0c,.int .i64 a1,.int .i64 b2,.int .i64 limit3,cmp4] w Q:=co Tryz.func168 h
def F169 (vals0:Option Addr) (vals0n vals0c:Nat) (w:World) (Q:KQ):Prop :=
 Sh.Loop [.int .i64 0,.int .i64 0] w fun d e b=>Uii e fun a f g=>UnN g (BIf (decide (a<(↑vals0n:Int))) (NilP vals0 fun h=>0≤a∧a<(↑vals0n:Int)∧li_ b (at0 h (a.toNat*1)) .i64 fun c=>BIf (c != 0) (Q (.int .i64 c) b) (d [.int .i64 (i64.wrap (a+1)),.int .i64 f] b)) (Q (.int .i64 0) b))
theorem F169_of {vals0 vals0n vals0c w Q} (h:F169 vals0 vals0n vals0c w Q):Ret prog 169 #[.slice vals0 vals0n vals0c] w Q:=co Tryz.func169 h
def F170 (x0 y1:Int) (w:World) (Q:KQ):Prop :=
 A_ prog 231 #[.int .u32 x0] w fun c d=>AsB c fun e=>A_ prog 231 #[.int .u32 y1] d fun f a=>AsB f fun b=>BIf e (BIf b (Q (.int .i64 0) a) (Q (.int .i64 (-1:Int)) a)) (BIf b (Q (.int .i64 1) a) (BIf (decide (x0<y1)) (Q (.int .i64 (-1:Int)) a) (BIf (decide (x0>y1)) (Q (.int .i64 1) a) (Q (.int .i64 0) a))))
theorem F170_of {x0 y1 w Q} (h:F170 x0 y1 w Q):Ret prog 170 #[.int .u32 x0,.int .u32 y1] w Q:=co Tryz.func170 h
def F171 (x0 y1:Int) (w:World) (Q:KQ):Prop :=
 A_ prog 232 #[.int .i64 x0] w fun c d=>AsB c fun e=>A_ prog 232 #[.int .i64 y1] d fun f a=>AsB f fun b=>BIf e (BIf b (Q (.int .i64 0) a) (Q (.int .i64 (-1:Int)) a)) (BIf b (Q (.int .i64 1) a) (BIf (decide (x0<y1)) (Q (.int .i64 (-1:Int)) a) (BIf (decide (x0>y1)) (Q (.int .i64 1) a) (Q (.int .i64 0) a))))
theorem F171_of {x0 y1 w Q} (h:F171 x0 y1 w Q):Ret prog 171 #[.int .i64 x0,.int .i64 y1] w Q:=co Tryz.func171 h
def F172 (x0 y1:Int) (w:World) (Q:KQ):Prop :=
 A_ prog 233 #[.int .u64 x0] w fun c d=>AsB c fun e=>A_ prog 233 #[.int .u64 y1] d fun f a=>AsB f fun b=>BIf e (BIf b (Q (.int .i64 0) a) (Q (.int .i64 (-1:Int)) a)) (BIf b (Q (.int .i64 1) a) (BIf (decide (x0<y1)) (Q (.int .i64 (-1:Int)) a) (BIf (decide (x0>y1)) (Q (.int .i64 1) a) (Q (.int .i64 0) a))))
theorem F172_of {x0 y1 w Q} (h:F172 x0 y1 w Q):Ret prog 172 #[.int .u64 x0,.int .u64 y1] w Q:=co Tryz.func172 h
def F173 (b0:Bool) (w:World) (Q:KQ):Prop :=
 BIf b0 (Q (.int .i64 1) w) (Q (.int .i64 0) w)
theorem F173_of {b0 w Q} (h:F173 b0 w Q):Ret prog 173 #[.bool b0] w Q:=co Tryz.func173 h
def F223 (data0:Option Addr) (data0n data0c:Nat) (a1 b2:Int) (cmp3:Value) (w:World) (Q:KQ):Prop :=
 Sh.Loop [.int .i64 (i64.wrap (a1+1))] w fun j k h=>ui_ k .i64 fun g l=>UnN l (BIf (decide (g<b2)) (Join (fun m n=>UnN m (j [.int .i64 (i64.wrap (g+1))] n)) fun i=>Sh.Loop [.int .i64 g] h fun o p b=>ui_ p .i64 fun a r=>UnN r (BIf (decide (a>a1)) (NilP data0 fun t=>0≤a∧a<(↑data0n:Int)∧B_ b.drew (at0 t (a.toNat*8)) fun u v x y z a0 a2 a3=>NilP data0 fun d=>0≤i64.wrap (a-1)∧i64.wrap (a-1)<(↑data0n:Int)∧Ld b.drew (at0 d ((i64.wrap (a-1)).toNat*8)) fun a4=>AsI .i64 a4 fun a5=>Ld b.drew (at0 (at0 d ((i64.wrap (a-1)).toNat*8)) (1:Nat)) fun a6=>AsI .u32 a6 fun a7=>Ld b.drew (at0 (at0 d ((i64.wrap (a-1)).toNat*8)) (2:Nat)) fun a8=>AsI .u64 a8 fun a9=>Ld b.drew (at0 (at0 d ((i64.wrap (a-1)).toNat*8)) (3:Nat)) fun aa=>AsI .i64 aa fun ab=>Ld b.drew (at0 (at0 d ((i64.wrap (a-1)).toNat*8)) (4:Nat)) fun ac=>AsI .i64 ac fun ad=>Ld b.drew (at0 (at0 d ((i64.wrap (a-1)).toNat*8)) (5:Nat)) fun ae=>AsI .u32 ae fun af=>Ld b.drew (at0 (at0 d ((i64.wrap (a-1)).toNat*8)) (6:Nat)) fun ag=>AsB ag fun ah=>Ld b.drew (at0 (at0 d ((i64.wrap (a-1)).toNat*8)) (7:Nat)) fun ai=>AsB ai fun aj=>FnV prog cmp3 [Value.agg #[.int .i64 u,.int .u32 v,.int .u64 x,.int .i64 y,.int .i64 z,.int .u32 a0,.bool a2,.bool a3],Value.agg #[.int .i64 a5,.int .u32 a7,.int .u64 a9,.int .i64 ab,.int .i64 ad,.int .u32 af,.bool ah,.bool aj]] b.drew fun ak c=>AsI .i64 ak fun al=>BIf (decide (al<0)) (NilP data0 fun e=>0≤i64.wrap (a-1)∧i64.wrap (a-1)<(↑data0n:Int)∧Ld c.drew (at0 e ((i64.wrap (a-1)).toNat*8)) fun am=>AsI .i64 am fun an=>Ld c.drew (at0 (at0 e ((i64.wrap (a-1)).toNat*8)) (1:Nat)) fun ao=>AsI .u32 ao fun ap=>Ld c.drew (at0 (at0 e ((i64.wrap (a-1)).toNat*8)) (2:Nat)) fun aq=>AsI .u64 aq fun ar=>Ld c.drew (at0 (at0 e ((i64.wrap (a-1)).toNat*8)) (3:Nat)) fun au=>AsI .i64 au fun av=>Ld c.drew (at0 (at0 e ((i64.wrap (a-1)).toNat*8)) (4:Nat)) fun ax=>AsI .i64 ax fun ay=>Ld c.drew (at0 (at0 e ((i64.wrap (a-1)).toNat*8)) (5:Nat)) fun az=>AsI .u32 az fun aA=>Ld c.drew (at0 (at0 e ((i64.wrap (a-1)).toNat*8)) (6:Nat)) fun aB=>AsB aB fun aC=>Ld c.drew (at0 (at0 e ((i64.wrap (a-1)).toNat*8)) (7:Nat)) fun aD=>AsB aD fun aE=>NilP data0 fun aF=>0≤a∧a<(↑data0n:Int)∧B_ c.drew (at0 aF (a.toNat*8)) fun aG aH aI aJ aK aL aM aN=>NilP data0 fun aO=>0≤a∧a<(↑data0n:Int)∧S_8 c.drew (at0 aO (a.toNat*8)) (.int .i64 an) (.int .u32 ap) (.int .u64 ar) (.int .i64 av) (.int .i64 ay) (.int .u32 aA) (.bool aC) (.bool aE) fun aP=>NilP data0 fun f=>0≤i64.wrap (a-1)∧i64.wrap (a-1)<(↑data0n:Int)∧St aP (at0 f ((i64.wrap (a-1)).toNat*8)) (.int .i64 aG) fun aQ=>St aQ (at0 (at0 f ((i64.wrap (a-1)).toNat*8)) (1:Nat)) (.int .u32 aH) fun aR=>St aR (at0 (at0 f ((i64.wrap (a-1)).toNat*8)) (2:Nat)) (.int .u64 aI) fun aS=>St aS (at0 (at0 f ((i64.wrap (a-1)).toNat*8)) (3:Nat)) (.int .i64 aJ) fun aT=>St aT (at0 (at0 f ((i64.wrap (a-1)).toNat*8)) (4:Nat)) (.int .i64 aK) fun aU=>St aU (at0 (at0 f ((i64.wrap (a-1)).toNat*8)) (5:Nat)) (.int .u32 aL) fun aV=>St aV (at0 (at0 f ((i64.wrap (a-1)).toNat*8)) (6:Nat)) (.bool aM) fun aW=>St aW (at0 (at0 f ((i64.wrap (a-1)).toNat*8)) (7:Nat)) (.bool aN) fun aX=>o [.int .i64 (i64.wrap (a-1))] aX) (i [] c)) (i [] b.drew))) (Q (Value.tuple #[]) h))
theorem F223_of {data0 data0n data0c a1 b2 cmp3 w Q} (h:F223 data0 data0n data0c a1 b2 cmp3 w Q):Ret prog 223 #[.slice data0 data0n data0c,.int .i64 a1,.int .i64 b2,cmp3] w Q:=co Tryz.func223 h
def F226 (data0:Option Addr) (data0n data0c:Nat) (a1 b2:Int) (cmp3:Value) (w:World) (Q:KQ):Prop :=
 New w #[.int .i64 0] 3 fun a1_1 b=>Join (fun i a=>O_f i fun a4 c a5 j=>UnN j (li_ a a1_1 .i64 fun d=>BIf (d==0) (Q (Value.tuple #[.int .i64 c,.int .i64 1]) a) (BIf (d==12) (Q (Value.tuple #[.int .i64 c,.int .i64 2]) a) (Q (Value.tuple #[.int .i64 c,.int .i64 0]) a)))) fun e=>BIf (decide (i64.wrap (b2-a1)≥8)) (Join (fun k l=>O_f k fun f m g n=>UnN n (A_ prog 266 #[Value.slice data0 data0n data0c,.int .i64 g,.int .i64 m,.int .i64 f,.pointer (some a1_1),cmp3] l fun o p=>AsI .i64 o fun r=>e [.int .i64 f,.int .i64 r,.int .i64 g] p)) fun h=>BIf (decide (i64.wrap (b2-a1)≥50)) (A_ prog 265 #[Value.slice data0 data0n data0c,.int .i64 (i64.wrap (a1+i64.wrap (i64.wrap ((i64.wrap (b2-a1)).tdiv (4:Int))*1))),.pointer (some a1_1),cmp3] b fun t u=>AsI .i64 t fun v=>A_ prog 265 #[Value.slice data0 data0n data0c,.int .i64 (i64.wrap (a1+i64.wrap (i64.wrap ((i64.wrap (b2-a1)).tdiv (4:Int))*2))),.pointer (some a1_1),cmp3] u fun x y=>AsI .i64 x fun z=>A_ prog 265 #[Value.slice data0 data0n data0c,.int .i64 (i64.wrap (a1+i64.wrap (i64.wrap ((i64.wrap (b2-a1)).tdiv (4:Int))*3))),.pointer (some a1_1),cmp3] y fun a0 a2=>AsI .i64 a0 fun a3=>h [.int .i64 a3,.int .i64 z,.int .i64 v] a2) (h [.int .i64 (i64.wrap (a1+i64.wrap (i64.wrap ((i64.wrap (b2-a1)).tdiv (4:Int))*3))),.int .i64 (i64.wrap (a1+i64.wrap (i64.wrap ((i64.wrap (b2-a1)).tdiv (4:Int))*2))),.int .i64 (i64.wrap (a1+i64.wrap (i64.wrap ((i64.wrap (b2-a1)).tdiv (4:Int))*1)))] b)) (e [.int .i64 (i64.wrap (a1+i64.wrap (i64.wrap ((i64.wrap (b2-a1)).tdiv (4:Int))*3))),.int .i64 (i64.wrap (a1+i64.wrap (i64.wrap ((i64.wrap (b2-a1)).tdiv (4:Int))*2))),.int .i64 (i64.wrap (a1+i64.wrap (i64.wrap ((i64.wrap (b2-a1)).tdiv (4:Int))*1)))] b)
theorem F226_of {data0 data0n data0c a1 b2 cmp3 w Q} (h:F226 data0 data0n data0c a1 b2 cmp3 w Q):Ret prog 226 #[.slice data0 data0n data0c,.int .i64 a1,.int .i64 b2,cmp3] w Q:=co Tryz.func226 h
def F228 (data0:Option Addr) (data0n data0c:Nat) (a1 b2:Int) (cmp3:Value) (w:World) (Q:KQ):Prop :=
 Sh.Loop [.int .i64 0,.int .i64 (i64.wrap (a1+1)),.bool false] w fun a6 a7 z=>Uiib a7 fun a0 a8 v a9=>UnN a9 (BIf (decide (a0<5)) (Join (fun aa ab=>Uib aa fun ac ad ae=>UnN ae (a6 [.int .i64 (i64.wrap (a0+1)),.int .i64 ac,.bool ad] ab)) fun x=>Join (fun af e=>ui_ af .i64 fun c ag=>UnN ag (BIf (c==b2) (Q (.bool true) e) (BIf (decide (i64.wrap (b2-a1)<50)) (Q (.bool false) e) (NilP data0 fun k=>0≤i64.wrap (c-1)∧i64.wrap (c-1)<(↑data0n:Int)∧Ld e.drew (at0 k ((i64.wrap (c-1)).toNat*8)) fun ah=>AsI .i64 ah fun ai=>Ld e.drew (at0 (at0 k ((i64.wrap (c-1)).toNat*8)) (1:Nat)) fun aj=>AsI .u32 aj fun ak=>Ld e.drew (at0 (at0 k ((i64.wrap (c-1)).toNat*8)) (2:Nat)) fun al=>AsI .u64 al fun am=>Ld e.drew (at0 (at0 k ((i64.wrap (c-1)).toNat*8)) (3:Nat)) fun an=>AsI .i64 an fun ao=>Ld e.drew (at0 (at0 k ((i64.wrap (c-1)).toNat*8)) (4:Nat)) fun ap=>AsI .i64 ap fun aq=>Ld e.drew (at0 (at0 k ((i64.wrap (c-1)).toNat*8)) (5:Nat)) fun ar=>AsI .u32 ar fun au=>Ld e.drew (at0 (at0 k ((i64.wrap (c-1)).toNat*8)) (6:Nat)) fun av=>AsB av fun ax=>Ld e.drew (at0 (at0 k ((i64.wrap (c-1)).toNat*8)) (7:Nat)) fun ay=>AsB ay fun az=>NilP data0 fun aA=>0≤c∧c<(↑data0n:Int)∧B_ e.drew (at0 aA (c.toNat*8)) fun aB aC aD aE aF aG aH aI=>NilP data0 fun aJ=>0≤c∧c<(↑data0n:Int)∧S_8 e.drew (at0 aJ (c.toNat*8)) (.int .i64 ai) (.int .u32 ak) (.int .u64 am) (.int .i64 ao) (.int .i64 aq) (.int .u32 au) (.bool ax) (.bool az) fun aK=>NilP data0 fun l=>0≤i64.wrap (c-1)∧i64.wrap (c-1)<(↑data0n:Int)∧St aK (at0 l ((i64.wrap (c-1)).toNat*8)) (.int .i64 aB) fun aL=>St aL (at0 (at0 l ((i64.wrap (c-1)).toNat*8)) (1:Nat)) (.int .u32 aC) fun aM=>St aM (at0 (at0 l ((i64.wrap (c-1)).toNat*8)) (2:Nat)) (.int .u64 aD) fun aN=>St aN (at0 (at0 l ((i64.wrap (c-1)).toNat*8)) (3:Nat)) (.int .i64 aE) fun aO=>St aO (at0 (at0 l ((i64.wrap (c-1)).toNat*8)) (4:Nat)) (.int .i64 aF) fun aP=>St aP (at0 (at0 l ((i64.wrap (c-1)).toNat*8)) (5:Nat)) (.int .u32 aG) fun aQ=>St aQ (at0 (at0 l ((i64.wrap (c-1)).toNat*8)) (6:Nat)) (.bool aH) fun aR=>St aR (at0 (at0 l ((i64.wrap (c-1)).toNat*8)) (7:Nat)) (.bool aI) fun a2=>Join (fun aS a3=>UnN aS (BIf (decide (i64.wrap (b2-c)≥2)) (Sh.Loop [.int .i64 (i64.wrap (c+1))] a3 fun aT aU f=>ui_ aU .i64 fun a aV=>UnN aV (BIf (decide (a<b2)) (NilP data0 fun aW=>0≤a∧a<(↑data0n:Int)∧B_ f.drew (at0 aW (a.toNat*8)) fun aX aY aZ b0 b1 b3 b4 b5=>NilP data0 fun m=>0≤i64.wrap (a-1)∧i64.wrap (a-1)<(↑data0n:Int)∧Ld f.drew (at0 m ((i64.wrap (a-1)).toNat*8)) fun b6=>AsI .i64 b6 fun b7=>Ld f.drew (at0 (at0 m ((i64.wrap (a-1)).toNat*8)) (1:Nat)) fun b8=>AsI .u32 b8 fun b9=>Ld f.drew (at0 (at0 m ((i64.wrap (a-1)).toNat*8)) (2:Nat)) fun ba=>AsI .u64 ba fun bb=>Ld f.drew (at0 (at0 m ((i64.wrap (a-1)).toNat*8)) (3:Nat)) fun bc=>AsI .i64 bc fun bd=>Ld f.drew (at0 (at0 m ((i64.wrap (a-1)).toNat*8)) (4:Nat)) fun be=>AsI .i64 be fun bf=>Ld f.drew (at0 (at0 m ((i64.wrap (a-1)).toNat*8)) (5:Nat)) fun bg=>AsI .u32 bg fun bh=>Ld f.drew (at0 (at0 m ((i64.wrap (a-1)).toNat*8)) (6:Nat)) fun bi=>AsB bi fun bj=>Ld f.drew (at0 (at0 m ((i64.wrap (a-1)).toNat*8)) (7:Nat)) fun bk=>AsB bk fun bl=>FnV prog cmp3 [Value.agg #[.int .i64 aX,.int .u32 aY,.int .u64 aZ,.int .i64 b0,.int .i64 b1,.int .u32 b3,.bool b4,.bool b5],Value.agg #[.int .i64 b7,.int .u32 b9,.int .u64 bb,.int .i64 bd,.int .i64 bf,.int .u32 bh,.bool bj,.bool bl]] f.drew fun bm g=>AsI .i64 bm fun bn=>BIf (!decide (bn<0)) (x [.int .i64 c,.bool v] g) (NilP data0 fun n=>0≤i64.wrap (a-1)∧i64.wrap (a-1)<(↑data0n:Int)∧Ld g.drew (at0 n ((i64.wrap (a-1)).toNat*8)) fun bo=>AsI .i64 bo fun bp=>Ld g.drew (at0 (at0 n ((i64.wrap (a-1)).toNat*8)) (1:Nat)) fun bq=>AsI .u32 bq fun br=>Ld g.drew (at0 (at0 n ((i64.wrap (a-1)).toNat*8)) (2:Nat)) fun bs=>AsI .u64 bs fun bt=>Ld g.drew (at0 (at0 n ((i64.wrap (a-1)).toNat*8)) (3:Nat)) fun bu=>AsI .i64 bu fun bv=>Ld g.drew (at0 (at0 n ((i64.wrap (a-1)).toNat*8)) (4:Nat)) fun bx=>AsI .i64 bx fun bz=>Ld g.drew (at0 (at0 n ((i64.wrap (a-1)).toNat*8)) (5:Nat)) fun bA=>AsI .u32 bA fun bB=>Ld g.drew (at0 (at0 n ((i64.wrap (a-1)).toNat*8)) (6:Nat)) fun bC=>AsB bC fun bD=>Ld g.drew (at0 (at0 n ((i64.wrap (a-1)).toNat*8)) (7:Nat)) fun bE=>AsB bE fun bF=>NilP data0 fun bG=>0≤a∧a<(↑data0n:Int)∧B_ g.drew (at0 bG (a.toNat*8)) fun bH bI bJ bK bL bM bN bO=>NilP data0 fun bP=>0≤a∧a<(↑data0n:Int)∧S_8 g.drew (at0 bP (a.toNat*8)) (.int .i64 bp) (.int .u32 br) (.int .u64 bt) (.int .i64 bv) (.int .i64 bz) (.int .u32 bB) (.bool bD) (.bool bF) fun bQ=>NilP data0 fun o=>0≤i64.wrap (a-1)∧i64.wrap (a-1)<(↑data0n:Int)∧St bQ (at0 o ((i64.wrap (a-1)).toNat*8)) (.int .i64 bH) fun bR=>St bR (at0 (at0 o ((i64.wrap (a-1)).toNat*8)) (1:Nat)) (.int .u32 bI) fun bS=>St bS (at0 (at0 o ((i64.wrap (a-1)).toNat*8)) (2:Nat)) (.int .u64 bJ) fun bT=>St bT (at0 (at0 o ((i64.wrap (a-1)).toNat*8)) (3:Nat)) (.int .i64 bK) fun bU=>St bU (at0 (at0 o ((i64.wrap (a-1)).toNat*8)) (4:Nat)) (.int .i64 bL) fun bV=>St bV (at0 (at0 o ((i64.wrap (a-1)).toNat*8)) (5:Nat)) (.int .u32 bM) fun bW=>St bW (at0 (at0 o ((i64.wrap (a-1)).toNat*8)) (6:Nat)) (.bool bN) fun bX=>St bX (at0 (at0 o ((i64.wrap (a-1)).toNat*8)) (7:Nat)) (.bool bO) fun bY=>aT [.int .i64 (i64.wrap (a+1))] bY)) (x [.int .i64 c,.bool v] f))) (x [.int .i64 c,.bool v] a3))) fun y=>BIf (decide (i64.wrap (c-a1)≥2)) (Sh.Loop [.int .i64 (i64.wrap (c-1))] a2 fun bZ c0 h=>ui_ c0 .i64 fun b c1=>UnN c1 (BIf (decide (b≥1)) (NilP data0 fun c2=>0≤b∧b<(↑data0n:Int)∧B_ h.drew (at0 c2 (b.toNat*8)) fun c3 c4 c5 c6 c7 c8 c9 ca=>NilP data0 fun p=>0≤i64.wrap (b-1)∧i64.wrap (b-1)<(↑data0n:Int)∧Ld h.drew (at0 p ((i64.wrap (b-1)).toNat*8)) fun cb=>AsI .i64 cb fun cc=>Ld h.drew (at0 (at0 p ((i64.wrap (b-1)).toNat*8)) (1:Nat)) fun cd=>AsI .u32 cd fun cf=>Ld h.drew (at0 (at0 p ((i64.wrap (b-1)).toNat*8)) (2:Nat)) fun cg=>AsI .u64 cg fun ch=>Ld h.drew (at0 (at0 p ((i64.wrap (b-1)).toNat*8)) (3:Nat)) fun ci=>AsI .i64 ci fun cj=>Ld h.drew (at0 (at0 p ((i64.wrap (b-1)).toNat*8)) (4:Nat)) fun ck=>AsI .i64 ck fun cl=>Ld h.drew (at0 (at0 p ((i64.wrap (b-1)).toNat*8)) (5:Nat)) fun cm=>AsI .u32 cm fun cn=>Ld h.drew (at0 (at0 p ((i64.wrap (b-1)).toNat*8)) (6:Nat)) fun co=>AsB co fun cp=>Ld h.drew (at0 (at0 p ((i64.wrap (b-1)).toNat*8)) (7:Nat)) fun cq=>AsB cq fun cr=>FnV prog cmp3 [Value.agg #[.int .i64 c3,.int .u32 c4,.int .u64 c5,.int .i64 c6,.int .i64 c7,.int .u32 c8,.bool c9,.bool ca],Value.agg #[.int .i64 cc,.int .u32 cf,.int .u64 ch,.int .i64 cj,.int .i64 cl,.int .u32 cn,.bool cp,.bool cr]] h.drew fun cs i=>AsI .i64 cs fun ct=>BIf (!decide (ct<0)) (y [] i) (NilP data0 fun r=>0≤i64.wrap (b-1)∧i64.wrap (b-1)<(↑data0n:Int)∧Ld i.drew (at0 r ((i64.wrap (b-1)).toNat*8)) fun cu=>AsI .i64 cu fun cv=>Ld i.drew (at0 (at0 r ((i64.wrap (b-1)).toNat*8)) (1:Nat)) fun cx=>AsI .u32 cx fun cy=>Ld i.drew (at0 (at0 r ((i64.wrap (b-1)).toNat*8)) (2:Nat)) fun cz=>AsI .u64 cz fun cA=>Ld i.drew (at0 (at0 r ((i64.wrap (b-1)).toNat*8)) (3:Nat)) fun cB=>AsI .i64 cB fun cC=>Ld i.drew (at0 (at0 r ((i64.wrap (b-1)).toNat*8)) (4:Nat)) fun cD=>AsI .i64 cD fun cE=>Ld i.drew (at0 (at0 r ((i64.wrap (b-1)).toNat*8)) (5:Nat)) fun cF=>AsI .u32 cF fun cG=>Ld i.drew (at0 (at0 r ((i64.wrap (b-1)).toNat*8)) (6:Nat)) fun cH=>AsB cH fun cI=>Ld i.drew (at0 (at0 r ((i64.wrap (b-1)).toNat*8)) (7:Nat)) fun cJ=>AsB cJ fun cK=>NilP data0 fun cL=>0≤b∧b<(↑data0n:Int)∧B_ i.drew (at0 cL (b.toNat*8)) fun cM cN cO cP cQ cR cS cT=>NilP data0 fun cU=>0≤b∧b<(↑data0n:Int)∧S_8 i.drew (at0 cU (b.toNat*8)) (.int .i64 cv) (.int .u32 cy) (.int .u64 cA) (.int .i64 cC) (.int .i64 cE) (.int .u32 cG) (.bool cI) (.bool cK) fun cV=>NilP data0 fun t=>0≤i64.wrap (b-1)∧i64.wrap (b-1)<(↑data0n:Int)∧St cV (at0 t ((i64.wrap (b-1)).toNat*8)) (.int .i64 cM) fun cW=>St cW (at0 (at0 t ((i64.wrap (b-1)).toNat*8)) (1:Nat)) (.int .u32 cN) fun cX=>St cX (at0 (at0 t ((i64.wrap (b-1)).toNat*8)) (2:Nat)) (.int .u64 cO) fun cY=>St cY (at0 (at0 t ((i64.wrap (b-1)).toNat*8)) (3:Nat)) (.int .i64 cP) fun cZ=>St cZ (at0 (at0 t ((i64.wrap (b-1)).toNat*8)) (4:Nat)) (.int .i64 cQ) fun d0=>St d0 (at0 (at0 t ((i64.wrap (b-1)).toNat*8)) (5:Nat)) (.int .u32 cR) fun d1=>St d1 (at0 (at0 t ((i64.wrap (b-1)).toNat*8)) (6:Nat)) (.bool cS) fun d2=>St d2 (at0 (at0 t ((i64.wrap (b-1)).toNat*8)) (7:Nat)) (.bool cT) fun d3=>bZ [.int .i64 (i64.wrap (b-1))] d3)) (y [] h))) (y [] a2))))) fun a4=>Sh.Loop [.int .i64 a8] z fun d4 d5 j=>ui_ d5 .i64 fun d d6=>UnN d6 (BIf (decide (d<b2)) (NilP data0 fun d7=>0≤d∧d<(↑data0n:Int)∧B_ j.drew (at0 d7 (d.toNat*8)) fun d8 d9 da db dc dd de df=>NilP data0 fun u=>0≤i64.wrap (d-1)∧i64.wrap (d-1)<(↑data0n:Int)∧Ld j.drew (at0 u ((i64.wrap (d-1)).toNat*8)) fun dg=>AsI .i64 dg fun dh=>Ld j.drew (at0 (at0 u ((i64.wrap (d-1)).toNat*8)) (1:Nat)) fun di=>AsI .u32 di fun dj=>Ld j.drew (at0 (at0 u ((i64.wrap (d-1)).toNat*8)) (2:Nat)) fun dk=>AsI .u64 dk fun dl=>Ld j.drew (at0 (at0 u ((i64.wrap (d-1)).toNat*8)) (3:Nat)) fun dm=>AsI .i64 dm fun dn=>Ld j.drew (at0 (at0 u ((i64.wrap (d-1)).toNat*8)) (4:Nat)) fun dp=>AsI .i64 dp fun dq=>Ld j.drew (at0 (at0 u ((i64.wrap (d-1)).toNat*8)) (5:Nat)) fun dr=>AsI .u32 dr fun ds=>Ld j.drew (at0 (at0 u ((i64.wrap (d-1)).toNat*8)) (6:Nat)) fun dt=>AsB dt fun du=>Ld j.drew (at0 (at0 u ((i64.wrap (d-1)).toNat*8)) (7:Nat)) fun dv=>AsB dv fun dx=>FnV prog cmp3 [Value.agg #[.int .i64 d8,.int .u32 d9,.int .u64 da,.int .i64 db,.int .i64 dc,.int .u32 dd,.bool de,.bool df],Value.agg #[.int .i64 dh,.int .u32 dj,.int .u64 dl,.int .i64 dn,.int .i64 dq,.int .u32 ds,.bool du,.bool dx]] j.drew fun dy a5=>AsI .i64 dy fun dz=>BIf (!decide (dz<0)) (d4 [.int .i64 (i64.wrap (d+1))] a5) (a4 [.int .i64 d] a5)) (a4 [.int .i64 d] j.drew))) (Q (.bool false) z))
theorem F228_of {data0 data0n data0c a1 b2 cmp3 w Q} (h:F228 data0 data0n data0c a1 b2 cmp3 w Q):Ret prog 228 #[.slice data0 data0n data0c,.int .i64 a1,.int .i64 b2,cmp3] w Q:=co Tryz.func228 h
def F232 (x0:Int) (w:World) (Q:KQ):Prop :=
 Q (.bool (x0 != x0)) w
theorem F232_of {x0 w Q} (h:F232 x0 w Q):Ret prog 232 #[.int .i64 x0] w Q:=co Tryz.func232 h
def F265 (data0:Option Addr) (data0n data0c:Nat) (a1:Int) (swaps2:Addr) (cmp3:Value) (w:World) (Q:KQ):Prop :=
 A_ prog 266 #[Value.slice data0 data0n data0c,.int .i64 (i64.wrap (a1-1)),.int .i64 a1,.int .i64 (i64.wrap (a1+1)),.pointer (some swaps2),cmp3] w fun a b=>AsI .i64 a fun c=>Q (.int .i64 c) b
theorem F265_of {data0 data0n data0c a1 swaps2 cmp3 w Q} (h:F265 data0 data0n data0c a1 swaps2 cmp3 w Q):Ret prog 265 #[.slice data0 data0n data0c,.int .i64 a1,.pointer (some swaps2),cmp3] w Q:=co Tryz.func265 h
def F266 (data0:Option Addr) (data0n data0c:Nat) (a1 b2 c3:Int) (swaps4:Addr) (cmp5:Value) (w:World) (Q:KQ):Prop :=
 A_ prog 285 #[Value.slice data0 data0n data0c,.int .i64 a1,.int .i64 b2,.pointer (some swaps4),cmp5] w fun a b=>I_ a fun c=>Uii c fun d e f=>UnN f (A_ prog 285 #[Value.slice data0 data0n data0c,.int .i64 e,.int .i64 c3,.pointer (some swaps4),cmp5] b fun g h=>I_ g fun i=>Uii i fun j r k=>UnN k (A_ prog 285 #[Value.slice data0 data0n data0c,.int .i64 d,.int .i64 j,.pointer (some swaps4),cmp5] h fun l m=>I_ l fun n=>Uii n fun t o p=>UnN p (Q (.int .i64 o) m)))
theorem F266_of {data0 data0n data0c a1 b2 c3 swaps4 cmp5 w Q} (h:F266 data0 data0n data0c a1 b2 c3 swaps4 cmp5 w Q):Ret prog 266 #[.slice data0 data0n data0c,.int .i64 a1,.int .i64 b2,.int .i64 c3,.pointer (some swaps4),cmp5] w Q:=co Tryz.func266 h
def F285 (data0:Option Addr) (data0n data0c:Nat) (a1 b2:Int) (swaps3:Addr) (cmp4:Value) (w:World) (Q:KQ):Prop :=
 NilP data0 fun a1_1=>0≤b2∧b2<(↑data0n:Int)∧B_ w.drew (at0 a1_1 (b2.toNat*8)) fun b c d e f g h i=>NilP data0 fun j=>0≤a1∧a1<(↑data0n:Int)∧B_ w.drew (at0 j (a1.toNat*8)) fun k l m n o p r t=>FnV prog cmp4 [Value.agg #[.int .i64 b,.int .u32 c,.int .u64 d,.int .i64 e,.int .i64 f,.int .u32 g,.bool h,.bool i],Value.agg #[.int .i64 k,.int .u32 l,.int .u64 m,.int .i64 n,.int .i64 o,.int .u32 p,.bool r,.bool t]] w.drew fun u a=>AsI .i64 u fun v=>BIf (decide (v<0)) (li_ a swaps3 .i64 fun x=>St a swaps3 (.int .i64 (i64.wrap (x+1))) fun y=>Q (Value.tuple #[.int .i64 b2,.int .i64 a1]) y) (Q (Value.tuple #[.int .i64 a1,.int .i64 b2]) a)
theorem F285_of {data0 data0n data0c a1 b2 swaps3 cmp4 w Q} (h:F285 data0 data0n data0c a1 b2 swaps3 cmp4 w Q):Ret prog 285 #[.slice data0 data0n data0c,.int .i64 a1,.int .i64 b2,.pointer (some swaps3),cmp4] w Q:=co Tryz.func285 h
end Go.Proofs.YtmgjicnipgdjhaaGreatDoor
set_option maxRecDepth 10000
namespace Go.Proofs.YtmgjicnipgdjhaaGreatDoor
open Go Go.Sh
open Go.IntKind (i64 u64 u32)
theorem w_f (k j:Nat) {x y:Nat} (hy:y%2^k=0) (hy2:y<2^(k+j)) (hx:x/2^k%2^j=0):x ||| y=x+y:=by
 have e1:x=2^(k+j)*(x/2^(k+j))+x%2^k:=by
  have h1:=Nat.div_add_mod x (2^k);have h2:=Nat.div_add_mod (x/2^k) (2^j);rw [hx,Nat.add_zero,Nat.div_div_eq_div_mul,←Nat.pow_add] at h2;rw [←h2,←Nat.mul_assoc,←Nat.pow_add] at h1;exact h1.symm
 have hL:x%2^k<2^k:=Nat.mod_lt _ (Nat.two_pow_pos k);have hkj:2^k≤2^(k+j):=Nat.pow_le_pow_right (by decide) (by omega);have ey:y=2^k*(y/2^k):=by have:=Nat.div_add_mod y (2^k);omega
 generalize x/2^(k+j)=H at e1;generalize x%2^k=L at e1 hL;subst e1;have h3:L ||| y=y+L:=by
  rw [Nat.or_comm]
  conv=>lhs;rw [ey]
  rw [←Nat.two_pow_add_eq_or_of_lt hL,←ey]
 have h4:y+L<2^(k+j):=by
  have hm:2^(k+j)=2^k*2^j:=Nat.pow_add _ _ _;have h5:y/2^k<2^j:=by rw [Nat.div_lt_iff_lt_mul (Nat.two_pow_pos k)];rw [Nat.mul_comm,←hm];exact hy2
  have h6:2^k*(y/2^k+1)≤2^k*2^j:=Nat.mul_le_mul_left _ h5;rw [Nat.mul_add,Nat.mul_one,←ey,←hm] at h6;omega
 rw [Nat.two_pow_add_eq_or_of_lt (Nat.lt_of_lt_of_le hL hkj),Nat.or_assoc,h3,←Nat.two_pow_add_eq_or_of_lt h4];rw [←Nat.two_pow_add_eq_or_of_lt (Nat.lt_of_lt_of_le hL hkj)];omega
theorem T_ (k j:Nat) {x y:Nat} (hy:y%2^k=0) (hy2:y<2^(k+j)) (hx:x/2^k%2^j=0) (h1:x<2^32) (h2:y<2^32):orI .u32 (x:Int) (y:Int)=((x+y:Nat):Int):=by
 rw [F_k h1 h2,w_f k j hy hy2 hx]
theorem Q_g {x N k:Nat} (hk:k≤N) (hx:x<2^N):x &&& (2^N-2^k)=x/2^k*2^k:=by
 have e:2^N-2^k=(2^(N-k)-1) <<< k:=by
  rw [Nat.shiftLeft_eq,Nat.sub_mul,Nat.one_mul,←Nat.pow_add,Nat.sub_add_cancel hk]
 rw [e,←Nat.shiftLeft_eq,←Nat.shiftRight_eq_div_pow]
 apply Nat.eq_of_testBit_eq
 intro i;rw [Nat.testBit_and,Nat.testBit_shiftLeft,Nat.testBit_shiftLeft,Nat.testBit_two_pow_sub_one,Nat.testBit_shiftRight];by_cases h1:k≤i
 ·rw [decide_eq_true h1,Bool.true_and,Bool.true_and,show k+(i-k)=i by omega];by_cases h2:i<N
  ·rw [decide_eq_true (show i-k<N-k by omega),Bool.and_true]
  ·rw [decide_eq_false (show ¬i-k<N-k by omega),Bool.and_false,Nat.testBit_lt_two_pow (Nat.lt_of_lt_of_le hx (Nat.pow_le_pow_right (by decide) (by omega)))]
 ·rw [decide_eq_false h1];simp
theorem d_i {x k:Nat} (hk:k≤32) (hx:x<2^32):n_ .u32 (x:Int) ((2^k-1:Nat):Int)=((x/2^k*2^k:Nat):Int):=by
 have h0:2^k≤2^32:=Nat.pow_le_pow_right (by decide) hk;have hp:=Nat.two_pow_pos k;have e:n_ .u32 (x:Int) ((2^k-1:Nat):Int)=((x &&& (2^32-1-(2^k-1)):Nat):Int):=by
  have h1:=y_ 32 x hx;have h2:=y_ 32 (2^k-1) (by omega);unfold n_;rw [show u32.bits=32 from rfl,BitVec.toNat_and,BitVec.toNat_not,h1,h2];exact T_a _ (Nat.lt_of_le_of_lt Nat.and_le_left hx)
 rw [e,show 2^32-1-(2^k-1)=2^32-2^k by omega,Q_g hk hx]
theorem fap1:∀a:Nat,a<8→l_ .u32 (W_ .u32 (u32.wrap (a:Int)) 2) 15=((a/4*32768:Nat):Int):=by decide +kernel
theorem fap2:∀a:Nat,a<8→l_ .u32 (Q_ .u32 (u32.wrap (a:Int)) 3) 10=((a%4*1024:Nat):Int):=by decide +kernel
theorem fap3:∀a:Nat,a<8→l_ .u32 (W_ .u32 (u32.wrap (a:Int)) 2) 9=((a/4*512:Nat):Int):=by decide +kernel
theorem fap4:∀a:Nat,a<8→l_ .u32 (Q_ .u32 (u32.wrap (a:Int)) 3) 4=((a%4*16:Nat):Int):=by decide +kernel
theorem fb1:∀b:Nat,b<64→l_ .u32 (W_ .u32 (b:Int) 3) 12=((b/8*4096:Nat):Int):=by decide +kernel
theorem fb2:∀b:Nat,b<64→l_ .u32 (Q_ .u32 (W_ .u32 (b:Int) 1) 3) 2=((b/2%4*4:Nat):Int):=by decide +kernel
theorem fb3:∀b:Nat,b<64→l_ .u32 (Q_ .u32 (b:Int) 1) 16=((b%2*65536:Nat):Int):=by decide +kernel
theorem fb4:∀b:Nat,b<64→l_ .u32 (Q_ .u32 (b:Int) 1) 10=((b%2*1024:Nat):Int):=by decide +kernel
theorem fb5:∀b:Nat,b<64→l_ .u32 (W_ .u32 (b:Int) 3) 6=((b/8*64:Nat):Int):=by decide +kernel
theorem fdm:∀d:Nat,d<16→l_ .u32 (u32.wrap (d:Int)) 5=((d*32:Nat):Int):=by decide +kernel
theorem f1x (b:Bool):d_f b 17=((b.toNat*131072:Nat):Int)∧d_f b 4=((b.toNat*16:Nat):Int)∧d_f b 11=((b.toNat*2048:Nat):Int)∧d_f b 15=((b.toNat*32768:Nat):Int)∧d_f b 0=((b.toNat*1:Nat):Int):=by cases b<;>decide +kernel
theorem f0x:d_f false 19=((0:Nat):Int)∧d_f false 3=((0:Nat):Int):=by decide
theorem bl (b:Bool):b.toNat≤1:=by cases b<;>decide
theorem encS_eq {base d a b:Nat} (g x:Bool) (hb:base%1048576=0) (hl:base<2^32) (hd:d<16) (ha:a<8) (hbt:b<64) :
  encS base d false a b g x=((base+d*32+(a/4*32768+a%4*1024+b/8*4096+b/2%4*4+b%2*65536+g.toNat*131072+x.toNat*16+2):Nat):Int):=by
 have hg:=bl g;have hx:=bl x;unfold encS;rw [fap1 a ha,fap2 a ha,fb1 b hbt,fb2 b hbt,fb3 b hbt,(f1x g).1,(f1x x).2.1,f0x.1,fdm d hd,T_a base hl,show (2:Int)=((2:Nat):Int) from rfl];have p1:a/4≤1:=by omega
 have p2:a%4≤3:=by omega
 have p3:b/8≤7:=by omega
 have p4:b/2%4≤3:=by omega
 have p5:b%2≤1:=by omega
 generalize a/4=a1 at *;generalize a%4=a2 at *;generalize b/8=b1 at *;generalize b/2%4=b2 at *;generalize b%2=b3 at *;generalize g.toNat=g1 at *;generalize x.toNat=x1 at *;rw [T_ 10 2 (by omega) (by omega) (by omega) (by omega) (by omega),T_ 12 3 (by omega) (by omega) (by omega) (by omega) (by omega),T_ 2 2 (by omega) (by omega) (by omega) (by omega) (by omega),
  T_ 16 1 (by omega) (by omega) (by omega) (by omega) (by omega),T_ 17 1 (by omega) (by omega) (by omega) (by omega) (by omega),T_ 4 1 (by omega) (by omega) (by omega) (by omega) (by omega),
  T_ 0 0 (by omega) (by omega) (by omega) (by omega) (by omega),T_ 1 1 (by omega) (by omega) (by omega) (by omega) (by omega),T_ 20 12 (by omega) (by omega) (by omega) (by omega) (by omega),T_ 5 4 (by omega) (by omega) (by omega) (by omega) (by omega)]
 refine congrArg (fun x:Nat=>(x:Int)) ?_;omega
theorem encT_eq {base d:Nat} (hb:base%1024=0) (hl:base<2^32) (hd:d<16):encT base d false=((base+d*32+1:Nat):Int):=by
 unfold encT;rw [T_a base hl,fdm d hd,f0x.2,show (1:Int)=((1:Nat):Int) from rfl];rw [T_ 5 4 (by omega) (by omega) (by omega) (by omega) (by omega),T_ 0 0 (by omega) (by omega) (by omega) (by omega) (by omega),T_ 0 1 (by omega) (by omega) (by omega) (by omega) (by omega)]
theorem encL_eq {base a b:Nat} (g x:Bool) (hb:base%65536=0) (hl:base<2^32) (ha:a<8) (hbt:b<64) :
  encL base a b g x=((base+(a/4*512+a%4*16+b/2%4*4+b%2*1024+g.toNat*2048+b/8*4096+x.toNat*32768+1):Nat):Int):=by
 have hg:=bl g;have hx:=bl x;unfold encL;rw [fap3 a ha,fap4 a ha,fb1 b hbt,fb2 b hbt,fb4 b hbt,(f1x g).2.2.1,(f1x x).2.2.2.1,T_a base hl,show (1:Int)=((1:Nat):Int) from rfl];have p1:a/4≤1:=by omega
 have p2:a%4≤3:=by omega
 have p3:b/8≤7:=by omega
 have p4:b/2%4≤3:=by omega
 have p5:b%2≤1:=by omega
 generalize a/4=a1 at *;generalize a%4=a2 at *;generalize b/8=b1 at *;generalize b/2%4=b2 at *;generalize b%2=b3 at *;generalize g.toNat=g1 at *;generalize x.toNat=x1 at *;rw [T_ 9 1 (by omega) (by omega) (by omega) (by omega) (by omega),T_ 4 2 (by omega) (by omega) (by omega) (by omega) (by omega),T_ 2 2 (by omega) (by omega) (by omega) (by omega) (by omega),T_ 10 1 (by omega) (by omega) (by omega) (by omega) (by omega),
  T_ 11 1 (by omega) (by omega) (by omega) (by omega) (by omega),T_ 12 3 (by omega) (by omega) (by omega) (by omega) (by omega),T_ 15 1 (by omega) (by omega) (by omega) (by omega) (by omega),T_ 0 1 (by omega) (by omega) (by omega) (by omega) (by omega)]
 refine congrArg (fun x:Nat=>(x:Int)) ?_;omega
theorem encP_eq {base a b:Nat} (g x:Bool) (hb:base%4096=0) (hl:base<2^32) (ha:a<8) (hbt:b<64) :
  encP base a b g x=((base+(a/4*512+a%4*16+b/2%4*4+b%2*1024+g.toNat*2048+b/8*64+x.toNat*1+2):Nat):Int):=by
 have hg:=bl g;have hx:=bl x;unfold encP;rw [fap3 a ha,fap4 a ha,fb5 b hbt,fb2 b hbt,fb4 b hbt,(f1x g).2.2.1,(f1x x).2.2.2.2,T_a base hl,show (2:Int)=((2:Nat):Int) from rfl];have p1:a/4≤1:=by omega
 have p2:a%4≤3:=by omega
 have p3:b/8≤7:=by omega
 have p4:b/2%4≤3:=by omega
 have p5:b%2≤1:=by omega
 generalize a/4=a1 at *;generalize a%4=a2 at *;generalize b/8=b1 at *;generalize b/2%4=b2 at *;generalize b%2=b3 at *;generalize g.toNat=g1 at *;generalize x.toNat=x1 at *;rw [T_ 9 1 (by omega) (by omega) (by omega) (by omega) (by omega),T_ 4 2 (by omega) (by omega) (by omega) (by omega) (by omega),T_ 2 2 (by omega) (by omega) (by omega) (by omega) (by omega),T_ 10 1 (by omega) (by omega) (by omega) (by omega) (by omega),
  T_ 11 1 (by omega) (by omega) (by omega) (by omega) (by omega),T_ 6 3 (by omega) (by omega) (by omega) (by omega) (by omega),T_ 0 1 (by omega) (by omega) (by omega) (by omega) (by omega),T_ 1 1 (by omega) (by omega) (by omega) (by omega) (by omega)]
 refine congrArg (fun x:Nat=>(x:Int)) ?_;omega
theorem ub1 {base:Nat} (h:base<2^40):u32.wrap (Q_ .u64 (base:Int) 4278190080)=((base/16777216%256*16777216:Nat):Int):=by
 rw [show (4278190080:Int)=((4278190080:Nat):Int) from rfl,b_e (by omega) (by omega)];have e:base &&& 4278190080=base%4294967296/16777216*16777216:=by
  have h1:base &&& 4278190080=(base &&& (2^32-1)) &&& (2^32-2^24):=by
   rw [Nat.and_assoc,show ((2^32-1:Nat) &&& (2^32-2^24))=4278190080 from by decide]
  have h2:=Q_g (x:=base%2^32) (N:=32) (k:=24) (by decide) (Nat.mod_lt _ (by decide));rw [h1,Nat.and_two_pow_sub_one_eq_mod];exact h2
 rw [e,T_a _ (by omega)];refine congrArg (fun x:Nat=>(x:Int)) ?_;omega
theorem ub2 {base:Nat} (h:base<2^40) (s:Nat) (hs:s=32∨s=36):u32.wrap (Q_ .u64 (W_ .u64 (base:Int) (s:Int)) 15)=((base/2^s%16:Nat):Int):=by
 have hs64:s≤64:=by omega
 rw [J_a hs64,Nat.shiftRight_eq_div_pow,show (15:Int)=((15:Nat):Int) from rfl,b_e (by rcases hs with rfl|rfl<;>omega) (by omega),show (15:Nat)=2^4-1 from rfl,Nat.and_two_pow_sub_one_eq_mod,T_a _ (by omega)]
theorem fd20:∀d:Nat,d<16→l_ .u32 (d:Int) 20=((d*1048576:Nat):Int):=by decide +kernel
theorem fd5:∀d:Nat,d<16→l_ .u32 (d:Int) 5=((d*32:Nat):Int):=by decide +kernel
theorem encU_eq {base d a b:Nat} (g x:Bool) (hb:base%16777216=0) (hl:base<2^40) (ha:a<8) (hbt:b<64) :
  encU base d false a b g x=((base/16777216%256*16777216+base/4294967296%16*1048576+base/68719476736%16*32+(a/4*32768+a%4*1024+b/8*4096+b/2%4*4+b%2*65536+g.toNat*131072+x.toNat*16+262144+2):Nat):Int):=by
 have hg:=bl g;have hx:=bl x;have u2:=ub2 hl 32 (.inl rfl);have u3:=ub2 hl 36 (.inr rfl);simp only [Nat.reducePow] at u2 u3;have u2:u32.wrap (Q_ .u64 (W_ .u64 (base:Int) 32) 15)=((base/4294967296%16:Nat):Int):=u2;have u3:u32.wrap (Q_ .u64 (W_ .u64 (base:Int) 36) 15)=((base/68719476736%16:Nat):Int):=u3;unfold encU;rw [fap1 a ha,fap2 a ha,fb1 b hbt,fb2 b hbt,fb3 b hbt,(f1x g).1,(f1x x).2.1,f0x.1,ub1 hl,u2,u3,fd20 _ (by omega),fd5 _ (by omega),show (2:Int)=((2:Nat):Int) from rfl,show (262144:Int)=((262144:Nat):Int) from rfl];have hp1:base/16777216%256<256:=by omega
 generalize base/16777216%256=q1 at *;have hp2:base/4294967296%16<16:=by omega
 have hp3:base/68719476736%16<16:=by omega
 generalize base/4294967296%16=q2 at *;generalize base/68719476736%16=q3 at *;have p1:a/4≤1:=by omega
 have p2:a%4≤3:=by omega
 have p3:b/8≤7:=by omega
 have p4:b/2%4≤3:=by omega
 have p5:b%2≤1:=by omega
 generalize a/4=a1 at *;generalize a%4=a2 at *;generalize b/8=b1 at *;generalize b/2%4=b2 at *;generalize b%2=b3 at *;generalize g.toNat=g1 at *;generalize x.toNat=x1 at *;rw [T_ 10 2 (by omega) (by omega) (by omega) (by omega) (by omega),T_ 12 3 (by omega) (by omega) (by omega) (by omega) (by omega),T_ 2 2 (by omega) (by omega) (by omega) (by omega) (by omega),
  T_ 16 1 (by omega) (by omega) (by omega) (by omega) (by omega),T_ 17 1 (by omega) (by omega) (by omega) (by omega) (by omega),T_ 4 1 (by omega) (by omega) (by omega) (by omega) (by omega),
  T_ 0 0 (by omega) (by omega) (by omega) (by omega) (by omega),T_ 1 1 (by omega) (by omega) (by omega) (by omega) (by omega),T_ 24 8 (by omega) (by omega) (by omega) (by omega) (by omega),T_ 20 4 (by omega) (by omega) (by omega) (by omega) (by omega),
  T_ 5 4 (by omega) (by omega) (by omega) (by omega) (by omega),T_ 18 1 (by omega) (by omega) (by omega) (by omega) (by omega)]
 refine congrArg (fun x:Nat=>(x:Int)) ?_;omega
end Go.Proofs.YtmgjicnipgdjhaaGreatDoor
namespace Go.Sh
variable {P:Program}
def StAll (b:Nat):Nat→List Value→World→(World→Prop)→Prop
 | _,[],w,K=>K w
 | i,v :: vs,w,K=>St w ⟨b,i,none⟩ v fun w'=>StAll b (i+1) vs w' K
theorem StAll.mk {b:Nat} {K:World→Prop}:∀(vs:List Value) (i:Nat) {w:World} {cs:List Value},Has w b cs→cs.length=i+vs.length→(∀v∈vs,v.oneCell'=true)→(∀w',Has w' b (cs.take i++vs)→Fr (·=b) w w'→w'.heap.size=w.heap.size→K w')→StAll b i vs w K
 | [],i,w,cs,h,hl,h1,k=>k w (by rw [List.take_of_length_le (by simp at hl;omega),List.append_nil];exact h) (Fr.refl _ _) rfl
 | v :: vs,i,w,cs,h,hl,h1,k=>by
  rw [List.length_cons] at hl;refine h.st (by omega) (h1 v (by simp)) fun w2 n2 f2 s2=>?_;refine StAll.mk vs (i+1) n2 (by rw [List.length_set];omega) (fun u hu=>h1 u (by simp [hu])) fun w3 n3 f3 s3=>k w3 ?_ (f2.trans f3) (by omega);have e:(cs.set i v).take (i+1)=cs.take i++[v]:=by
   rw [List.take_add_one,List.getElem?_set_self (by omega),List.take_set_of_le (Nat.le_refl _)]
   rfl
  rw [e,List.append_assoc] at n3;exact n3
end Go.Sh
set_option maxRecDepth 10000
namespace Go.Proofs.YtmgjicnipgdjhaaGreatDoor
open Go Go.Sh
open Go.IntKind (i64 u64 u32)
theorem R_ {P:Program} {f:FuncId} {args:Array Value} {w:World} {r:Value} {K:Value→World→Prop} (h:Ret P f args w fun v w'=>v=r∧w'=w) (k:K r w):A_ P f args w K :=
 h.use (by rintro _ _ ⟨rfl,rfl⟩;exact k)
theorem w_e {w:World} (x hi lo:Nat) {p q:Nat} (hp:2^lo=p) (hq:2^(hi-lo+1)=q) (h1:lo≤hi) (h2:hi-lo<24) (h3:lo≤32) (hx:x<2^32) :
  Ret prog 164 #[.int .u32 (x:Int),.int .u64 (hi:Int),.int .u64 (lo:Int)] w fun v w'=>v=.int .u32 ((x/p%q:Nat):Int)∧w'=w:=by
 subst hp hq;refine F164_of ?_;unfold F164;have hp:2^(hi-lo+1)≤2^24:=Nat.pow_le_pow_right (by decide) (by omega);have hpos:=Nat.two_pow_pos (hi-lo+1);refine NN.mk (by omega) ?_;rw [b_a (n:=(hi:Int)-lo) (by omega) (by omega),b_a (n:=(hi:Int)-lo+1) (by omega) (by omega),show (hi:Int)-lo+1=((hi-lo+1:Nat):Int) by omega];refine NN.mk (by omega) ⟨?_,rfl⟩;have e1:l_ .u32 1 ((hi-lo+1:Nat):Int)=((2^(hi-lo+1):Nat):Int):=by
  have:=C_d (a:=1) (n:=hi-lo+1) (by omega) (by rw [Nat.shiftLeft_eq,Nat.one_mul];omega);rw [Nat.shiftLeft_eq,Nat.one_mul] at this;exact this
 rw [e1,J_a (k:=.u32) (n:=lo) h3,show ((2^(hi-lo+1):Nat):Int)-1=((2^(hi-lo+1)-1:Nat):Int) by omega,T_a _ (by omega)];have hs:x >>> lo<2^32:=Nat.lt_of_le_of_lt (by rw [Nat.shiftRight_eq_div_pow];exact Nat.div_le_self _ _) hx;rw [c_e hs (by omega),Nat.and_two_pow_sub_one_eq_mod,Nat.shiftRight_eq_div_pow]
theorem f165 {w:World} (x i:Nat) {p:Nat} {b:Bool} (hp:2^i=p) (hi:i≤32) (hx:x<2^32) (hb:x/p%2=b.toNat):Ret prog 165 #[.int .u32 (x:Int),.int .u64 (i:Int)] w fun v w'=>v=.bool b∧w'=w:=by
 subst hp;refine F165_of ?_;unfold F165;refine NN.mk (by omega) ⟨?_,rfl⟩;have hs:x >>> i<2^32:=Nat.lt_of_le_of_lt (by rw [Nat.shiftRight_eq_div_pow];exact Nat.div_le_self _ _) hx;rw [J_a (k:=.u32) (n:=i) hi,show (1:Int)=((1:Nat):Int) from rfl,c_e hs (by omega),show (1:Nat)=2^1-1 from rfl,Nat.and_two_pow_sub_one_eq_mod,Nat.shiftRight_eq_div_pow,show (2:Nat)^1=2 from rfl,hb];cases b<;>rfl
theorem u_k:∀a:Nat,a<8→i64.wrap (u32.wrap (u32.wrap (4*((a/4:Nat):Int))+((a%4:Nat):Int)))=(a:Int):=by decide +kernel
theorem bits_sum:∀b:Nat,b<64→u32.wrap (u32.wrap (u32.wrap (8*((b/8:Nat):Int))+u32.wrap (2*((b/2%4:Nat):Int)))+((b%2:Nat):Int))=(b:Int):=by decide +kernel
theorem L_h:∀b:Nat,b<64→u32.wrap (u32.wrap (u32.wrap (2*((b/2%4:Nat):Int))+((b%2:Nat):Int))+u32.wrap (8*((b/8:Nat):Int)))=(b:Int):=by decide +kernel
theorem l_k:∀d:Nat,d<16→i64.wrap (d:Int)=(d:Int):=by decide +kernel
theorem F_f {x k m base:Nat} (hk:k≤32) (hx:x<2^32) (hm:((m:Nat):Int)=((2^k-1:Nat):Int)) (hb:x/2^k*2^k=base):u64.wrap (n_ .u32 (x:Int) (m:Int))=(base:Int):=by
 rw [hm,d_i hk hx,hb,N_b _ (by have:=Nat.div_mul_le_self x (2^k);omega)]
theorem encS_f {base d a b:Nat} (g x:Bool) (hb:base%1048576=0) (hl:base<2^32) (hd:d<16) (ha:a<8) (hbt:b<64):∃X:Nat,encS base d false a b g x=(X:Int)∧X<2^32∧X/1%4=2∧X/32%16=d∧X/524288%2=false.toNat ∧
  X/262144%2=false.toNat∧X/2^20*2^20=base∧X/32768%2=a/4∧X/1024%4=a%4∧X/4096%8=b/8∧X/4%4=b/2%4∧X/65536%2=b%2∧X/131072%2=g.toNat∧X/16%2=x.toNat:=by
 refine⟨_,encS_eq g x hb hl hd ha hbt,?_⟩;have hg:=bl g;have hx:=bl x;have p1:a/4≤1:=by omega
 have p2:a%4≤3:=by omega
 have p3:b/8≤7:=by omega
 have p4:b/2%4≤3:=by omega
 have p5:b%2≤1:=by omega
 generalize a/4=a1 at *;generalize a%4=a2 at *;generalize b/8=b1 at *;generalize b/2%4=b2 at *;generalize b%2=b3 at *;generalize g.toNat=g1 at *;generalize x.toNat=x1 at *;rw [show false.toNat=0 from rfl];refine⟨by omega,by omega,by omega,by omega,by omega,by omega,by omega,by omega,by omega,by omega,by omega,by omega,by omega⟩
theorem encT_f {base d:Nat} (hb:base%1024=0) (hl:base<2^32) (hd:d<16):∃X:Nat,encT base d false=(X:Int)∧X<2^32∧X/1%4=1∧X/32%16=d∧X/8%2=false.toNat∧X/2^10*2^10=base:=by
 refine⟨_,encT_eq hb hl hd,?_⟩;rw [show false.toNat=0 from rfl];refine⟨by omega,by omega,by omega,by omega,by omega⟩
theorem encU_f {base d a b:Nat} (g x:Bool) (hb:base%16777216=0) (hl:base<2^40) (ha:a<8) (hbt:b<64):∃X:Nat,encU base d false a b g x=(X:Int)∧X<2^32∧X/1%4=2∧X/524288%2=false.toNat ∧
  X/262144%2=true.toNat∧X/2^24*2^24=base/16777216%256*16777216∧X/1048576%16=base/4294967296%16∧X/32%16=base/68719476736%16∧X/32768%2=a/4∧X/1024%4=a%4∧X/4096%8=b/8∧X/4%4=b/2%4∧X/65536%2=b%2∧X/131072%2=g.toNat∧X/16%2=x.toNat:=by
 refine⟨_,encU_eq g x hb hl ha hbt,?_⟩;have hg:=bl g;have hx:=bl x;have p1:a/4≤1:=by omega
 have p2:a%4≤3:=by omega
 have p3:b/8≤7:=by omega
 have p4:b/2%4≤3:=by omega
 have p5:b%2≤1:=by omega
 generalize a/4=a1 at *;generalize a%4=a2 at *;generalize b/8=b1 at *;generalize b/2%4=b2 at *;generalize b%2=b3 at *;generalize g.toNat=g1 at *;generalize x.toNat=x1 at *;have hp1:base/16777216%256<256:=by omega
 generalize base/16777216%256=q1 at *;have hp2:base/4294967296%16<16:=by omega
 have hp3:base/68719476736%16<16:=by omega
 generalize base/4294967296%16=q2 at *;generalize base/68719476736%16=q3 at *;rw [show false.toNat=0 from rfl,show true.toNat=1 from rfl];refine⟨by omega,by omega,by omega,by omega,by omega,by omega,by omega,by omega,by omega,by omega,by omega,by omega,by omega,by omega⟩
theorem encL_f {base a b:Nat} (g x:Bool) (hb:base%65536=0) (hl:base<2^32) (ha:a<8) (hbt:b<64):∃X:Nat,encL base a b g x=(X:Int)∧X<2^32∧X/1%4=1∧X/2^16*2^16=base∧X/512%2=a/4∧X/16%4=a%4∧X/4096%8=b/8∧X/4%4=b/2%4∧X/1024%2=b%2 ∧
  X/2048%2=g.toNat∧X/32768%2=x.toNat:=by
 refine⟨_,encL_eq g x hb hl ha hbt,?_⟩;have hg:=bl g;have hx:=bl x;have p1:a/4≤1:=by omega
 have p2:a%4≤3:=by omega
 have p3:b/8≤7:=by omega
 have p4:b/2%4≤3:=by omega
 have p5:b%2≤1:=by omega
 generalize a/4=a1 at *;generalize a%4=a2 at *;generalize b/8=b1 at *;generalize b/2%4=b2 at *;generalize b%2=b3 at *;generalize g.toNat=g1 at *;generalize x.toNat=x1 at *;refine⟨by omega,by omega,by omega,by omega,by omega,by omega,by omega,by omega,by omega,by omega⟩
theorem encP_f {base a b:Nat} (g x:Bool) (hb:base%4096=0) (hl:base<2^32) (ha:a<8) (hbt:b<64):∃X:Nat,encP base a b g x=(X:Int)∧X<2^32∧X/2%2=1∧X/2^12*2^12=base∧X/512%2=a/4∧X/16%4=a%4∧X/64%8=b/8∧X/4%4=b/2%4∧X/1024%2=b%2 ∧
  X/2048%2=g.toNat∧X/1%2=x.toNat:=by
 refine⟨_,encP_eq g x hb hl ha hbt,?_⟩;have hg:=bl g;have hx:=bl x;have p1:a/4≤1:=by omega
 have p2:a%4≤3:=by omega
 have p3:b/8≤7:=by omega
 have p4:b/2%4≤3:=by omega
 have p5:b%2≤1:=by omega
 generalize a/4=a1 at *;generalize a%4=a2 at *;generalize b/8=b1 at *;generalize b/2%4=b2 at *;generalize b%2=b3 at *;generalize g.toNat=g1 at *;generalize x.toNat=x1 at *;refine⟨by omega,by omega,by omega,by omega,by omega,by omega,by omega,by omega,by omega,by omega⟩
theorem En.one (e:En):∀v∈e.cells,v.oneCell'=true:=by
 intro v hv;simp only [En.cells,List.mem_cons,List.not_mem_nil,or_false] at hv;rcases hv with rfl|rfl|rfl|rfl|rfl|rfl|rfl|rfl<;>rfl
theorem sup_base {base:Nat} (h1:base<2^40) (h2:base%16777216=0) :
  orI .u64 (orI .u64 ((base/16777216%256*16777216:Nat):Int) (l_ .u64 (u64.wrap ((base/4294967296%16:Nat):Int)) 32)) (l_ .u64 (u64.wrap ((base/68719476736%16:Nat):Int)) 36)=(base:Int):=by
 have e1:base/4294967296%16<16:=Nat.mod_lt _ (by decide);have e2:base/68719476736%16<16:=Nat.mod_lt _ (by decide);have e3:base/16777216%256<256:=Nat.mod_lt _ (by decide);have hb:base=base/16777216%256*16777216+base/4294967296%16*4294967296+base/68719476736%16*68719476736:=by omega
 conv=>rhs;rw [hb]
 generalize base/4294967296%16=q2 at *;generalize base/68719476736%16=q3 at *;generalize base/16777216%256=q1 at *;have s2:l_ .u64 ((q2:Nat):Int) 32=((q2*4294967296:Nat):Int):=by
  have:=B_d (a:=q2) (n:=32) (by decide) (by rw [Nat.shiftLeft_eq];omega);rw [Nat.shiftLeft_eq] at this;exact this
 have s3:l_ .u64 ((q3:Nat):Int) 36=((q3*68719476736:Nat):Int):=by
  have:=B_d (a:=q3) (n:=36) (by decide) (by rw [Nat.shiftLeft_eq];omega);rw [Nat.shiftLeft_eq] at this;exact this
 rw [N_b q2 (by omega),N_b q3 (by omega),s2,s3,d_h (by omega) (by omega),w_f 32 4 (by omega) (by omega) (by omega),d_h (by omega) (by omega),w_f 36 4 (by omega) (by omega) (by omega)]
def Fin102 (a1 a42:Addr) (w78:World) (Q:Value→World→Prop):Prop :=
 Ld w78 a42 fun v129=>AsI i64 v129 fun i130=>Ld w78 (at0 a42 (1:Nat)) fun v131=>AsI u64 v131 fun i132=>Ld w78 (at0 a42 (2:Nat)) fun v133=>AsI i64 v133 fun i134=>Ld w78 (at0 a42 (3:Nat)) fun v135=>AsB v135 fun b136=>Ld w78 (at0 a42 (4:Nat)) fun v137=>AsI i64 v137 fun i138=>Ld w78 (at0 a42 (5:Nat)) fun v139=>AsI u32 v139 fun i140=>Ld w78 (at0 a42 (6:Nat)) fun v141=>AsB v141 fun b142=>Ld w78 (at0 a42 (7:Nat)) fun v143=>AsB v143 fun b144=>St w78 a1 (.int .i64 i130) fun w145=>St w145 (at0 a1 (1:Nat)) (.int .u64 i132) fun w146=>St w146 (at0 a1 (2:Nat)) (.int .i64 i134) fun w147=>St w147 (at0 a1 (3:Nat)) (.bool b136) fun w148=>St w148 (at0 a1 (4:Nat)) (.int .i64 i138) fun w149=>St w149 (at0 a1 (5:Nat)) (.int .u32 i140) fun w150=>St w150 (at0 a1 (6:Nat)) (.bool b142) fun w151=>St w151 (at0 a1 (7:Nat)) (.bool b144) fun w152=>Ld w152 a1 fun v153=>AsI i64 v153 fun i154=>Ld w152 (at0 a1 (1:Nat)) fun v155=>AsI u64 v155 fun i156=>Ld w152 (at0 a1 (2:Nat)) fun v157=>AsI i64 v157 fun i158=>Ld w152 (at0 a1 (3:Nat)) fun v159=>AsB v159 fun b160=>Ld w152 (at0 a1 (4:Nat)) fun v161=>AsI i64 v161 fun i162=>Ld w152 (at0 a1 (5:Nat)) fun v163=>AsI u32 v163 fun i164=>Ld w152 (at0 a1 (6:Nat)) fun v165=>AsB v165 fun b166=>Ld w152 (at0 a1 (7:Nat)) fun v167=>AsB v167 fun b168=>Q (Value.agg #[.int .i64 i154,.int .u64 i156,.int .i64 i158,.bool b160,.int .i64 i162,.int .u32 i164,.bool b166,.bool b168]) w152
set_option maxHeartbeats 1000000 in
theorem f102T {w:World} {base d:Nat} (hb:base%1024=0) (hl:base<2^32) (hd:d<16):Ret prog 102 #[.int .u32 (encT base d false)] w fun v w'=>v=(⟨1,base,d,false,0,0,false,false⟩:En).v∧Fr0 w w':=by
 obtain⟨X,e,h0,h1,h2,h3,h4⟩:=encT_f hb hl hd;rw [e];refine G_l ?_;unfold F102;try dsimp only [M_,S_8,lb_,li_]
 refine New.mk fun w1 n1 f1 s1=>?_;refine R_ (w_e X 1 0 (p:=1) (q:=4) rfl rfl (by decide) (by decide) (by decide) h0) ?_;rw [h1,AsI_int];refine O_ (fun _=>?_) (fun h=>absurd rfl h);refine R_ (w_e X 8 5 (p:=32) (q:=16) rfl rfl (by decide) (by decide) (by decide) h0) ?_;rw [h2,AsI_int];refine R_ (f165 X 3 (p:=8) rfl (by decide) h0 h3) ?_;rw [AsB_bool,show (1023:Int)=((1023:Nat):Int) from rfl,F_f (k:=10) (by decide) h0 rfl h4,l_k d hd];simp only [H_,Nat.zero_add];refine StAll.mk (En.cells ⟨1,base,d,false,0,0,false,false⟩) 0 n1 rfl (En.one _) fun w2 n2 f2 s2=>?_;have n2:Has w2 w.heap.size (En.cells ⟨1,base,d,false,0,0,false,false⟩):=n2;dsimp only [En.cells] at n2
 try simp only [n2.ld_iff,sb_,Nat.reduceAdd]
 exact⟨_,n2.cell.trans rfl,AsI_int.2 ⟨by trivial,f1.new f2 (Nat.le_refl _)⟩⟩
set_option maxHeartbeats 2000000 in
/-- a block's word of the first level -/
theorem f102B {w:World} {k base:Nat} {d a b X:Nat} {g x sup:Bool} (hd:d<16) (ha:a<8) (hbt:b<64) (h0:X<2^32) (h1:X/1%4=2) (h3:X/524288%2=false.toNat) (h4:X/262144%2=sup.toNat)
  (g1:X/32768%2=a/4) (g2:X/1024%4=a%4) (g3:X/4096%8=b/8) (g4:X/4%4=b/2%4) (g5:X/65536%2=b%2) (g6:X/131072%2=g.toNat) (g7:X/16%2=x.toNat)
  (hs:sup=false→X/32%16=d∧X/2^20*2^20=base∧k=2)
  (hu:sup=true→base<2^40∧base%16777216=0∧X/2^24*2^24=base/16777216%256*16777216∧X/1048576%16=base/4294967296%16∧X/32%16=base/68719476736%16∧d=0∧k=3) :
  Ret prog 102 #[.int .u32 (X:Int)] w fun v w'=>v=(⟨k,base,d,false,a,b,g,x⟩:En).v∧Fr0 w w':=by
 refine G_l ?_;unfold F102;try dsimp only [M_,S_8,lb_,li_]
 refine New.mk fun w1 n1 f1 s1=>?_;refine R_ (w_e X 1 0 (p:=1) (q:=4) rfl rfl (by decide) (by decide) (by decide) h0) ?_;rw [h1,AsI_int];refine O_ (fun h=>absurd h (by decide)) (fun _=>?_);refine O_ (fun _=>?_) (fun h=>absurd rfl h);have hd2:X/32%16<16:=Nat.mod_lt _ (by decide);refine R_ (w_e X 8 5 (p:=32) (q:=16) rfl rfl (by decide) (by decide) (by decide) h0) ?_;rw [AsI_int];refine R_ (f165 X 19 (p:=524288) rfl (by decide) h0 h3) ?_;rw [AsB_bool];refine New.mk fun w2 n2 f2 s2=>?_;rw [show (1048575:Int)=((1048575:Nat):Int) from rfl,F_f (k:=20) (by decide) h0 rfl rfl,l_k _ hd2];simp only [H_,Nat.zero_add];refine StAll.mk (En.cells ⟨2,X/2^20*2^20,(X/32%16:Nat),false,0,0,false,false⟩) 0 n2 rfl (En.one _) fun w3 n3 f3 s3=>?_;refine R_ (w_e X 15 15 (p:=32768) (q:=2) rfl rfl (by decide) (by decide) (by decide) h0) ?_;rw [g1,AsI_int];refine R_ (w_e X 11 10 (p:=1024) (q:=4) rfl rfl (by decide) (by decide) (by decide) h0) ?_;rw [g2,AsI_int];refine R_ (w_e X 14 12 (p:=4096) (q:=8) rfl rfl (by decide) (by decide) (by decide) h0) ?_;rw [g3,AsI_int];refine R_ (w_e X 3 2 (p:=4) (q:=4) rfl rfl (by decide) (by decide) (by decide) h0) ?_;rw [g4,AsI_int];refine R_ (w_e X 16 16 (p:=65536) (q:=2) rfl rfl (by decide) (by decide) (by decide) h0) ?_;rw [g5,AsI_int];refine R_ (f165 X 17 (p:=131072) rfl (by decide) h0 g6) ?_;rw [AsB_bool];refine R_ (f165 X 4 (p:=16) rfl (by decide) h0 g7) ?_;rw [AsB_bool,u_k a ha,bits_sum b hbt];have n3:Has w3 w1.heap.size (En.cells ⟨2,X/2^20*2^20,(X/32%16:Nat),false,0,0,false,false⟩):=n3;refine StAll.mk [.int .i64 (a:Int),.int .u32 (b:Int),.bool g,.bool x] 4 n3 rfl (by simp [Value.oneCell']) fun w4 n4 f4 s4=>?_;have n4:Has w4 w1.heap.size [.int .i64 2,.int .u64 ((X/2^20*2^20:Nat):Int),.int .i64 ((X/32%16:Nat):Int),.bool false,.int .i64 (a:Int),.int .u32 (b:Int),.bool g,.bool x]:=n4;have hz:w.heap.size≠w1.heap.size:=by omega
 have a4:=((n1.fr0 f2).fr f3 hz).fr f4 hz;have F4:Fr0 w w4:=((f1.trans f2).new f3 (by omega)).new f4 (by omega);refine R_ (f165 X 18 (p:=262144) rfl (by decide) h0 h4) ?_;rw [AsB_bool];have fin:∀(w5:World) (k base d:Nat),Fr0 w w5→Has w5 w1.heap.size [.int .i64 (k:Int),.int .u64 (base:Int),.int .i64 (d:Int),.bool false,.int .i64 (a:Int),.int .u32 (b:Int),.bool g,.bool x]→Has w5 w.heap.size [.int .i64 0,.int .u64 0,.int .i64 0,.bool false,.int .i64 0,.int .u32 0,.bool false,.bool false] →
   Fin102 ⟨w.heap.size,0,none⟩ ⟨w1.heap.size,0,none⟩ w5 fun v w'=>v=(⟨k,base,d,false,a,b,g,x⟩:En).v∧Fr0 w w':=fun w5 k base d F5 n5 a5=>by
  unfold Fin102;simp only [H_,Nat.zero_add]
  try simp only [n5.ld_iff,sb_,Nat.reduceAdd]
  refine StAll.mk (En.cells ⟨k,base,d,false,a,b,g,x⟩) 0 a5 rfl (En.one _) fun w6 n6 f6 s6=>?_;have n6:Has w6 w.heap.size (En.cells ⟨k,base,d,false,a,b,g,x⟩):=n6;dsimp only [En.cells] at n6
  try simp only [n6.ld_iff,sb_,Nat.reduceAdd]
  exact⟨_,n6.cell.trans rfl,AsI_int.2 ⟨by trivial,F5.new f6 (Nat.le_refl _)⟩⟩
 cases sup with
 | false =>
  obtain⟨e1,e2,rfl⟩:=hs rfl;rw [e1,e2] at n4;rw [E_];exact fin w4 2 base d F4 n4 a4
 | true =>
  obtain⟨b1,b2,e1,e2,e3,rfl,rfl⟩:=hu rfl;rw [K_];refine n4.st (by simp) rfl fun w5 n5 f5 s5=>?_;refine R_ (w_e X 23 20 (p:=1048576) (q:=16) rfl rfl (by decide) (by decide) (by decide) h0) ?_;rw [e2,AsI_int];refine R_ (w_e X 8 5 (p:=32) (q:=16) rfl rfl (by decide) (by decide) (by decide) h0) ?_;rw [e3,AsI_int,show (16777215:Int)=((16777215:Nat):Int) from rfl,F_f (k:=24) (by decide) h0 rfl e1,sup_base b1 b2];refine n5.st (by simp) rfl fun w6 n6 f6 s6=>?_;refine n6.st (by simp) rfl fun w7 n7 f7 s7=>?_;exact fin w7 3 base 0 (((F4.new f5 (by omega)).new f6 (by omega)).new f7 (by omega)) (by simpa using n7) (((a4.fr f5 hz).fr f6 hz).fr f7 hz)
set_option maxHeartbeats 2000000 in
theorem f104L {w:World} {base a b X:Nat} {g x:Bool} (ha:a<8) (hbt:b<64) (h0:X<2^32) (h1:X/1%4=1) (h2:X/2^16*2^16=base) (g1:X/512%2=a/4) (g2:X/16%4=a%4) (g3:X/4096%8=b/8) (g4:X/4%4=b/2%4) (g5:X/1024%2=b%2)
  (g6:X/2048%2=g.toNat) (g7:X/32768%2=x.toNat):Ret prog 104 #[.int .u32 (X:Int)] w fun v w'=>v=(⟨4,base,0,false,a,b,g,x⟩:En).v∧Fr0 w w':=by
 refine F_l ?_;unfold F104;try dsimp only [t_a,M_,S_8,ce_,lb_,li_]
 refine New.mk fun w1 n1 f1 s1=>?_;refine R_ (w_e X 9 9 (p:=512) (q:=2) rfl rfl (by decide) (by decide) (by decide) h0) ?_;rw [g1,AsI_int];refine R_ (w_e X 5 4 (p:=16) (q:=4) rfl rfl (by decide) (by decide) (by decide) h0) ?_;rw [g2,AsI_int];refine R_ (w_e X 3 2 (p:=4) (q:=4) rfl rfl (by decide) (by decide) (by decide) h0) ?_;rw [g4,AsI_int];refine R_ (w_e X 10 10 (p:=1024) (q:=2) rfl rfl (by decide) (by decide) (by decide) h0) ?_;rw [g5,AsI_int];refine R_ (f165 X 11 (p:=2048) rfl (by decide) h0 g6) ?_;rw [AsB_bool,u_k a ha];refine New.mk fun w2 n2 f2 s2=>?_;simp only [H_,Nat.zero_add];have hz:w.heap.size≠w1.heap.size:=by omega
 refine StAll.mk [.int .i64 (a:Int),.int .u32 (u32.wrap (u32.wrap (2*((b/2%4:Nat):Int))+((b%2:Nat):Int))),.bool g,.bool false] 0 n2 rfl (by simp [Value.oneCell']) fun w3 n3 f3 s3=>?_;refine R_ (w_e X 1 0 (p:=1) (q:=4) rfl rfl (by decide) (by decide) (by decide) h0) ?_;rw [h1,AsI_int];have n3:Has w3 w1.heap.size [.int .i64 (a:Int),.int .u32 (u32.wrap (u32.wrap (2*((b/2%4:Nat):Int))+((b%2:Nat):Int))),.bool g,.bool false]:=n3;refine O_ (fun h=>absurd h (by decide)) (fun _=>?_);refine O_ (fun _=>?_) (fun h=>absurd rfl h)
 try simp only [n3.ld_iff,sb_,Nat.reduceAdd]
 refine R_ (w_e X 14 12 (p:=4096) (q:=8) rfl rfl (by decide) (by decide) (by decide) h0) ?_;rw [g3,AsI_int];refine⟨n3.cell.trans rfl,?_⟩;refine n3.drew.st (by simp) rfl fun w4 n4 f4 s4=>?_;refine R_ (f165 X 15 (p:=32768) rfl (by decide) h0 g7) ?_;rw [AsB_bool,L_h b hbt] at *;refine n4.st (by simp) rfl fun w5 n5 f5 s5=>?_;have n5:Has w5 w1.heap.size [.int .i64 (a:Int),.int .u32 (b:Int),.bool g,.bool x]:=by simpa using n5
 have f4:Fr (·=w1.heap.size) w3 w4:=f4.of_drew;have a5:=(((n1.fr0 f2).fr f3 hz).fr f4 hz).fr f5 hz;have s4:w4.heap.size=w3.heap.size:=s4;have F5:Fr0 w w5:=(((f1.trans f2).new f3 (by omega)).new f4 (by omega)).new f5 (by omega)
 try simp only [n5.ld_iff,sb_,Nat.reduceAdd]
 rw [show (65535:Int)=((65535:Nat):Int) from rfl,F_f (k:=16) (by decide) h0 rfl h2];refine StAll.mk (En.cells ⟨4,base,0,false,a,b,g,x⟩) 0 a5 rfl (En.one _) fun w6 n6 f6 s6=>?_;have n6:Has w6 w.heap.size (En.cells ⟨4,base,0,false,a,b,g,x⟩):=n6;dsimp only [En.cells] at n6
 try simp only [n6.ld_iff,sb_,Nat.reduceAdd]
 exact⟨_,n6.cell.trans rfl,AsI_int.2 ⟨by trivial,F5.new f6 (Nat.le_refl _)⟩⟩
set_option maxHeartbeats 2000000 in
theorem f104P {w:World} {base a b X:Nat} {g x:Bool} (ha:a<8) (hbt:b<64) (h0:X<2^32) (h1:X/2%2=1) (h2:X/2^12*2^12=base) (g1:X/512%2=a/4) (g2:X/16%4=a%4) (g3:X/64%8=b/8) (g4:X/4%4=b/2%4) (g5:X/1024%2=b%2)
  (g6:X/2048%2=g.toNat) (g7:X/1%2=x.toNat):Ret prog 104 #[.int .u32 (X:Int)] w fun v w'=>v=(⟨5,base,0,false,a,b,g,x⟩:En).v∧Fr0 w w':=by
 refine F_l ?_;unfold F104;try dsimp only [t_a,M_,S_8,ce_,lb_,li_]
 refine New.mk fun w1 n1 f1 s1=>?_;refine R_ (w_e X 9 9 (p:=512) (q:=2) rfl rfl (by decide) (by decide) (by decide) h0) ?_;rw [g1,AsI_int];refine R_ (w_e X 5 4 (p:=16) (q:=4) rfl rfl (by decide) (by decide) (by decide) h0) ?_;rw [g2,AsI_int];refine R_ (w_e X 3 2 (p:=4) (q:=4) rfl rfl (by decide) (by decide) (by decide) h0) ?_;rw [g4,AsI_int];refine R_ (w_e X 10 10 (p:=1024) (q:=2) rfl rfl (by decide) (by decide) (by decide) h0) ?_;rw [g5,AsI_int];refine R_ (f165 X 11 (p:=2048) rfl (by decide) h0 g6) ?_;rw [AsB_bool,u_k a ha];refine New.mk fun w2 n2 f2 s2=>?_;simp only [H_,Nat.zero_add];have hz:w.heap.size≠w1.heap.size:=by omega
 refine StAll.mk [.int .i64 (a:Int),.int .u32 (u32.wrap (u32.wrap (2*((b/2%4:Nat):Int))+((b%2:Nat):Int))),.bool g,.bool false] 0 n2 rfl (by simp [Value.oneCell']) fun w3 n3 f3 s3=>?_;refine R_ (w_e X 1 0 (p:=1) (q:=4) rfl rfl (by decide) (by decide) (by decide) h0) ?_;rw [AsI_int];have n3:Has w3 w1.heap.size [.int .i64 (a:Int),.int .u32 (u32.wrap (u32.wrap (2*((b/2%4:Nat):Int))+((b%2:Nat):Int))),.bool g,.bool false]:=n3;refine O_ (fun h=>absurd h (by omega)) (fun _=>?_);refine O_ (fun h=>absurd h (by omega)) (fun _=>?_)
 try simp only [n3.ld_iff,sb_,Nat.reduceAdd]
 refine R_ (w_e X 8 6 (p:=64) (q:=8) rfl rfl (by decide) (by decide) (by decide) h0) ?_;rw [g3,AsI_int];refine⟨n3.cell.trans rfl,?_⟩;refine n3.drew.st (by simp) rfl fun w4 n4 f4 s4=>?_;refine R_ (f165 X 0 (p:=1) rfl (by decide) h0 g7) ?_;rw [AsB_bool,L_h b hbt] at *;refine n4.st (by simp) rfl fun w5 n5 f5 s5=>?_;have n5:Has w5 w1.heap.size [.int .i64 (a:Int),.int .u32 (b:Int),.bool g,.bool x]:=by simpa using n5
 have f4:Fr (·=w1.heap.size) w3 w4:=f4.of_drew;have a5:=(((n1.fr0 f2).fr f3 hz).fr f4 hz).fr f5 hz;have s4:w4.heap.size=w3.heap.size:=s4;have F5:Fr0 w w5:=(((f1.trans f2).new f3 (by omega)).new f4 (by omega)).new f5 (by omega)
 try simp only [n5.ld_iff,sb_,Nat.reduceAdd]
 rw [show (4095:Int)=((4095:Nat):Int) from rfl,F_f (k:=12) (by decide) h0 rfl h2];refine StAll.mk (En.cells ⟨5,base,0,false,a,b,g,x⟩) 0 a5 rfl (En.one _) fun w6 n6 f6 s6=>?_;have n6:Has w6 w.heap.size (En.cells ⟨5,base,0,false,a,b,g,x⟩):=n6;dsimp only [En.cells] at n6
 try simp only [n6.ld_iff,sb_,Nat.reduceAdd]
 exact⟨_,n6.cell.trans rfl,AsI_int.2 ⟨by trivial,F5.new f6 (Nat.le_refl _)⟩⟩
def F103b (a1 a3:Addr) (i23 va2:Int) (dom:Int) (base:Int) (ap bits:Int) (ng xn:Bool) (i104:Int) (w17:World) (Q:Value→World→Prop):Prop :=
 NN i104 (Sh.St w17 a3 (.int .i64 i23) fun w115=>Sh.St w115 (at0 a3 (1:Nat)) (.int .u32 (n_ u32 va2 (u32.wrap (l_ u32 (1:Int) i104-(1:Int))))) fun w116=>Sh.St w116 (at0 a3 (2:Nat)) (.int .u64 base) fun w117=>Sh.St w117 (at0 a3 (3:Nat)) (.int .i64 dom) fun w118=>Sh.St w118 (at0 a3 (4:Nat)) (.int .i64 ap) fun w119=>Sh.St w119 (at0 a3 (5:Nat)) (.int .u32 bits) fun w120=>Sh.St w120 (at0 a3 (6:Nat)) (.bool ng) fun w121=>Sh.St w121 (at0 a3 (7:Nat)) (.bool xn) fun w122 =>
  Ld w122 a3 fun v=>AsI .i64 v fun i124=>Ld w122 (at0 a3 (1:Nat)) fun v=>AsI .u32 v fun i126=>Ld w122 (at0 a3 (2:Nat)) fun v=>AsI .u64 v fun i128=>Ld w122 (at0 a3 (3:Nat)) fun v=>AsI .i64 v fun i130=>Ld w122 (at0 a3 (4:Nat)) fun v=>AsI .i64 v fun i132=>Ld w122 (at0 a3 (5:Nat)) fun v=>AsI .u32 v fun i134=>Ld w122 (at0 a3 (6:Nat)) fun v=>AsB v fun b136=>Ld w122 (at0 a3 (7:Nat)) fun v=>AsB v fun b138 =>
  Q (.agg #[.int .i64 i124,.int .u32 i126,.int .u64 i128,.int .i64 i130,.int .i64 i132,.int .u32 i134,.bool b136,.bool b138]) w122)
theorem f103b {w0 w:World} {a1:Addr} {b:Nat} (f:Fr0 w0 w) (hb:w0.heap.size≤b) {cs:List Value} (h:Has w b cs) (hl:cs.length=8) (t:Tr) {va sh:Nat} (hsh:sh≤24) (hva:va<2^32) (hin:va/2^sh*2^sh=t.va) {Q:Value→World→Prop} (k:∀w',Fr0 w0 w'→Q t.v w') :
  F103b a1 ⟨b,0,none⟩ t.size va t.dom t.pa t.ap t.bits t.ng t.xn sh w Q:=by
 unfold F103b;have e:n_ .u32 (va:Int) (u32.wrap (l_ .u32 1 (sh:Int)-1))=(t.va:Int):=by
  have h1:=C_d (a:=1) (n:=sh) (by omega) (by rw [Nat.shiftLeft_eq,Nat.one_mul];exact Nat.lt_of_le_of_lt (Nat.pow_le_pow_right (by decide) hsh) (by decide));rw [Nat.shiftLeft_eq,Nat.one_mul] at h1;have h1:l_ .u32 1 (sh:Int)=((2^sh:Nat):Int):=h1;have hp:=Nat.two_pow_pos sh;have hp2:2^sh≤2^24:=Nat.pow_le_pow_right (by decide) hsh;rw [h1,show ((2^sh:Nat):Int)-1=((2^sh-1:Nat):Int) by omega,T_a _ (by omega),d_i (by omega) hva,hin]
 refine NN.mk (by omega) ?_;rw [e];simp only [H_,Nat.zero_add];refine StAll.mk t.cells 0 h (by rw [hl];rfl) (x_ t) fun w2 n2 f2 s2=>?_;have n2:Has w2 b t.cells:=by simpa using n2
 dsimp only [Tr.cells] at n2
 try simp only [n2.ld_iff,sb_,Nat.reduceAdd]
 exact⟨_,n2.cell.trans rfl,AsI_int.2 (k w2 (f.new f2 hb))⟩
theorem j_k {t:Tr} (h:t.right=true) (hs:3≤t.size):t.en.blk1:=by
 obtain⟨h1,h2,h3,h4,h5⟩:=j_ h;unfold En.blk1 Tr.en;rcases m_ h1 with e|e|e|e
 ·omega
 ·omega
 ·rw [e] at h5 ⊢;exact .inl ⟨rfl,h5,by simpa using h3⟩
 ·rw [e] at h5 ⊢;exact .inr ⟨rfl,h5,by simp⟩
theorem en_blk2 {t:Tr} (h:t.right=true) (hs:t.size≤2):t.en.blk2:=by
 obtain⟨h1,h2,h3,h4,h5⟩:=j_ h;unfold En.blk2 Tr.en;rcases m_ h1 with e|e|e|e
 ·rw [e] at h5 ⊢;exact .inr ⟨rfl,h5,by simp,rfl⟩
 ·rw [e] at h5 ⊢;exact .inl ⟨rfl,h5,by simp,rfl⟩
 ·omega
 ·omega
theorem Gd.cell2 {w:World} (h:Gd w) {i:Nat} (hi:i<5):w.cell? ⟨2,i,none⟩=some (.int .u64 (shs.getD i 0:Nat)):=h.sh i hi
theorem knd_inj:∀i:Nat,i<5→0<i→∀s:Nat,s<5→0<s→knd.getD i 0=knd.getD s 0→i=s:=by decide
theorem shs_le:∀s:Nat,shs.getD s 0≤24:=fun s=>by
 rcases s with _|_|_|_|_|s<;>simp [shs]
set_option maxHeartbeats 400000 in
theorem f103 {w:World} (hG:Gd w) (t:Tr) (hr:t.right=true) {va:Nat} (hva:va<2^32) (hin:va/2^u_c t.size*2^u_c t.size=t.va) (dm:Int) (hdm:t.size≤2→dm=t.dom) :
  Ret prog 103 #[t.en.v,.int .i64 dm,.int .u32 (va:Int)] w fun v w'=>v=t.v∧Fr0 w w':=by
 have hsz:=sized_iff.1 (j_ hr).1;obtain⟨s,hs⟩:∃s:Nat,t.size=(s:Int):=⟨t.size.toNat,by omega⟩;have hs1:1≤s∧s≤4:=by omega
 have hsh:u_c t.size=shs.getD s 0:=by unfold u_c;rw [hs,Int.toNat_natCast]
 have hk:t.en.kind=knd.getD s 0:=by unfold Tr.en;rw [hs,Int.toNat_natCast]
 refine F103_of ?_;unfold F103;try dsimp only [t_a,B_,M_,S_8,Uii,lb_,li_,ui_]
 refine New.mk fun w1 n1 f1 s1=>New.mk fun w2 n2 f2 s2=>?_;have m1:=n1.fr0 f2;have f02:Fr0 w w2:=f1.trans f2;have G2:=hG.fr0 f02;simp only [H_,Nat.zero_add];refine LdC (G2.cell1 (i:=0) (by decide)) (AsI_int.2 ?_);refine LdC (G2.cell1 (i:=1) (by decide)) (AsI_int.2 ?_);refine LdC (G2.cell1 (i:=2) (by decide)) (AsI_int.2 ?_);refine LdC (G2.cell1 (i:=3) (by decide)) (AsI_int.2 ?_);refine LdC (G2.cell1 (i:=4) (by decide)) (AsI_int.2 ?_);refine Loop.by (fun st w'=>∃i:Nat,i≤5∧st=[.int .i64 (i:Int),.int .i64 ((if s<i then s else 0:Nat):Int)]∧w'=w2) (fun st _=>match st with | [.int _ i,_]=>5-i.toNat|_=>0) ⟨0,by omega,by simp,rfl⟩ ?_
 rintro _ _ ⟨i,hi,rfl,hw⟩;obtain rfl:=hw.symm;simp only [sb_,Nat.reduceAdd];refine C_ (fun hlt=>?_) (fun hge=>?_)
 ·refine Join.at (fun st w'=>st=[.int .i64 ((if s<i+1 then s else 0:Nat):Int)]∧w'=w2) ?_ ?_
  ·refine⟨by omega,by omega,.int .i64 (knd.getD i 0),?_,AsI_int.2 ?_⟩
   ·rcases i with _|_|_|_|_|i
    ·rfl
    ·rfl
    ·rfl
    ·rfl
    ·rfl
    ·omega
   ·refine C_ (fun h0=>?_) (fun h0=>?_)
    ·try simp only [m1.ld_iff,sb_,Nat.reduceAdd]
     refine O_ (fun he=>?_) (fun he=>?_)
     ·have:i=s:=knd_inj i (by omega) (by omega) s (by omega) (by omega) (he.trans hk);subst this;exact⟨by rw [if_pos (by omega)],by trivial⟩
     ·have:i≠s:=fun e=>he (by rw [e];exact hk.symm);refine⟨?_,by trivial⟩;by_cases h1:s<i
      ·rw [if_pos h1,if_pos (by omega)]
      ·rw [if_neg h1,if_neg (by omega)]
    ·exact⟨by rw [if_neg (by omega),if_neg (by omega)],by trivial⟩
  ·rintro _ _ ⟨rfl,hw⟩;obtain rfl:=hw.symm;simp only [sb_,Nat.reduceAdd];rw [w64 (n:=(i:Int)+1) (by omega) (by omega)];exact⟨⟨i+1,by omega,rfl,by trivial⟩,(by first|omega|(simp only [Int.toNat_natCast];omega))⟩
 obtain rfl:i=5:=by omega
 rw [if_pos (show s<5 by omega)];refine O_ (fun h=>absurd h (by omega)) (fun _=>?_);have hd3:t.size=3→t.en.dom=t.dom:=fun e=>by unfold Tr.en;dsimp only;rw [if_pos e]
 have hd4:t.size=4→t.en.dom=t.dom:=fun e=>by unfold Tr.en;dsimp only;rw [if_neg (by omega)];exact ((j_ hr).2.2.2.1 e).symm
 refine C_ (fun h3=>?_) (fun h3=>?_)
 ·try simp only [m1.ld_iff,sb_,Nat.reduceAdd]
  refine Ret.use (f125 G2 t.en (.inl (j_k hr (by omega)))) ?_;rintro _ w3 ⟨rfl,f3⟩;have hb:decide (t.en.kind=1∨t.en.kind=2∨t.en.kind=3)=true:=by
   rw [hk,decide_eq_true_eq];have:s=3∨s=4:=by omega
   rcases this with rfl|rfl
   ·exact .inr (.inl rfl)
   ·exact .inr (.inr rfl)
  rw [AsB_bool,hb,Bool.not_true,E_];have m3:=m1.fr0 f3
  try simp only [m3.ld_iff,sb_,Nat.reduceAdd]
  refine⟨by omega,by omega,LdC ((G2.fr0 f3).cell2 (i:=s) (by omega)) (AsI_int.2 ?_)⟩;have hdd:t.en.dom=t.dom:=by
   have:s=3∨s=4:=by omega
   rcases this with rfl|rfl
   ·exact hd3 hs
   ·exact hd4 hs
  rw [hdd,←hs];exact f103b (a1:=⟨0,0,none⟩) (Q:=fun v w'=>v=t.v∧Fr0 w w') (f02.trans f3).drew (by omega) (n2.fr0 f3).drew rfl t (shs_le s) hva (by rw [←hsh];exact hin) fun w' f'=>⟨rfl,f'⟩
 ·try simp only [m1.ld_iff,sb_,Nat.reduceAdd]
  refine Ret.use (f166 G2 t.en (en_blk2 hr (by omega))) ?_;rintro _ w3 ⟨rfl,f3⟩;rw [AsB_bool,Bool.not_true,E_];have hdo:F_h t.dom=true:=(j_ hr).2.2.1;rw [hdm (by omega)];refine R_ (f167 t.dom) ?_;rw [AsB_bool,hdo,Bool.not_true,E_];have m3:=m1.fr0 f3;refine⟨by omega,by omega,?_⟩;simp only [H_,Nat.zero_add,Nat.mul_one,Int.toNat_natCast];refine LdC ((G2.fr0 f3).cell2 (i:=s) (by omega)) (AsI_int.2 ?_)
  try simp only [m3.ld_iff,sb_,Nat.reduceAdd]
  rw [←hs];exact f103b (a1:=⟨0,0,none⟩) (Q:=fun v w'=>v=t.v∧Fr0 w w') (f02.trans f3).drew (by omega) (n2.fr0 f3).drew rfl t (shs_le s) hva (by rw [←hsh];exact hin) fun w' f'=>⟨rfl,f'⟩
end Go.Proofs.YtmgjicnipgdjhaaGreatDoor
set_option maxRecDepth 10000
namespace Go.Proofs.YtmgjicnipgdjhaaGreatDoor
open Go Go.Sh Go.Fr
structure RootS where
 rb:Nat
 tm:Nat
 first:Nat
 count:Nat
 blocks:List Tr
 tabs:List (Nat×Nat)
def I_a (l:List (Nat×Nat)):List (Int×Value):=l.map fun x=>((x.1:Int),.int .i64 (x.2:Int))
structure RootAt (w:World) (ro:Ro) (at_:Nat) (R:RootS):Prop where
 st:∃p c,Has w R.rb [.int .i64 (R.first:Int),.int .i64 (R.count:Int),.slice p R.blocks.length c,.map (some R.tm)]∧Sl w 0 57 8 p R.blocks.length c (D_ R.blocks)∧∀x,On p x→ro x=(18,at_)
 rr:ro R.rb=(17,at_)
 tm:MapIs w R.tm .u32 (I_a R.tabs)
 rt:ro R.tm=(19,at_)
theorem RootAt.ext {w:World} {ro ro':Ro} {at_:Nat} {R:RootS} (h:RootAt w ro at_ R) (e:RExt w ro ro'):RootAt w ro' at_ R:=by
 obtain⟨p,c,h1,h2,h3⟩:=h.st;exact⟨⟨p,c,h1,h2,fun x hx=>by rw [e x (h2.lt x hx).2];exact h3 x hx⟩,by rw [e _ h1.lt];exact h.rr,h.tm,by rw [e _ (K_a h.tm)];exact h.rt⟩
def U_g (ro:Ro) (at_:Nat) (x:Nat):Prop:=ro x=(17,at_)∨ro x=(18,at_)∨ro x=(19,at_)
theorem RootAt.fr {w w':World} {ro:Ro} {at_:Nat} {R:RootS} (h:RootAt w ro at_ R) {S:Nat→Prop} (f:Fr S w w') (hS:∀x,U_g ro at_ x→¬S x):RootAt w' ro at_ R:=by
 obtain⟨p,c,h1,h2,h3⟩:=h.st;exact⟨⟨p,c,h1.fr f (hS _ (.inl h.rr)),h2.fr f (fun x hx=>hS x (.inr (.inl (h3 x hx)))),h3⟩,h.rr,h.tm.fr f (hS _ (.inr (.inr h.rt))),h.rt⟩
structure Ids where
 I:MIds
 b:Nat
 bu:Nat
 bd:Nat
 s:Nat
 e:Nat
 rm:Nat
structure St where
 M:Mst
 p:Pool
 l:List Qr
 roots:List (Nat×RootS)
def F_a (l:List (Nat×RootS)):List (Int×Value):=l.map fun x=>((x.1:Int),.pointer (some ⟨x.2.rb,0,none⟩))
structure EdAt (w:World) (ro:Ro) (J:Ids) (n:Nat) (roots:List (Nat×RootS)):Prop where
 st:Has w J.e [.pointer (some ⟨J.I.m,0,none⟩),.pointer (some ⟨J.b,0,none⟩),.pointer (some ⟨J.s,0,none⟩),.int .i64 (n:Int),.map (some J.rm)]
 re:(ro J.e).1=15
 rm:MapIs w J.rm .u64 (F_a roots)
 rr:(ro J.rm).1=16
 root:∀x∈roots,RootAt w ro x.1 x.2
 nd:(roots.map (·.1)).Nodup
theorem EdAt.ext {w:World} {ro ro':Ro} {J:Ids} {n:Nat} {roots:List (Nat×RootS)} (h:EdAt w ro J n roots) (e:RExt w ro ro'):EdAt w ro' J n roots :=
 ⟨h.st,by rw [e _ h.st.lt];exact h.re,h.rm,by rw [e _ (K_a h.rm)];exact h.rr,fun x hx=>(h.root x hx).ext e,h.nd⟩
theorem EdAt.fr {w w':World} {ro:Ro} {J:Ids} {n:Nat} {roots:List (Nat×RootS)} (h:EdAt w ro J n roots) {S:Nat→Prop} (f:Fr S w w') (hS:∀x,15≤(ro x).1→¬S x):EdAt w' ro J n roots :=
 ⟨h.st.fr f (hS _ (by rw [h.re];decide)),h.re,h.rm.fr f (hS _ (by rw [h.rr];decide)),h.rr,fun x hx=>(h.root x hx).fr f (fun y hy=>hS y (by rcases hy with e|e|e<;>rw [e]<;>simp)),h.nd⟩
theorem EdAt.fr0 {w w':World} {ro:Ro} {J:Ids} {n:Nat} {roots:List (Nat×RootS)} (h:EdAt w ro J n roots) (f:Fr0 w w'):EdAt w' ro J n roots:=h.fr f fun _ _ h=>h
structure Sys (w:World) (ro:Ro) (J:Ids) (fr n:Nat) (S:St):Prop where
 gl:Gl w
 low:Low ro
 mach:MachAt w ro J.I fr S.M
 ps:PSAt w ro J.b J.bu J.bd J.s S.p S.l
 ed:EdAt w ro J n S.roots
abbrev FrR (ro:Ro) (w w':World):Prop:=Fr (fun b=>(ro b).1≠0) w w'
theorem FrK.R {l:List Nat} {ro:Ro} {w w':World} (f:FrK l ro w w') (h0:0∉l):FrR ro w w':=f.mono fun b _ hb e=>h0 (by rw [e] at hb;exact hb)
theorem FrR.then {ro ro':Ro} {w w1 w2:World} (h:FrR ro w w1) (e:RExt w ro ro') (k:FrR ro' w1 w2):FrR ro w w2 :=
 ⟨k.os.trans h.os,k.output.trans h.output,k.tape.trans h.tape,Nat.le_trans h.size k.size,fun b hb hn =>
  (k.block b (Nat.lt_of_lt_of_le hb h.size) (by rw [e b hb];exact hn)).trans (h.block b hb hn)⟩
theorem Sys.ext {w:World} {ro ro':Ro} {J:Ids} {fr n:Nat} {S:St} (h:Sys w ro J fr n S) (e:RExt w ro ro'):Sys w ro' J fr n S:=⟨h.gl,h.low.ext h.gl e,h.mach.ext e,h.ps.ext e,h.ed.ext e⟩
theorem Sys.fr0 {w w':World} {ro:Ro} {J:Ids} {fr n:Nat} {S:St} (h:Sys w ro J fr n S) (f:Fr0 w w'):Sys w' ro J fr n S:=⟨h.gl.fr0 f,h.low,h.mach.fr0 f,h.ps.fr0 f,h.ed.fr0 f⟩
theorem FrK.ext {l:List Nat} {ro ro':Ro} {w w':World} (f:FrK l ro w w') (e:RExt w ro ro'):FrK l ro' w w':=f.mono fun b hb hS=>by rw [e b hb];exact hS
theorem Sys.frO {w w':World} {ro:Ro} {J:Ids} {fr n:Nat} {S:St} (h:Sys w ro J fr n S) {T:Nat→Prop} (f:Fr T w w') (hT:∀x,T x→(ro x).1=0) (hT7:∀x,x<7→¬T x):Sys w' ro J fr n S:=by
 refine⟨h.gl.fr f hT7,h.low,h.mach.fr f (fun b h1 _ hb=>by have:=hT b hb;omega),h.ps.fr f (fun x hx hb=>?_),h.ed.fr f (fun x hx hb=>by have:=hT x hb;omega)⟩;rw [hT x hb] at hx;simp at hx
theorem Sys.machT {w w':World} {ro ro':Ro} {J:Ids} {fr n:Nat} {S:St} (h:Sys w ro J fr n S) {M':Mst} (e:RExt w ro ro') (H:MachAt w' ro' J.I fr M') (f:FrK D_c ro w w'):Sys w' ro' J fr n { S with M:=M' }:=by
 have h':=h.ext e;have f':=f.ext e;refine⟨h.gl.frK f h.low (by decide),h'.low,H,h'.ps.fr f' (fun x hx hx'=>?_),h'.ed.fr f' (fun x hx hx'=>?_)⟩
 ·simp only [psK,D_c,List.mem_cons,List.not_mem_nil,or_false] at hx hx';omega
 ·simp only [D_c,List.mem_cons,List.not_mem_nil,or_false] at hx';omega
theorem Sys.psT {w w':World} {ro ro':Ro} {J:Ids} {fr n:Nat} {S:St} (h:Sys w ro J fr n S) {p':Pool} {l':List Qr} (e:RExt w ro ro') (H:PSAt w' ro' J.b J.bu J.bd J.s p' l') (f:FrK psK ro w w'):Sys w' ro' J fr n { S with p:=p',l:=l' }:=by
 have h':=h.ext e;have f':=f.ext e;refine⟨h.gl.frK f h.low (by decide),h'.low,h'.mach.fr f' (fun x h1 h2 hx'=>?_),H,h'.ed.fr f' (fun x hx hx'=>?_)⟩
 ·simp only [psK,List.mem_cons,List.not_mem_nil,or_false] at hx';omega
 ·simp only [psK,List.mem_cons,List.not_mem_nil,or_false] at hx';omega
def G_a (l:List (Nat×RootS)) (at_:Nat) (R:RootS):List (Nat×RootS):=l.map fun x=>if x.1=at_ then (at_,R) else x
theorem b_g (l:List (Nat×RootS)) (at_:Nat) (R:RootS):(G_a l at_ R).map (·.1)=l.map (·.1):=by
 unfold G_a;rw [List.map_map]
 apply List.map_congr_left
 intro x _;simp only [Function.comp_apply];split
 ·rename_i h;exact h.symm
 ·rfl
theorem p_e {α β:Type} {f:α→β}:∀{l:List α},(l.map f).Nodup→∀{x y:α},x∈l→y∈l→f x=f y→x=y
 | [],_,x,y,hx,_,_=>by simp at hx
 | z :: r,h,x,y,hx,hy,e=>by
  rw [List.map_cons,List.nodup_cons] at h;rcases List.mem_cons.1 hx with rfl|hx'<;>rcases List.mem_cons.1 hy with rfl|hy'
  ·rfl
  ·exact absurd (List.mem_map.2 ⟨y,hy',e.symm⟩) h.1
  ·exact absurd (List.mem_map.2 ⟨x,hx',e⟩) h.1
  ·exact p_e h.2 hx' hy' e
theorem Z_j {l:List (Nat×RootS)} {at_:Nat} {R R':RootS} (hnd:(l.map (·.1)).Nodup) (hm:(at_,R)∈l) (hrb:R'.rb=R.rb):F_a (G_a l at_ R')=F_a l:=by
 unfold F_a G_a;rw [List.map_map]
 apply List.map_congr_left
 intro x hx;simp only [Function.comp_apply];split
 ·rename_i h;have:x=(at_,R):=p_e hnd hx hm h;rw [this,hrb]
 ·rfl
theorem Sys.rootT {w w':World} {ro ro':Ro} {J:Ids} {fr n:Nat} {S:St} (h:Sys w ro J fr n S) {at_:Nat} {R R':RootS} (hm:(at_,R)∈S.roots) (hrb:R'.rb=R.rb) (e:RExt w ro ro') (H:RootAt w' ro' at_ R') (f:Fr (U_g ro at_) w w') :
  Sys w' ro' J fr n { S with roots:=G_a S.roots at_ R' }:=by
 have h':=h.ext e;have f':Fr (U_g ro' at_) w w':=f.mono fun b hb hS=>by unfold U_g at *;rw [e b hb];exact hS
 have hk:∀x,U_g ro' at_ x→17≤(ro' x).1:=fun x hx=>by rcases hx with e|e|e<;>rw [e]<;>simp
 have he:=h'.ed;refine⟨h'.gl.fr f' (fun b hb hS=>by have:=hk b hS;rw [h'.low b hb] at this;omega),h'.low,h'.mach.fr f' (fun x h1 h2 hx=>by have:=hk x hx;omega),h'.ps.fr f' (fun x hx hx'=>?_),?_⟩
 ·have:=hk x hx';simp only [psK,List.mem_cons,List.not_mem_nil,or_false] at hx;omega
 ·refine⟨he.st.fr f' (fun hx=>by have:=hk _ hx;rw [he.re] at this;omega),he.re,?_,he.rr,fun x hx=>?_,by rw [b_g];exact he.nd⟩
  ·rw [Z_j he.nd hm hrb];exact he.rm.fr f' (fun hx=>by have:=hk _ hx;rw [he.rr] at this;omega)
  ·unfold G_a at hx;obtain⟨y,hy,rfl⟩:=List.mem_map.1 hx;split
   ·exact H
   ·rename_i hne;refine (he.root y hy).fr f' (fun z h1 h2=>?_);rcases h1 with e1|e1|e1<;>rcases h2 with e2|e2|e2<;>rw [e1] at e2<;>simp at e2<;>exact hne e2
theorem T131:MapT prog 131 35 3 .u32 (.int .i64 0):=⟨by kernel_rfl,by kernel_rfl,by kernel_rfl⟩
theorem T120:MapT prog 120 30 121 .u64 (.pointer none):=⟨by kernel_rfl,by kernel_rfl,by kernel_rfl⟩
def Ro.cut (ro:Ro) (w:World):Ro:=fun x=>if x<w.heap.size then ro x else (0,0)
theorem RExt.cut {w:World} {ro:Ro}:RExt w ro (ro.cut w):=fun x hx=>by simp only [Ro.cut,if_pos hx]
theorem Ro.cut_new {ro:Ro} {w:World} {x:Nat} (h:w.heap.size≤x):((ro.cut w) x).1=0:=by simp only [Ro.cut,if_neg (show ¬x<w.heap.size by omega)]
def pokeM (M:Mst) (pa v:Nat):Mst:=⟨p_i M.mem pa v,x_b M.evs ⟨1,pa,v⟩⟩
def e_a (M:Mst) (pa v:Nat):Nat→Mst
 | 0=>M
 | i+1=>pokeM (e_a M pa v i) (pa+4*i) v
theorem X_j {fr pa:Nat} (h:wErr fr pa=0):pa%4=0∧pa<fr*4096:=by
 unfold wErr at h;split at h
 ·omega
 ·split at h
  ·omega
  ·omega
theorem f64 {w:World} {ro:Ro} {J:Ids} {fr n:Nat} {S:St} (hS:Sys w ro J fr n S) {p:Option Addr} {k c x pa:Nat} (hp:Rd w p (List.replicate k (.int .u32 (x:Int)))) (hon:∀b,On p b→(ro b).1=0) (hx:x<2^32) (hk:k≤16) (hfr:fr≤65536)
  (hok:∀i,i<k→wErr fr (pa+4*i)=0) :
  Ret prog 64 #[.pointer (some ⟨J.e,0,none⟩),.int .u64 (pa:Int),.slice p k c] w fun v w'=>v=.tuple #[]∧∃ro',RExt w ro ro'∧Sys w' ro' J fr n { S with M:=e_a S.M pa x k }∧FrK D_c ro w w':=by
 refine F64_of ?_;unfold F64;try dsimp only [li_,lp_,ui_]
 refine Loop.by (fun s w'=>∃i:Nat,∃ro',i≤k∧s=[.int .i64 (i:Int)]∧RExt w ro ro'∧Sys w' ro' J fr n { S with M:=e_a S.M pa x i }∧FrK D_c ro w w') (fun s _=>match s with | [.int _ i]=>k-i.toNat|_=>0) ⟨0,ro,by omega,rfl,RExt.refl _ _,hS,Fr.refl _ _⟩ ?_
 rintro _ w1 ⟨i,ro1,hi,rfl,e1,hS1,f1⟩;simp only [UnC_cons,UnN_nil,AsI_int];refine C_ (fun hlt=>?_) (fun hge=>?_)
 ·have hik:i<k:=by omega
  have hp1:=hp.fr f1 (fun b hb h=>by rw [hon b hb] at h;exact absurd h (by decide));obtain⟨b,o,hpo,hc⟩:=hp1 i (.int .u32 (x:Int)) (by simp [hik]);rw [hpo,G_];refine⟨by omega,by omega,?_⟩;rw [H_,Int.toNat_natCast,Nat.mul_one];refine⟨_,hc,AsI_int.2 ?_⟩;have hst:=hS1.ed.st
  try simp only [hst.ld_iff,sb_,Nat.reduceAdd]
  have hw:=X_j (hok i hik);rw [b_a (n:=(i:Int)) (by omega) (by omega),b_a (n:=4*(i:Int)) (by omega) (by omega),b_a (n:=(pa:Int)+4*(i:Int)) (by omega) (by omega),show (pa:Int)+4*(i:Int)=((pa+4*i:Nat):Int) by omega,w64 (n:=(i:Int)+1) (by omega) (by omega)];refine Ret.use (f127 hS1.mach (pa+4*i) x (hok i hik) hx) ?_;rintro _ w2 ⟨rfl,ro2,e2,hM2,f2⟩;rw [AsI_int];exact⟨⟨i+1,ro2,by omega,rfl,e1.trans e2 f1.size,hS1.machT e2 hM2 f2,f1.then e1 f2⟩,by omega⟩
 ·obtain rfl:i=k:=by omega
  exact⟨by trivial,ro1,e1,hS1,f1⟩
def tab? (l:List (Nat×Nat)) (m:Nat):Option Nat:=(l.find? fun x=>x.1==m).map (·.2)
theorem E_b (l:List (Nat×Nat)) (m:Nat):at? (I_a l) (m:Int)=(tab? l m).map fun t=>.int .i64 (t:Int):=by
 unfold at? tab? I_a;rw [List.find?_map,Option.map_map,Option.map_map];have:((fun p:Int×Value=>p.1==(m:Int)) ∘ fun x:Nat×Nat=>((x.1:Int),Value.int .i64 (x.2:Int)))=fun x=>x.1==m:=by
  funext x
  simp only [Function.comp_apply];by_cases e:x.1=m
  ·simp [e]
  ·rw [beq_eq_false_iff_ne.2 e,beq_eq_false_iff_ne];omega
 rw [this]
 rfl
def placeOf (R:RootS) (at_:Nat) (t:Tr):Nat:=if t.paged=true then (tab? R.tabs t.mib).getD 0*1024+t.va/4096%256*4 else at_+t.mib*4
theorem C_k {va:Nat} (h:va<2^32):Q_ .u32 (W_ .u32 (va:Int) 12) 255=((va/4096%256:Nat):Int):=by
 have e1:W_ .u32 (va:Int) 12=((va >>> 12:Nat):Int):=J_a (n:=12) (by decide);have h2:va >>> 12<2^32:=by rw [Nat.shiftRight_eq_div_pow];omega
 rw [e1,show (255:Int)=((255:Nat):Int) from rfl,c_e h2 (by decide),Nat.shiftRight_eq_div_pow,show 255=2^8-1 from rfl,Nat.and_two_pow_sub_one_eq_mod]
theorem f54 {w:World} {ro:Ro} {J:Ids} {fr n:Nat} {S:St} (hS:Sys w ro J fr n S) {at_:Nat} {R:RootS} (hm:(at_,R)∈S.roots) (t:Tr) (hva:t.va<2^32) {x:Nat} (hx:x<2^32) (hfr:fr≤65536) (hr:reps t.size=1∨reps t.size=16)
  (ht:∀v,tab? R.tabs t.mib=some v→v<2^30) (hat:at_<2^40) (hok:∀i,i<reps t.size→wErr fr (placeOf R at_ t+4*i)=0) :
  Ret prog 54 #[.pointer (some ⟨J.e,0,none⟩),.int .u64 (at_:Int),.pointer (some ⟨R.rb,0,none⟩),t.v,.int .u32 (x:Int)] w fun v w'=>v=.tuple #[]∧∃ro',RExt w ro ro'∧Sys w' ro' J fr n { S with M:=e_a S.M (placeOf R at_ t) x (reps t.size) }∧FrK D_c ro w w':=by
 refine F54_of ?_;unfold F54;try dsimp only [B_,lb_,li_,lm_,ui_]
 refine New.mk fun w1 n1 f1 s1=>?_;obtain⟨pb,cb,hst,hsl,hro⟩:=(hS.ed.root _ hm).st;have htm:=(hS.ed.root _ hm).tm;have hcut:=(hS.ext (RExt.cut (w:=w)));refine Join.at (fun s w'=>s=[.int .u64 ((placeOf R at_ t:Nat):Int)]∧Fr0 w1 w') ?_ ?_
 ·try simp only [n1.ld_iff,sb_,Nat.reduceAdd]
  refine Ret.use (f89 t) ?_;rintro _ w2 ⟨rfl,f2⟩;rw [AsB_bool];have n2:=n1.fr0 f2;have hst2:=(hst.fr0 f1).fr0 f2;refine w_ (fun e=>?_) (fun e=>?_)
  ·try simp only [n2.ld_iff,hst2.ld_iff,sb_,Nat.reduceAdd]
   rw [y_a hva];refine k_a T131 (((htm.fr f1 (fun h=>h)).fr f2 (fun h=>h)).fr (S:=fun _=>False) (Qt.refl w2).drew.fr (fun h=>h)) _ ?_;rw [E_b];have e2:(((tab? R.tabs (t.va/1048576)).map fun t:Nat=>Value.int .i64 (t:Int)).getD (.int .i64 0))=.int .i64 (((tab? R.tabs t.mib).getD 0:Nat):Int):=by
    unfold Tr.mib;cases tab? R.tabs (t.va/1048576)<;>rfl
   simp only [] at e2 ⊢;rw [e2,AsI_int];have ht':(tab? R.tabs t.mib).getD 0<2^30:=by
    cases h:tab? R.tabs t.mib with
    | none=>simp
    | some v=>simpa using ht v h
   have hpl:placeOf R at_ t=(tab? R.tabs t.mib).getD 0*1024+t.va/4096%256*4:=by unfold placeOf;rw [if_pos e]
   refine⟨?_,f2.trans (Qt.refl w2).drew.fr⟩;rw [hpl,C_k hva];generalize (tab? R.tabs t.mib).getD 0=T at ht';rw [b_a (n:=(T:Int)) (by omega) (by omega),b_a (n:=(T:Int)*1024) (by omega) (by omega),b_a (n:=((t.va/4096%256:Nat):Int)) (by omega) (by omega),b_a (n:=((t.va/4096%256:Nat):Int)*4) (by omega) (by omega),b_a (by omega) (by omega)];simp only [List.cons.injEq,Value.int.injEq,true_and,and_true];omega
  ·try simp only [n2.ld_iff,sb_,Nat.reduceAdd]
   rw [y_a hva];have hpl:placeOf R at_ t=at_+t.va/1048576*4:=by unfold placeOf;rw [if_neg (by rw [e];decide)];rfl
   refine⟨?_,f2⟩;rw [hpl,b_a (n:=((t.va/1048576:Nat):Int)) (by omega) (by omega),b_a (n:=((t.va/1048576:Nat):Int)*4) (by omega) (by omega),b_a (by omega) (by omega)];simp only [List.cons.injEq,Value.int.injEq,true_and,and_true];omega
 ·rintro _ w2 ⟨rfl,f2⟩;simp only [UnC_cons,UnN_nil,AsI_int];refine RunV.build1 E35 (by decide) rfl fun w3 n3 f3 s3=>?_;rw [AsSl_slice];have n13:=(n1.fr0 f2).fr0 f3
  try simp only [n13.ld_iff,sb_,Nat.reduceAdd]
  refine Ret.use (f109 t.size) ?_;rintro _ _ ⟨rfl,hw⟩;obtain rfl:=hw.symm;rw [AsI_int];have f13:=(f1.trans f2).trans f3;refine Ret.use (f108 (x:=(x:Int)) n3 hr) ?_;rintro _ w4 ⟨q,rfl,h4,f4,hq⟩;rw [AsSl_slice];have f14:=f13.trans f4;have hS4:=(hS.ext (RExt.cut (w:=w))).fr0 f14;have hrd:Rd w4 (some ⟨q,0,none⟩) (List.replicate (reps t.size) (.int .u32 (x:Int))):=fun i v hi=>⟨q,0,rfl,by rw [Nat.zero_add,h4.cell];exact hi⟩;refine Ret.use (f64 hS4 hrd (fun b hb=>by obtain⟨a,h,rfl⟩:=hb;injection h with h;subst h;exact Ro.cut_new (Nat.le_trans f13.size hq)) hx (by omega) hfr hok) ?_;rintro _ w5 ⟨rfl,ro5,e5,hS5,f5⟩;simp only [sb_,Nat.reduceAdd];exact⟨by trivial,ro5,RExt.cut.trans e5 f14.size,hS5,FrK.then (f14.mono fun _ _ h=>h.elim) RExt.cut f5⟩
open Go.IntKind (i64 u64 u32)
def C_h (M:Mst) (k:Int) (word:Int):Mst:=⟨M.mem,x_b M.evs ⟨3,k,u32.wrap (T_d k word+u32.wrap (k_f word))⟩⟩
theorem f55 {w:World} {ro:Ro} {J:Ids} {fr n:Nat} {S:St} (hS:Sys w ro J fr n S) (op2:Int) (ho:op2=1∨op2=2) (word:Int) :
  Ret prog 55 #[.pointer (some ⟨J.e,0,none⟩),.int .i64 op2,.int .u32 word] w fun v w'=>v=.tuple #[]∧∃ro',RExt w ro ro'∧Sys w' ro' J fr n { S with M:=C_h S.M (op2+1) word }∧FrK D_c ro w w':=by
 refine F55_of ?_;unfold F55;try dsimp only [lp_]
 have hst:=hS.ed.st
 try simp only [hst.ld_iff,sb_,Nat.reduceAdd]
 have key:Ret prog 80 #[.pointer (some ⟨J.I.m,0,none⟩),.agg #[.int .i64 8,.int .i64 0,.int .i64 7,.int .i64 op2],.int .u32 word,.bool false] w fun r w' =>
   r=.int .i64 0∧∃ro',RExt w ro ro'∧MachAt w' ro' J.I fr (C_h S.M (op2+1) word)∧FrK D_c ro w w':=by
  rcases ho with rfl|rfl
  ·exact f80d1 hS.gl.gr hS.mach word
  ·exact f80d2 hS.gl.gr hS.mach word
 refine Ret.use key ?_;rintro _ w1 ⟨rfl,ro1,e1,H1,f1⟩;rw [AsI_int];exact⟨by trivial,ro1,e1,hS.machT e1 H1 f1,f1⟩
def L_a (l:List Tr) (va:Nat):Nat×Bool :=
 if m_b l va=true then (findIx l va,true) else match l[findIx l va-1]? with
  | some b=>if 0<findIx l va∧va<b.tend then (findIx l va-1,true) else (findIx l va,false)
  | none=>(findIx l va,false)
theorem f66 {w:World} {ro:Ro} {at_:Nat} {R:RootS} (hG:Gl w) (h:RootAt w ro at_ R) (hs:R.blocks.Pairwise fun a b=>a.va<b.va) (hl:R.blocks.length≤1000000000000) (hva':∀t∈R.blocks,t.va<4294967296) (va:Nat) (hva:va<4294967296) :
  Ret prog 66 #[.pointer (some ⟨R.rb,0,none⟩),.int .u32 (va:Int)] w fun v w'=>v=.tuple #[.int .i64 ((L_a R.blocks va).1:Int),.bool (L_a R.blocks va).2]∧Fr0 w w':=by
 obtain⟨p,c,h1,h2,h3⟩:=h.st;refine F66_of ?_;unfold F66;try dsimp only [Uib,ls_,ub_,ui_]
 simp only [H_,Nat.zero_add];refine h1.ld rfl (AsSl_slice.2 ?_);refine Ret.use (f130 h2.rd hl hs va) ?_;rintro _ w1 ⟨rfl,f1⟩;simp only [sb_,Nat.reduceAdd];have hle:=P_d R.blocks va;unfold L_a;cases he:m_b R.blocks va with
 | true =>
  simp only [Bool.not_true,E_,if_true];exact⟨by trivial,f1⟩
 | false =>
  simp only [Bool.not_false,K_,Bool.false_eq_true,if_false];refine C_ (fun hgt=>?_) (fun hle0=>?_)
  ·obtain⟨b,hb⟩:∃b,R.blocks[findIx R.blocks va-1]?=some b:=⟨R.blocks[findIx R.blocks va-1]'(by omega),List.getElem?_eq_getElem _⟩;rw [hb];have e1:i64.wrap ((findIx R.blocks va:Int)-1)=((findIx R.blocks va-1:Nat):Int):=by rw [w64 (by omega) (by omega)];omega
   rw [e1];refine (h1.fr0 f1).ld rfl (AsSl_slice.2 ?_);refine g_a (h2.fr0 f1).rd rfl hb (by omega) ?_;refine Ret.use (f115 (hG.fr0 f1).gd b (hva' b (List.mem_of_getElem? hb))) ?_;rintro _ w2 ⟨rfl,f2⟩;rw [AsI_int,b_a (n:=(va:Int)) (by omega) (by omega)];simp only;refine C_ (fun hlt=>?_) (fun hge=>?_)
   ·rw [if_pos ⟨by omega,by omega⟩];exact⟨rfl,f1.trans f2⟩
   ·rw [if_neg (by omega)];exact⟨rfl,f1.trans f2⟩
  ·refine⟨?_,f1⟩;have:¬0<findIx R.blocks va:=by omega
   split
   ·rw [if_neg (by omega)]
   ·rfl
theorem Q_f (l:List (Nat×Nat)) (m:Nat):(I_a l).filter (fun p=>p.1 != (m:Int))=I_a (l.filter fun x=>decide (x.1≠m)):=by
 unfold I_a;rw [List.filter_map]
 congr 1
 apply List.filter_congr
 intro x _;simp only [Function.comp_apply];by_cases e:x.1=m
 ·simp [e]
 ·have:((x.1:Int) != (m:Int))=true:=by rw [bne_iff_ne];omega
  rw [this];simp [e]
theorem Fr.K {w w':World} {ro:Ro} {at_:Nat} (f:Fr (U_g ro at_) w w'):FrR ro w w':=f.mono fun b _ hb e=>by rcases hb with h|h|h<;>rw [h] at e<;>cases e
theorem f58 {w:World} {ro:Ro} {J:Ids} {fr n:Nat} {S:St} (hS:Sys w ro J fr n S) {at_:Nat} {R:RootS} (hm:(at_,R)∈S.roots) {m T:Nat} (hm2:m<4096) (hT:tab? R.tabs m=some T) (hT2:T<2^30) (hfr:fr≤65536) (hok:wErr fr (at_+4*m)=0) :
  Ret prog 58 #[.pointer (some ⟨J.e,0,none⟩),.int .u64 (at_:Int),.pointer (some ⟨R.rb,0,none⟩),.int .u32 (m:Int)] w fun v w'=>v=.tuple #[]∧∃ro' e p' l',SDrop S.p S.l (T:Int) e p' l'∧RExt w ro ro' ∧
   Sys w' ro' J fr n ⟨e_a S.M (at_+4*m) 0 1,p',l',G_a S.roots at_ { R with tabs:=R.tabs.filter fun x=>decide (x.1≠m) }⟩∧FrR ro w w':=by
 have hat:=X_j hok;refine F58_of ?_;unfold F58;try dsimp only [lm_,lp_]
 refine RunV.build1 E35 (by decide) rfl fun w1 n1 f1 s1=>?_;rw [AsSl_slice];have hS1:=(hS.ext (RExt.cut (w:=w))).fr0 f1;rw [b_a (n:=(m:Int)) (by omega) (by omega),b_a (n:=(m:Int)*4) (by omega) (by omega),b_a (n:=(at_:Int)+(m:Int)*4) (by omega) (by omega),show (at_:Int)+(m:Int)*4=((at_+4*m:Nat):Int) by omega];refine Ret.use (f64 (x:=0) (k:=1) hS1 (fun i v hi=>⟨w.heap.size,0,rfl,by rw [Nat.zero_add,n1.cell];exact hi⟩) (fun b hb=>by obtain⟨a,h,rfl⟩:=hb;injection h with h;subst h;exact Ro.cut_new (Nat.le_refl _)) (by decide) (by decide) hfr (fun i hi=>by
  have:i=0:=by omega
  subst this;exact hok)) ?_
 rintro _ w2 ⟨rfl,ro2,e2,hS2,f2⟩;simp only [sb_,Nat.reduceAdd];have g2:FrR ro w w2:=FrR.then (f1.mono fun _ _ h=>h.elim) RExt.cut (f2.R (by decide))
 have e02:RExt w ro ro2:=RExt.cut.trans e2 f1.size;have hst:=hS2.ed.st;have hR:=hS2.ed.root _ hm;obtain⟨pb,cb,h1,h2,h3⟩:=hR.st
 try simp only [hst.ld_iff,h1.ld_iff,sb_,Nat.reduceAdd]
 refine k_a T131 (hR.tm.fr (S:=fun _=>False) (Qt.refl w2).drew.fr (fun h=>h)) _ ?_;rw [E_b];simp only [hT,Option.map_some,Option.getD_some,AsI_int];have hS2':=hS2.fr0 (Qt.refl w2).drew.fr;refine Ret.use (A_k hS2'.ps hS2'.gl hS2'.low (T:Int) (by omega)) ?_;rintro _ w3 ⟨e,p',l',ro3,rfl,hd,e3,hP3,f3⟩;rw [AsI_int];have hS3:=hS2'.psT e3 hP3 f3;have f23:FrK psK ro2 w2 w3:=f3.of_drew;have hR3:=hS3.ed.root _ hm;obtain⟨pb3,cb3,h13,h23,h33⟩:=hR3.st
 try simp only [h13.ld_iff,sb_,Nat.reduceAdd]
 refine A_f T131 hR3.tm _ fun w4 m4 f4 s4=>?_;simp only [sb_,Nat.reduceAdd];rw [Q_f] at m4;have hK:Fr (U_g ro3 at_) w3 w4:=f4.mono fun b _ hb=>by have:b=R.tm:=hb;subst this;exact .inr (.inr hR3.rt)
 have hne1:R.rb≠R.tm:=fun h=>by have a:=hR3.rr;rw [h] at a;have b:=hR3.rt;rw [a] at b;cases b
 have hR4:RootAt w4 ro3 at_ { R with tabs:=R.tabs.filter fun x=>decide (x.1≠m) }:=by
  refine⟨⟨pb3,cb3,h13.fr f4 hne1,h23.fr f4 (fun x hx hb=>?_),h33⟩,hR3.rr,m4,hR3.rt⟩;have hb:x=R.tm:=hb;have a:=h33 x hx;rw [hb] at a;have b:=hR3.rt;rw [a] at b;cases b
 have hS4:=hS3.rootT hm (R':={ R with tabs:=R.tabs.filter fun x=>decide (x.1≠m) }) rfl (RExt.refl _ _) hR4 hK;refine⟨by trivial,ro3,e,p',l',hd,e02.trans e3 g2.size,hS4,?_⟩;exact g2.then e02 (FrR.then (f23.R (by decide)) (fun x hx=>e3 x hx) (Fr.K hK))
def Tr.wf (t:Tr):Prop:=t.va<4294967296
def Tr.bad (n:Nat) (t:Tr):Bool:=!(t.right && t.ng && decide (t.tend≤2^(32-n)))
def MayE (n:Nat) (blocks l:List Tr) (e:Nat):Prop :=
 (e=1∧∃t∈l,t.bad n=true) ∨
 (e=141∧(∀t∈l,t.bad n=false)∧∃i t,l[i]?=some t∧((∃b∈blocks,X_ t b=true)∨∃b∈l.take i,X_ t b=true)) ∨
 (e=0∧(∀t∈l,t.bad n=false)∧∀i t,l[i]?=some t→(∀b∈blocks,X_ t b=false)∧∀b∈l.take i,X_ t b=false)
theorem shl_end {n:Nat} (h:1≤n∧n≤7):0≤i64.wrap (32-(n:Int))∧l_ .u64 1 (i64.wrap (32-(n:Int)))=((2^(32-n):Nat):Int):=by
 have:n=1∨n=2∨n=3∨n=4∨n=5∨n=6∨n=7:=by omega
 rcases this with rfl|rfl|rfl|rfl|rfl|rfl|rfl<;>exact⟨by decide,by kernel_rfl⟩
theorem i_b {α:Type} {l:List α} {p:α→Prop} (h:∀k t,k<l.length→l[k]?=some t→p t):∀t∈l,p t:=by
 intro t ht;obtain⟨k,hk,rfl⟩:=List.mem_iff_getElem.1 ht;exact h k _ hk (List.getElem?_eq_getElem hk)
theorem f60 {w:World} {ro:Ro} {J:Ids} {fr n:Nat} {S:St} (hS:Sys w ro J fr n S) {at_:Nat} {R:RootS} (hm:(at_,R)∈S.roots) (hn:1≤n∧n≤7) {q:Option Addr} {c:Nat} {l:List Tr} (hl:Rd w q (D_ l)) (hc:l.length≤c) (hll:l.length≤9000000000000)
  (hwf:∀t∈l,t.wf) (hwb:∀t∈R.blocks,t.wf) (hbl:R.blocks.length≤1000000000000) :
  Ret prog 60 #[.pointer (some ⟨J.e,0,none⟩),.pointer (some ⟨R.rb,0,none⟩),.slice q l.length c] w fun v w'=>∃e:Nat,v=.int .i64 (e:Int)∧MayE n R.blocks l e∧Fr0 w w':=by
 refine F60_of ?_;unfold F60;try dsimp only [B_,S_8,Uii,ce_,lb_,li_,ls_,ui_]
 refine Loop.by (fun s w'=>∃i:Nat,∃x:Int,i≤l.length∧s=[.int .i64 (i:Int),.int .i64 x]∧Fr0 w w'∧∀k t,k<i→l[k]?=some t→t.bad n=false) (fun s _=>match s with | [.int _ i,_]=>l.length-i.toNat|_=>0) ⟨0,0,by omega,rfl,Fr.refl _ _,fun _ _ h=>absurd h (by omega)⟩ ?_
 rintro _ w1 ⟨i,x,hi,rfl,f1,hb⟩;simp only [UnC_cons,UnN_nil,AsI_int];refine C_ (fun hlt=>?_) (fun hge=>?_)
 ·obtain⟨t,ht⟩:∃t,l[i]?=some t:=⟨l[i]'(by omega),List.getElem?_eq_getElem _⟩;have htm:=List.mem_of_getElem? ht;refine g_a (hl.fr0 f1) rfl ht hlt ?_;refine K_j (fun w2 n2 f2 s2=>?_)
  try simp only [n2.ld_iff,sb_,Nat.reduceAdd]
  have hS2:=(hS.fr0 f1).fr0 f2;refine Ret.use (f114 hS2.gl.gd.drew t (hwf t htm)) ?_;rintro _ w3 ⟨rfl,f3⟩
  replace f3:=f3.of_drew
  rw [AsB_bool];have n3:=n2.fr0 f3;have hS3:=hS2.fr0 f3;have f13:=(f1.trans f2).trans f3;refine BIf_not.2 (w_ (fun e1=>?_) (fun e1=>?_))
  ·try simp only [n3.ld_iff,sb_,Nat.reduceAdd]
   refine BIf_not.2 (w_ (fun e2=>?_) (fun e2=>?_))
   ·have hst:=hS3.ed.st
    try simp only [hst.ld_iff,sb_,Nat.reduceAdd]
    obtain⟨h0,h1⟩:=shl_end hn;refine NN.mk h0 ?_;refine Ret.use (f115 hS3.gl.gd t (hwf t htm)) ?_;rintro _ w4 ⟨rfl,f4⟩;rw [AsI_int,h1];refine⟨(hst.fr0 f4).cell.trans rfl,?_⟩;refine C_ (fun hgt=>?_) (fun hle=>?_)
    ·refine⟨1,rfl,.inl ⟨rfl,t,htm,?_⟩,f13.trans f4⟩;unfold Tr.bad;rw [decide_eq_false (by omega),Bool.and_false];rfl
    ·rw [w64 (n:=(i:Int)+1) (by omega) (by omega)];refine⟨⟨i+1,x,by omega,rfl,f13.trans f4,fun k t' hk ht'=>?_⟩,(by first|omega|(simp only [Int.toNat_natCast];omega))⟩;by_cases hki:k=i
     ·subst hki;rw [ht] at ht';injection ht' with ht';subst ht'
      unfold Tr.bad;rw [e1,e2,decide_eq_true (by omega)];rfl
     ·exact hb k t' (by omega) ht'
   ·refine⟨1,rfl,.inl ⟨rfl,t,htm,?_⟩,f13⟩;unfold Tr.bad;rw [e2,Bool.and_false,Bool.false_and];rfl
  ·refine⟨1,rfl,.inl ⟨rfl,t,htm,?_⟩,f13⟩;unfold Tr.bad;rw [e1,Bool.false_and,Bool.false_and];rfl
 ·have hgood:∀t∈l,t.bad n=false:=i_b fun k t hk ht=>hb k t (by omega) ht;refine Loop.by (fun s w'=>∃i:Nat,∃x:Int,i≤l.length∧s=[.int .i64 (i:Int),.int .i64 x]∧Fr0 w w'∧∀k t,k<i→l[k]?=some t→(∀b∈R.blocks,X_ t b=false)∧∀b∈l.take k,X_ t b=false) (fun s _=>match s with | [.int _ i,_]=>l.length-i.toNat|_=>0) ⟨0,x,by omega,rfl,f1,fun _ _ h=>absurd h (by omega)⟩ ?_
  rintro _ w2 ⟨i,x,hi,rfl,f2,hb2⟩;simp only [UnC_cons,UnN_nil,AsI_int];refine C_ (fun hlt=>?_) (fun hge2=>?_)
  ·obtain⟨t,ht⟩:∃t,l[i]?=some t:=⟨l[i]'(by omega),List.getElem?_eq_getElem _⟩;have htm:=List.mem_of_getElem? ht;refine g_a (hl.fr0 f2) rfl ht hlt ?_;refine K_j (fun w3 n3 f3 s3=>?_);have hS3:=(hS.fr0 f2).fr0 f3;have f03:=f2.trans f3;obtain⟨pb,cb,h1,h2,h3⟩:=(hS3.ed.root _ hm).st;simp only [H_,Nat.zero_add];refine h1.ld rfl (AsSl_slice.2 ?_);refine Loop.by (fun s w'=>∃j:Nat,∃x:Int,j≤R.blocks.length∧s=[.int .i64 (j:Int),.int .i64 x]∧Fr0 w3 w'∧∀k b,k<j→R.blocks[k]?=some b→X_ t b=false) (fun s _=>match s with | [.int _ i,_]=>R.blocks.length-i.toNat|_=>0) ⟨0,x,by omega,rfl,Fr.refl _ _,fun _ _ h=>absurd h (by omega)⟩ ?_
   rintro _ w4 ⟨j,y,hj,rfl,f4,hb3⟩;simp only [UnC_cons,UnN_nil,AsI_int];refine C_ (fun hltj=>?_) (fun hgej=>?_)
   ·obtain⟨b,hbj⟩:∃b,R.blocks[j]?=some b:=⟨R.blocks[j]'(by omega),List.getElem?_eq_getElem _⟩;have hbm:=List.mem_of_getElem? hbj;refine g_a (h2.rd.fr0 f4) rfl hbj hltj ?_;refine K_j (fun w5 n5 f5 s5=>?_);have n35:=(n3.fr0 f4).fr0 f5
    try simp only [n5.ld_iff,n35.ld_iff,sb_,Nat.reduceAdd]
    refine Ret.use (f116 (((hS3.gl.fr0 f4).fr0 f5).gd) t b (hwf t htm) (hwb b hbm)) ?_;rintro _ w6 ⟨rfl,f6⟩;rw [AsB_bool];have f46:=(f4.trans f5).trans f6;refine w_ (fun e=>?_) (fun e=>?_)
    ·exact⟨141,rfl,.inr (.inl ⟨rfl,hgood,i,t,ht,.inl ⟨b,hbm,e⟩⟩),f03.trans f46⟩
    ·rw [w64 (n:=(j:Int)+1) (by omega) (by omega)];refine⟨⟨j+1,y,by omega,rfl,f46,fun k b' hk hb'=>?_⟩,(by first|omega|(simp only [Int.toNat_natCast];omega))⟩;by_cases hkj:k=j
     ·subst hkj;rw [hbj] at hb';injection hb' with hb';subst hb';exact e
     ·exact hb3 k b' (by omega) hb'
   ·refine⟨by omega,by omega,?_⟩;have hbs:∀b∈R.blocks,X_ t b=false:=i_b fun k b hk hbk=>hb3 k b (by omega) hbk;simp only [Int.toNat_natCast,Nat.sub_zero,i_a];refine Loop.by (fun s w'=>∃j:Nat,∃x:Int,j≤i∧s=[.int .i64 (j:Int),.int .i64 x]∧Fr0 w4 w'∧∀k b,k<j→l[k]?=some b→X_ t b=false) (fun s _=>match s with | [.int _ j,_]=>i-j.toNat|_=>0) ⟨0,y,by omega,rfl,Fr.refl _ _,fun _ _ h=>absurd h (by omega)⟩ ?_
    rintro _ w5 ⟨j,y,hj,rfl,f5,hb4⟩;simp only [UnC_cons,UnN_nil,AsI_int];have f05:=(f03.trans f4).trans f5;refine C_ (fun hltj=>?_) (fun hgej=>?_)
    ·obtain⟨b,hbj⟩:∃b,l[j]?=some b:=⟨l[j]'(by omega),List.getElem?_eq_getElem _⟩;have hbm:=List.mem_of_getElem? hbj;refine g_a (hl.fr0 f05) rfl hbj hltj ?_;refine K_j (fun w6 n6 f6 s6=>?_);have n36:=((n3.fr0 f4).fr0 f5).fr0 f6
     try simp only [n6.ld_iff,n36.ld_iff,sb_,Nat.reduceAdd]
     refine Ret.use (f116 (((((hS3.gl.fr0 f4).fr0 f5).fr0 f6)).gd) t b (hwf t htm) (hwf b hbm)) ?_;rintro _ w7 ⟨rfl,f7⟩;rw [AsB_bool];have f57:=f6.trans f7;refine w_ (fun e=>?_) (fun e=>?_)
     ·refine⟨141,rfl,.inr (.inl ⟨rfl,hgood,i,t,ht,.inr ⟨b,?_,e⟩⟩),f05.trans f57⟩;refine List.mem_of_getElem? (i:=j) ?_;rw [List.getElem?_take,if_pos (by omega)];exact hbj
     ·rw [w64 (n:=(j:Int)+1) (by omega) (by omega)];refine⟨⟨j+1,y,by omega,rfl,f5.trans f57,fun k b' hk hb'=>?_⟩,(by first|omega|(simp only [Int.toNat_natCast];omega))⟩;by_cases hkj:k=j
      ·subst hkj;rw [hbj] at hb';injection hb' with hb';subst hb';exact e
      ·exact hb4 k b' (by omega) hb'
    ·rw [w64 (n:=(i:Int)+1) (by omega) (by omega)];refine⟨⟨i+1,y,by omega,rfl,f05,fun k t' hk ht'=>?_⟩,(by first|omega|(simp only [Int.toNat_natCast];omega))⟩;by_cases hki:k=i
     ·subst hki;rw [ht] at ht';injection ht' with ht';subst ht'
      refine⟨hbs,i_b fun k' b hk' hbk=>?_⟩;rw [List.length_take] at hk';rw [List.getElem?_take] at hbk;split at hbk
      ·exact hb4 k' b (by omega) hbk
      ·cases hbk
     ·exact hb2 k t' (by omega) ht'
  ·exact⟨0,rfl,.inr (.inr ⟨rfl,hgood,fun k t ht=>hb2 k t (by have:=(List.getElem?_eq_some_iff.1 ht).1;omega) ht⟩),f2⟩
theorem f182 {w:World} {y:Value} {s:Nat} {fs:List Value} {p:Option Addr} {c:Nat} (J:Nat→World→Prop) (hJ:J fs.length w) (hlen:fs.length≤1000000000000) (hread:∀i w',J i w'→Has w' s [.slice p fs.length c]∧Rd w' p fs)
  (step:∀i f,fs[i]?=some f→∀w',J (i+1) w'→∀K:Value→World→Prop,(∀w'',J i w''→K (.bool true) w'')→FnY prog y [.int .i64 (i:Int),f] w' K) :
  Ret prog 182 #[y,.pointer (some ⟨s,0,none⟩)] w fun v w'=>J 0 w':=by
 refine F182c_of ?_;unfold F182c;try dsimp only [ls_,ui_]
 refine (hread _ _ hJ).1.ld rfl (AsSl_slice.2 ?_);have e0:i64.wrap ((fs.length:Int)-1)=(fs.length:Int)-1:=w64 (by omega) (by omega);rw [e0];refine Loop.by (fun st w'=>∃i:Nat,i≤fs.length∧st=[.int .i64 ((i:Int)-1)]∧J i w') (fun st _=>match st with | [.int _ i]=>(i+1).toNat|_=>0) ⟨fs.length,Nat.le_refl _,rfl,hJ⟩ ?_
 rintro _ w1 ⟨i,hi,rfl,h1⟩;simp only [UnC_cons,UnN_nil,AsI_int];refine C_ (fun hge=>?_) (fun hlt=>?_)
 ·obtain⟨k,rfl⟩:∃k,i=k+1:=⟨i-1,by omega⟩;have hk:((k+1:Nat):Int)-1=(k:Int):=by omega
  rw [hk];obtain⟨f,hf⟩:∃f,fs[k]?=some f:=⟨fs[k]'(by omega),List.getElem?_eq_getElem _⟩;obtain⟨r1,r2⟩:=hread _ _ h1;refine r1.ld rfl (AsSl_slice.2 ?_);obtain⟨b,o,hp,hc⟩:=r2 k f hf;rw [hp,G_];refine⟨by omega,by omega,?_⟩;rw [H_,Int.toNat_natCast,Nat.mul_one];refine⟨_,hc,?_⟩;refine step k f hf w1 h1 _ fun w2 h2=>?_;rw [AsB_bool];simp only [Bool.not_true,E_];rw [w64 (n:=(k:Int)-1) (by omega) (by omega)];exact⟨⟨k,by omega,rfl,h2⟩,(by first|omega|(simp only [Int.toNat_natCast];omega))⟩
 ·obtain rfl:i=0:=by omega
  exact h1
inductive Chain (p0:Pool) (l0:List Qr):List Nat→Pool→List Qr→Prop
 | nil:Chain p0 l0 [] p0 l0
 | snoc {ns:List Nat} {p p':Pool} {l l':List Qr} {r:Nat} (h:Chain p0 l0 ns p l) (ho:SlabOk l) (hs:STake p l r 0 p' l'):Chain p0 l0 (ns++[r]) p' l'
theorem Chain.last {p0 p:Pool} {l0 l:List Qr} {ns:List Nat} {r:Nat} (h:Chain p0 l0 (ns++[r]) p l):∃p1 l1,Chain p0 l0 ns p1 l1∧SlabOk l1∧STake p1 l1 r 0 p l:=by
 generalize he:ns++[r]=ms at h;cases h with
 | nil=>simp at he
 | snoc h ho hs =>
  obtain⟨rfl,e⟩:=List.append_inj' he rfl;injection e with e;subst e
  exact⟨_,_,h,ho,hs⟩
def undoV (ea nb:Nat):Value:=.func (.func 121) #[] #[.pointer (some ⟨ea,0,none⟩),.pointer (some ⟨nb,0,none⟩)]
structure BackAt (w:World) (ro:Ro) (J:Ids) (u ea:Nat) (p:Option Addr) (c:Nat) (nbs ns:List Nat):Prop where
 st:Has w u [.slice p nbs.length c]
 rd:Rd w p (nbs.map (undoV ea))
 he:Has w ea [.pointer (some ⟨J.e,0,none⟩)]
 len:nbs.length=ns.length
 n:∀(i b n:Nat),nbs[i]?=some b→ns[i]?=some n→Has w b [.int .i64 (n:Int)]∧(ro b).1=0
 ru:(ro u).1=0
 re:(ro ea).1=0
 rp:∀b,On p b→(ro b).1=0
 lt:∀n∈ns,n<2^31
theorem BackAt.fr {w w':World} {ro:Ro} {J:Ids} {u ea c:Nat} {p:Option Addr} {nbs ns:List Nat} (h:BackAt w ro J u ea p c nbs ns) {T:Nat→Prop} (f:Fr T w w') (hT:∀x,x<w.heap.size→(ro x).1=0→¬T x):BackAt w' ro J u ea p c nbs ns:=by
 have f':Fr (fun x=>T x∧x<w.heap.size) w w':=f.mono fun b hb hS=>⟨hS,hb⟩;exact⟨h.st.fr f' (fun ⟨h1,h2⟩=>hT _ h2 h.ru h1),h.rd.fr f' (fun b hb ⟨h1,h2⟩=>hT _ h2 (h.rp b hb) h1),h.he.fr f' (fun ⟨h1,h2⟩=>hT _ h2 h.re h1),h.len,fun i b n h1 h2=>⟨(h.n i b n h1 h2).1.fr f' (fun ⟨h3,h4⟩=>hT _ h4 (h.n i b n h1 h2).2 h3),(h.n i b n h1 h2).2⟩,h.ru,h.re,h.rp,h.lt⟩
theorem f121 {w:World} {ro:Ro} {J:Ids} {fr n:Nat} {S:St} (hS:Sys w ro J fr n S) {ea nb t:Nat} (h1:Has w ea [.pointer (some ⟨J.e,0,none⟩)]) (h2:Has w nb [.int .i64 (t:Int)]) (ht:t<2^31) :
  Ret prog 121 #[.pointer (some ⟨ea,0,none⟩),.pointer (some ⟨nb,0,none⟩)] w fun v w'=>v=.tuple #[]∧∃e p' l' ro',SDrop S.p S.l (t:Int) e p' l'∧RExt w ro ro'∧Sys w' ro' J fr n { S with p:=p',l:=l' }∧FrK psK ro w w':=by
 refine F121c_of ?_;unfold F121c;try dsimp only [li_,lp_]
 have hst:=hS.ed.st;refine h1.ld rfl (AsP_pointer.2 ?_);rw [G_]
 try simp only [hst.ld_iff,h2.ld_iff,sb_,Nat.reduceAdd]
 have hS':=hS.fr0 (Qt.refl w).drew.fr;refine Ret.use (A_k hS'.ps hS'.gl hS'.low (t:Int) (by omega)) ?_;rintro _ w1 ⟨e,p',l',ro',rfl,hd,e1,hP,f1⟩;rw [AsI_int];exact⟨by trivial,e,p',l',ro',hd,fun x hx=>e1 x hx,hS'.psT e1 hP f1,f1.of_drew⟩
theorem _root_.Go.Sh.Fr.thenS {T T':Nat→Prop} {a b c:World} (h:Fr T a b) (k:Fr T' b c) (hs:∀x,x<a.heap.size→T' x→T x):Fr T a c :=
 ⟨k.os.trans h.os,k.output.trans h.output,k.tape.trans h.tape,Nat.le_trans h.size k.size,fun x hx hn=>(k.block x (Nat.lt_of_lt_of_le hx h.size) fun h'=>hn (hs x hx h')).trans (h.block x hx hn)⟩
theorem f118 {w:World} (p:Option Addr) (n c:Nat):Ret prog 118 #[.slice p n c] w fun v w'=>v=.func (.func 182) #[] #[.pointer (some ⟨w.heap.size,0,none⟩)]∧Has w' w.heap.size [.slice p n c]∧Fr0 w w'∧w'.heap.size=w.heap.size+1:=by
 refine F118_of ?_;unfold F118;exact New.mk fun w1 n1 f1 s1=>⟨rfl,n1,f1,s1⟩
theorem f117 {w:World} {ro:Ro} {J:Ids} {fr n:Nat} {S:St} (hS:Sys w ro J fr n S) {u ea c:Nat} {p:Option Addr} {nbs ns:List Nat} (hB:BackAt w ro J u ea p c nbs ns) (hl:ns.length≤1000000000000) {p0:Pool} {l0:List Qr} (hC:Chain p0 l0 ns S.p S.l) (hok:SlabOk S.l) :
  Ret prog 117 #[.pointer (some ⟨u,0,none⟩)] w fun v w'=>v=.tuple #[]∧∃ro',RExt w ro ro'∧Sys w' ro' J fr n { S with p:=p0,l:=l0 }∧FrK psK ro w w':=by
 have hlen:=hB.len;have hsz:=hS.gl.gr.size;refine F117c_of ?_;unfold F117c;try dsimp only [ls_]
 refine hB.st.ld rfl (AsSl_slice.2 ?_);refine Ret.use (f118 _ _ _) ?_;rintro _ w1 ⟨rfl,n1,f1,s1⟩;refine⟨182,_,_,rfl,by kernel_rfl,?_⟩;intro y L Rdy Bsy hL hR hBs hY w2 f2 s2 hdef hrdy;have g2:=f1.trans f2;have hS2:=(hS.ext (RExt.cut (w:=w))).fr0 g2;have hLn:((ro.cut w) L).1=0:=Ro.cut_new (by omega);have n2:=n1.fr0 f2;obtain⟨T,hT⟩:∃T:Nat→Prop,T=fun b=>((ro.cut w) b).1∈psK∨b=L:=⟨_,rfl⟩;have hTL:T L:=by rw [hT];exact .inr rfl
 have hback:∀w',Fr T w2 w'→BackAt w' ro J u ea p c nbs ns:=fun w' f=>by
  refine hB.fr ((g2.mono fun _ _ h=>h.elim).trans f) fun x hx h0 hTx=>?_;rw [hT] at hTx;rcases hTx with h|h
  ·rw [RExt.cut x hx,h0] at h;simp at h
  ·omega
 refine Ret.use (R:=fun v w'=>∃ro' p l,Chain p0 l0 (ns.take 0) p l∧SlabOk l∧RExt w2 (ro.cut w) ro'∧Sys w' ro' J fr n { S with p:=p,l:=l }∧Fr T w2 w'∧Rdy w') (f182 (fun i w'=>∃ro' p l,Chain p0 l0 (ns.take i) p l∧SlabOk l∧RExt w2 (ro.cut w) ro'∧Sys w' ro' J fr n { S with p:=p,l:=l }∧Fr T w2 w'∧Rdy w')
  (fs:=nbs.map (undoV ea)) (p:=p) (c:=c) ⟨ro.cut w,S.p,S.l,by rw [List.length_map,hlen,List.take_length];exact hC,hok,RExt.refl _ _,hS2,Fr.refl _ _,hrdy⟩ (by rw [List.length_map];omega) (fun i w'=>?_) (fun i f hf w'=>?_)) ?_
 ·rintro ⟨ro',p',l',h1,h2,h3,h4,h5,h6⟩;refine⟨?_,(hback _ h5).rd⟩;have:Has w2 w.heap.size [.slice p (nbs.map (undoV ea)).length c]:=by rw [List.length_map];exact n2
  refine this.fr h5 fun hx=>?_;rw [hT] at hx;rcases hx with h|h
  ·rw [Ro.cut_new (Nat.le_refl _)] at h;simp at h
  ·omega
 ·rintro ⟨ro',p',l',h1,h2,h3,h4,h5,h6⟩ K hK;rw [List.getElem?_map] at hf;obtain⟨nb,hnb,rfl⟩:=Option.map_eq_some_iff.1 hf;have hil:=(List.getElem?_eq_some_iff.1 hnb).1;obtain⟨t,ht⟩:∃t,ns[i]?=some t:=⟨ns[i]'(by omega),List.getElem?_eq_getElem _⟩;have e1:ns.take (i+1)=ns.take i++[t]:=by rw [List.take_add_one,ht];rfl
  rw [e1] at h1;obtain⟨p1,l1,c1,c2,c3⟩:=h1.last;have hL':(ro' L).1=0:=by rw [h3 L (by omega)];exact hLn
  refine .inr (hY _ _ _ h6 ?_);simp only [UnC_cons,UnN_nil];refine⟨h6,fun w3 hb3 f3 s3=>?_⟩;have f03:Fr T w2 w3:=h5.thenS f3 fun x _ hx=>by rw [show x=L from hx];exact hTL
  have hS3:=h4.frO f3 (fun x hx=>by rw [show x=L from hx];exact hL') (fun x hx h=>by have h:x=L:=h;omega);have hb:=hback _ f03;refine .inl ⟨121,_,_,rfl,by kernel_rfl,?_⟩;refine Ret.use (f121 hS3 hb.he (hb.n i nb t hnb ht).1 (hB.lt t (List.mem_of_getElem? ht))) ?_;rintro _ w4 ⟨rfl,e,p4,l4,ro4,hd,e4,hS4,f4⟩;simp only [sb_,Nat.reduceAdd];obtain⟨-,rfl,rfl⟩:=SDrop.det h2 hd (c3.undo c2);have hL4:(ro4 L).1=0:=by rw [e4 L (by have:=f03.size;omega)];exact hL'
  refine⟨hBs _ _ _ f4 (by rw [hL'];decide) hb3,fun w5 hr5 f5 s5=>hK w5 ?_⟩;refine⟨ro4,p4,l4,c1,c2,fun x hx=>(e4 x (by have:=h5.size;have:=f3.size;omega)).trans (h3 x hx),?_,?_,hr5⟩
  ·exact hS4.frO f5 (fun x hx=>by rw [show x=L from hx];exact hL4) (fun x hx h=>by have h:x=L:=h;omega)
  ·refine (f03.thenS f4 fun x hx h=>?_).thenS f5 fun x _ hx=>by rw [show x=L from hx];exact hTL
   rw [hT];rw [h3 x hx] at h;exact .inl h
 ·rintro v w3 ⟨ro',p',l',h1,h2,h3,h4,h5,h6⟩;refine⟨h6,fun w4 f4 s4=>?_⟩;have e0:p'=p0∧l'=l0:=by
   rw [List.take_zero] at h1;generalize hz:([]:List Nat)=z at h1;cases h1 with
   | nil=>exact⟨rfl,rfl⟩
   | snoc=>simp at hz
  obtain⟨rfl,rfl⟩:=e0;have hL':(ro' L).1=0:=by rw [h3 L (by omega)];exact hLn
  have hS4:=h4.frO f4 (fun x hx=>by rw [show x=L from hx];exact hL') (fun x hx h=>by have h:x=L:=h;omega);have f24:Fr T w2 w4:=h5.thenS f4 fun x _ hx=>by rw [show x=L from hx];exact hTL
  have hD:((ro.cut w) w1.heap.size).1=0:=Ro.cut_new (by omega);have hd4:w4.heap[w1.heap.size]?=some (.deferred (some [])):=by
   rw [f24.block _ (by omega) (fun hx=>by
    rw [hT] at hx;rcases hx with h|h
    ·rw [hD] at h;simp at h
    ·omega)]
   exact hdef
  refine⟨hd4,fun w5 f5 s5=>?_⟩;have hD':(ro' w1.heap.size).1=0:=by rw [h3 _ (by omega)];exact hD
  refine⟨rfl,ro',fun x hx=>(h3 x (by have:=g2.size;omega)).trans (RExt.cut x hx),hS4.frO f5 (fun x hx=>by rw [show x=_ from hx];exact hD') (fun x hx h=>by have h:x=w1.heap.size:=h;omega),?_⟩;have f25:Fr (fun b=>T b∨b=w1.heap.size) w2 w5:=(f24.mono fun _ _ h=>.inl h).thenS f5 fun x _ hx=>.inr hx;refine⟨f25.os.trans g2.os,f25.output.trans g2.output,f25.tape.trans g2.tape,Nat.le_trans g2.size f25.size,fun x hx hn=>(f25.block x (Nat.lt_of_lt_of_le hx g2.size) fun h=>?_).trans (g2.block x hx fun h=>h)⟩;rcases h with h|h
  ·rw [hT] at h;rcases h with h|h
   ·rw [RExt.cut x hx] at h;exact hn h
   ·omega
  ·omega
def I_d (tabs mine:List (Nat×Nat)) (t:Tr):Bool:=t.paged && !(tab? tabs t.mib).isSome && !(tab? mine t.mib).isSome
inductive TakeI (tabs:List (Nat×Nat)) (p0:Pool) (l0:List Qr):List Tr→List (Nat×Nat×Bool)→List (Nat×Nat)→Pool→List Qr→Prop
 | nil:TakeI tabs p0 l0 [] [] [] p0 l0
 | skip {ts:List Tr} {got:List (Nat×Nat×Bool)} {mine:List (Nat×Nat)} {p:Pool} {l:List Qr} {t:Tr} (h:TakeI tabs p0 l0 ts got mine p l) (hn:I_d tabs mine t=false):TakeI tabs p0 l0 (ts++[t]) got mine p l
 | one {ts:List Tr} {got:List (Nat×Nat×Bool)} {mine:List (Nat×Nat)} {p p':Pool} {l l':List Qr} {t:Tr} {r:Nat} (h:TakeI tabs p0 l0 ts got mine p l) (hn:I_d tabs mine t=true) (ho:SlabOk l) (hs:STake p l r 0 p' l') :
   TakeI tabs p0 l0 (ts++[t]) (got++[(ts.length,r,!decide (r/4∈l.map Qr.f))]) (mine++[(t.mib,r)]) p' l'
theorem TakeI.chain {tabs:List (Nat×Nat)} {p0 p:Pool} {l0 l:List Qr} {ts:List Tr} {got:List (Nat×Nat×Bool)} {mine:List (Nat×Nat)} (h:TakeI tabs p0 l0 ts got mine p l):Chain p0 l0 (mine.map (·.2)) p l:=by
 induction h with
 | nil=>exact .nil
 | skip _ _ ih=>exact ih
 | one _ _ ho hs ih=>rw [List.map_append];exact .snoc ih ho hs
theorem TakeI.idx {tabs:List (Nat×Nat)} {p0 p:Pool} {l0 l:List Qr} {ts:List Tr} {got:List (Nat×Nat×Bool)} {mine:List (Nat×Nat)} (h:TakeI tabs p0 l0 ts got mine p l):∀g∈got,g.1<ts.length:=by
 induction h with
 | nil=>intro g hg;simp at hg
 | skip _ _ ih=>intro g hg;have:=ih g hg;simp;omega
 | one _ _ _ _ ih =>
  intro g hg;rcases List.mem_append.1 hg with hg|hg
  ·have:=ih g hg;simp;omega
  ·simp at hg;subst hg;simp
theorem TakeI.mine_len {tabs:List (Nat×Nat)} {p0 p:Pool} {l0 l:List Qr} {ts:List Tr} {got:List (Nat×Nat×Bool)} {mine:List (Nat×Nat)} (h:TakeI tabs p0 l0 ts got mine p l):mine.length≤ts.length:=by
 induction h with
 | nil=>simp
 | skip _ _ ih=>simp;omega
 | one _ _ _ _ ih=>simp;omega
def g_i (tabs:List (Nat×Nat)) (p0:Pool) (l0:List Qr) (ts:List Tr) (e:Nat):Prop :=
 e≠0∧∃i t got mine p l r p' l',ts[i]?=some t∧TakeI tabs p0 l0 (ts.take i) got mine p l∧I_d tabs mine t=true∧STake p l r e p' l'
def p_c (l:List (Nat×Nat×Bool)):List (Int×Value):=l.map fun g=>((g.1:Int),.agg #[.int .i64 (g.2.1:Int),.bool g.2.2])
theorem T147:MapT prog 147 3 151 .i64 (.agg #[.int .i64 0,.bool false]):=⟨by kernel_rfl,by kernel_rfl,by kernel_rfl⟩
theorem E225:ElemT prog 225 1 Value.nilFunc 1 8:=⟨by kernel_rfl,by kernel_rfl,rfl,by decide⟩
structure TkAt (w:World) (ro:Ro) (J:Ids) (gm mm u ea:Nat) (got:List (Nat×Nat×Bool)) (mine:List (Nat×Nat)) (pu:Option Addr) (cu:Nat) (nbs:List Nat):Prop where
 hg:MapIs w gm .i64 (p_c got)
 rg:ro gm=(0,1)
 hm:MapIs w mm .u32 (I_a mine)
 rm:ro mm=(0,2)
 hu:Has w u [.slice pu nbs.length cu]
 ru:ro u=(0,3)
 he:Has w ea [.pointer (some ⟨J.e,0,none⟩)]
 re:ro ea=(0,4)
 sl:Sl w 0 1 1 pu nbs.length cu (nbs.map (undoV ea))
 rp:∀b,On pu b→ro b=(0,5)
 len:nbs.length=mine.length
 n:∀(i b:Nat) (x:Nat×Nat),nbs[i]?=some b→mine[i]?=some x→Has w b [.int .i64 (x.2:Int)]∧ro b=(0,6)
 lt:∀x∈mine,x.2<2^31
theorem TkAt.ext {w:World} {ro ro':Ro} {J:Ids} {gm mm u ea cu:Nat} {got:List (Nat×Nat×Bool)} {mine:List (Nat×Nat)} {pu:Option Addr} {nbs:List Nat} (h:TkAt w ro J gm mm u ea got mine pu cu nbs) (e:RExt w ro ro'):TkAt w ro' J gm mm u ea got mine pu cu nbs :=
 ⟨h.hg,(e _ (K_a h.hg)).trans h.rg,h.hm,(e _ (K_a h.hm)).trans h.rm,h.hu,(e _ h.hu.lt).trans h.ru,h.he,(e _ h.he.lt).trans h.re,h.sl,fun b hb=>(e _ (h.sl.lt b hb).2).trans (h.rp b hb),h.len,fun i b x h1 h2=>⟨(h.n i b x h1 h2).1,(e _ (h.n i b x h1 h2).1.lt).trans (h.n i b x h1 h2).2⟩,h.lt⟩
theorem TkAt.fr {w w':World} {ro:Ro} {J:Ids} {gm mm u ea cu:Nat} {got:List (Nat×Nat×Bool)} {mine:List (Nat×Nat)} {pu:Option Addr} {nbs:List Nat} (h:TkAt w ro J gm mm u ea got mine pu cu nbs) {T:Nat→Prop} (f:Fr T w w') (hT:∀x,1≤(ro x).2→(ro x).2≤6→(ro x).1=0→¬T x):TkAt w' ro J gm mm u ea got mine pu cu nbs:=by
 have hh:∀x k,1≤k→k≤6→ro x=(0,k)→¬T x:=fun x k h1 h2 h3=>hT x (by rw [h3];exact h1) (by rw [h3];exact h2) (by rw [h3]);exact⟨h.hg.fr f (hh _ 1 (by decide) (by decide) h.rg),h.rg,h.hm.fr f (hh _ 2 (by decide) (by decide) h.rm),h.rm,h.hu.fr f (hh _ 3 (by decide) (by decide) h.ru),h.ru,h.he.fr f (hh _ 4 (by decide) (by decide) h.re),h.re,h.sl.fr f (fun b hb=>hh _ 5 (by decide) (by decide) (h.rp b hb)),h.rp,h.len,
  fun i b x h1 h2=>⟨(h.n i b x h1 h2).1.fr f (hh _ 6 (by decide) (by decide) (h.n i b x h1 h2).2),(h.n i b x h1 h2).2⟩,h.lt⟩
theorem TkAt.fr0 {w w':World} {ro:Ro} {J:Ids} {gm mm u ea cu:Nat} {got:List (Nat×Nat×Bool)} {mine:List (Nat×Nat)} {pu:Option Addr} {nbs:List Nat} (h:TkAt w ro J gm mm u ea got mine pu cu nbs) (f:Fr0 w w'):TkAt w' ro J gm mm u ea got mine pu cu nbs:=h.fr f fun _ _ _ _ h=>h
theorem TkAt.frK {w w':World} {ro:Ro} {J:Ids} {gm mm u ea cu:Nat} {got:List (Nat×Nat×Bool)} {mine:List (Nat×Nat)} {pu:Option Addr} {nbs:List Nat} (h:TkAt w ro J gm mm u ea got mine pu cu nbs) {ks:List Nat} (f:FrK ks ro w w') (h0:0∉ks):TkAt w' ro J gm mm u ea got mine pu cu nbs:=h.fr f fun x _ _ h1 hx=>h0 (by rw [h1] at hx;exact hx)
theorem TkAt.back {w:World} {ro:Ro} {J:Ids} {gm mm u ea cu:Nat} {got:List (Nat×Nat×Bool)} {mine:List (Nat×Nat)} {pu:Option Addr} {nbs:List Nat} (h:TkAt w ro J gm mm u ea got mine pu cu nbs):BackAt w ro J u ea pu cu nbs (mine.map (·.2)):=by
 refine⟨h.hu,h.sl.rd,h.he,by rw [List.length_map];exact h.len,fun i b n h1 h2=>?_,by rw [h.ru],by rw [h.re],fun b hb=>by rw [h.rp b hb],fun n hn=>?_⟩
 ·rw [List.getElem?_map] at h2;obtain⟨x,hx,rfl⟩:=Option.map_eq_some_iff.1 h2;obtain⟨k1,k2⟩:=h.n i b x h1 hx;exact⟨k1,by rw [k2]⟩
 ·obtain⟨x,hx,rfl⟩:=List.mem_map.1 hn;exact h.lt x hx
theorem k_g {ro:Ro} {a b i j:Nat} (ha:ro a=(0,i)) (hb:ro b=(0,j)) (hij:i≠j):a≠b:=fun e=>by rw [e,hb] at ha;injection ha with _ h;exact hij h.symm
theorem E_j {got:List (Nat×Nat×Bool)} {i:Nat} (h:∀g∈got,g.1<i):at? (p_c got) (i:Int)=none:=by
 unfold at? p_c;rw [List.find?_eq_none.2,Option.map_none];intro x hx;obtain⟨g,hg,rfl⟩:=List.mem_map.1 hx;have:=h g hg;simp;omega
theorem j_j (l:List (Nat×Nat)) (m:Nat):(at? (I_a l) (m:Int)).getD (.int .i64 0)=.int .i64 (((tab? l m).getD 0:Nat):Int):=by
 rw [E_b];cases tab? l m<;>rfl
theorem k_j (l:List (Nat×Nat)) (m:Nat):(at? (I_a l) (m:Int)).isSome=(tab? l m).isSome:=by
 rw [E_b];cases tab? l m<;>rfl
theorem f61 {w:World} {ro:Ro} {J:Ids} {fr n:Nat} {S:St} (hS:Sys w ro J fr n S) {at_:Nat} {R:RootS} (hm:(at_,R)∈S.roots) {q:Option Addr} {c:Nat} {l:List Tr} (hl:Rd w q (D_ l)) (hon:l≠[]→∀b,On q b→(ro b).1=0) (hll:l.length≤1000000000000)
  (hwf:∀t∈l,t.wf) (hok:SlabOk S.l) :
  Ret prog 61 #[.pointer (some ⟨J.e,0,none⟩),.pointer (some ⟨R.rb,0,none⟩),.slice q l.length c] w fun v w' =>
   (∃(e:Nat) (ro':Ro),v=.tuple #[.map none,.nilFunc,.int .i64 (e:Int)]∧g_i R.tabs S.p S.l l e∧RExt w ro ro'∧Sys w' ro' J fr n S∧FrK psK ro w w') ∨
   (∃(ro':Ro) (got:List (Nat×Nat×Bool)) (mine:List (Nat×Nat)) (p':Pool) (l':List Qr) (gm mm u ea cu:Nat) (pu:Option Addr) (nbs:List Nat),v=.tuple #[.map (some gm),.func (.func 117) #[] #[.pointer (some ⟨u,0,none⟩)],.int .i64 0] ∧
    TakeI R.tabs S.p S.l l got mine p' l'∧SlabOk l'∧RExt w ro ro'∧Sys w' ro' J fr n { S with p:=p',l:=l' }∧FrK psK ro w w'∧TkAt w' ro' J gm mm u ea got mine pu cu nbs):=by
 have hsz:=hS.gl.gr.size;refine F61_of ?_;unfold F61;try dsimp only [B_,S_8,Uib,Uii,ce_,lb_,li_,lm_,lp_,ls_,ub_,ui_,um_]
 refine New.mk fun wa na fa sa=>?_;refine B_b .i64 fun wb nb fb sb=>?_;rw [AsM_map];refine B_b .u32 fun wc nc fc sc=>?_;rw [AsM_map];refine New.mk fun wd nd fd sd=>?_;have g0:=((fa.trans fb).trans fc).trans fd;obtain⟨ro0,hro0⟩:∃ro0:Ro,ro0=fun x=>if x<w.heap.size then ro x else if x=w.heap.size then (0,4) else if x=wa.heap.size then (0,1) else if x=wb.heap.size then (0,2) else if x=wc.heap.size then (0,3) else (0,0):=⟨_,rfl⟩
 have e0:RExt w ro ro0:=fun x hx=>by rw [hro0];simp only [if_pos hx]
 have hS0:=(hS.ext e0).fr0 g0;have hT0:TkAt wd ro0 J wa.heap.size wb.heap.size wc.heap.size w.heap.size [] [] none 0 []:=by
  refine⟨(nb.fr fc (fun h=>h)).fr fd (fun h=>h),?_,nc.fr fd (fun h=>h),?_,nd,?_,((na.fr0 fb).fr0 fc).fr0 fd,?_,Sl.nil _ _ _ _,fun b hb=>?_,rfl,fun i b x h=>by simp at h,fun x hx=>by simp at hx⟩
  ·rw [hro0];simp only;rw [if_neg (by omega),if_neg (by omega)];simp
  ·rw [hro0];simp only;rw [if_neg (by omega),if_neg (by omega),if_neg (by omega)];simp
  ·rw [hro0];simp only;rw [if_neg (by omega),if_neg (by omega),if_neg (by omega),if_neg (by omega)];simp
  ·rw [hro0];simp only;rw [if_neg (by omega)];simp
  ·obtain⟨a,h,_⟩:=hb;cases h
 have F0:FrK psK ro w wd:=g0.mono fun _ _ h=>h.elim;have z1:w.heap.size≤wa.heap.size:=fa.size;have z2:wa.heap.size≤wb.heap.size:=fb.size;have z3:wb.heap.size≤wc.heap.size:=fc.size;generalize hgm:wa.heap.size=gm at *;generalize hmm:wb.heap.size=mm at *;generalize hu:wc.heap.size=u at *;generalize hea:w.heap.size=ea at *;clear hro0;refine Loop.by (fun s w'=>∃(i:Nat) (x:Int) (v:Value) (pm:Option Nat) (ro':Ro) (got:List (Nat×Nat×Bool)) (mine:List (Nat×Nat)) (p':Pool) (l':List Qr) (cu:Nat) (pu:Option Addr) (nbs:List Nat),
   i≤l.length∧s=[.int .i64 (i:Int),.int .i64 x,v,.map pm]∧TakeI R.tabs S.p S.l (l.take i) got mine p' l'∧SlabOk l'∧RExt w ro ro'∧Sys w' ro' J fr n { S with p:=p',l:=l' }∧FrK psK ro w w'∧TkAt w' ro' J gm mm u ea got mine pu cu nbs∧∀b,On pu b→ea≤b)
  (fun s _=>match s with | [.int _ i,_,_,_]=>l.length-i.toNat|_=>0)
  ⟨0,0,.nilFunc,none,ro0,[],[],S.p,S.l,0,none,[],by omega,rfl,.nil,hok,e0,hS0,F0,hT0,fun b hb=>by obtain⟨a,h,_⟩:=hb;cases h⟩ ?_
 rintro _ w1 ⟨i,x,v,pm,ro1,got,mine,p1,l1,cu,pu,nbs,hi,rfl,hTI,hok1,e1,hS1,F1,hT1,hpu⟩;simp only [UnC_cons,UnN_nil,AsI_int,AsM_map];refine C_ (fun hlt=>?_) (fun hge=>?_)
 ·obtain⟨t,ht⟩:∃t,l[i]?=some t:=⟨l[i]'(by omega),List.getElem?_eq_getElem _⟩;have htm:=List.mem_of_getElem? ht;have hva:t.va<2^32:=hwf t htm;have htake:l.take (i+1)=l.take i++[t]:=by rw [List.take_add_one,ht];rfl
  refine Join.at (fun s w'=>∃(x:Int) (v:Value) (pm:Option Nat) (ro':Ro) (got:List (Nat×Nat×Bool)) (mine:List (Nat×Nat)) (p':Pool) (l':List Qr) (cu:Nat) (pu:Option Addr) (nbs:List Nat),
   s=[.int .i64 x,v,.map pm]∧TakeI R.tabs S.p S.l (l.take (i+1)) got mine p' l'∧SlabOk l'∧RExt w ro ro'∧Sys w' ro' J fr n { S with p:=p',l:=l' }∧FrK psK ro w w'∧TkAt w' ro' J gm mm u ea got mine pu cu nbs∧∀b,On pu b→ea≤b) ?_ ?_
  ·refine g_a (hl.fr F1 fun b hb h=>by rw [hon (fun h=>by rw [h] at ht;simp at ht) b hb] at h;simp at h) rfl ht hlt ?_;refine K_j (fun w2 n2 f2 s2=>?_);have hS2:=(hS1.ext (RExt.cut (w:=w1))).fr0 f2;have hT2:=(hT1.ext (RExt.cut (w:=w1))).fr0 f2;have hR2:=hS2.ed.root _ hm;obtain⟨pb,cb,h1,h2,h3⟩:=hR2.st;have F2:FrK psK ro w w2:=F1.thenS f2 fun _ _ h=>h.elim;have hea1:ea≤w1.heap.size:=by rw [←hea];exact F1.size
   have hea2:ea≤w2.heap.size:=by rw [←hea];exact F2.size
   try simp only [n2.ld_iff,h1.ld_iff,sb_,Nat.reduceAdd]
   rw [y_a hva];refine M_d T131 (hR2.tm.fr (S:=fun _=>False) (Qt.refl w2).drew.fr (fun h=>h)) _ ?_;rw [show (((t.va/1048576:Nat):Int))=((t.mib:Nat):Int) from rfl,j_j,k_j];simp only [sb_,Nat.reduceAdd]
   try simp only [n2.ld_iff,sb_,Nat.reduceAdd]
   refine M_d T131 (hT2.hm.fr (S:=fun _=>False) (Qt.refl w2).drew.fr (fun h=>h)) _ ?_;rw [j_j,k_j];simp only [sb_,Nat.reduceAdd]
   try simp only [n2.ld_iff,sb_,Nat.reduceAdd]
   refine Ret.use (f89 t) ?_;rintro _ w3 ⟨rfl,f3⟩
   replace f3:=f3.of_drew
   rw [AsB_bool];have F3:FrK psK ro w w3:=F2.thenS f3 fun _ _ h=>h.elim;have hS3:=hS2.fr0 f3;have hT3:=hT2.fr0 f3;have e3:RExt w ro (ro1.cut w1):=fun x hx=>(RExt.cut x (Nat.lt_of_lt_of_le hx F1.size)).trans (e1 x hx);have skip:I_d R.tabs mine t=false→∃(x_1:Int) (v_1:Value) (pm_1:Option Nat) (ro':Ro) (got:List (Nat×Nat×Bool)) (mine:List (Nat×Nat)) (p':Pool) (l':List Qr) (cu:Nat) (pu:Option Addr) (nbs:List Nat),
     [Value.int .i64 x,v,.map pm]=[.int .i64 x_1,v_1,.map pm_1]∧TakeI R.tabs S.p S.l (l.take (i+1)) got mine p' l'∧SlabOk l'∧RExt w ro ro'∧Sys w3 ro' J fr n { S with p:=p',l:=l' }∧FrK psK ro w w3∧TkAt w3 ro' J gm mm u ea got mine pu cu nbs∧∀b,On pu b→ea≤b :=
    fun h=>⟨x,v,pm,ro1.cut w1,got,mine,p1,l1,cu,pu,nbs,rfl,by rw [htake];exact .skip hTI h,hok1,e3,hS3,F3,hT3,hpu⟩
   refine BIf_not.2 (w_ (fun c1=>?_) (fun c1=>skip (by unfold I_d;rw [c1];rfl)));refine w_ (fun c2=>skip (by unfold I_d;rw [c2];simp)) (fun c2=>?_);refine w_ (fun c3=>skip (by unfold I_d;rw [c3];simp)) (fun c3=>?_);have hneed:I_d R.tabs mine t=true:=by unfold I_d;rw [c1,c2,c3];rfl
   clear skip;have he3:=hT3.he;have hst3:=hS3.ed.st;refine he3.ld rfl (AsP_pointer.2 ?_);rw [G_]
   try simp only [hst3.ld_iff,sb_,Nat.reduceAdd]
   obtain⟨g,cg,hsl,hslr⟩:=hS3.ps.slab;refine Ret.use (f119 hsl) ?_;rintro _ w4 ⟨qo,co,rfl,hold,f4⟩;rw [AsSl_slice];have hS4:=hS3.fr0 f4;have hT4:=hT3.fr0 f4;have F4:FrK psK ro w w4:=F3.thenS f4 fun _ _ h=>h.elim;have he4:=hT4.he;have hst4:=hS4.ed.st;refine he4.ld rfl (AsP_pointer.2 ?_);rw [G_]
   try simp only [hst4.ld_iff,sb_,Nat.reduceAdd]
   refine Ret.use (ps_take hS4.ps hS4.gl hS4.low) ?_;rintro _ w5 ⟨r,er,p5,l5,ro5,rfl,hstk,e5,hP5,f5⟩;have hS5:=hS4.psT e5 hP5 f5;have hT5:=(hT4.ext e5).frK (f5.ext e5) (by decide);have F5:FrK psK ro w w5:=FrK.then F4 e3 f5
   obtain⟨g5,cg5,hsl5,-⟩:=hP5.slab;have hrt:r<2^31:=by
    rcases hstk.least hok1 with ⟨_,_,_,_,_,h⟩|⟨_,_,_,h,_⟩|⟨_,_,_,_,_,_,h⟩
    ·have:=i_j hsl5.ok h;omega
    ·omega
    ·have:=i_j hsl5.ok h;omega
   simp only [sb_,Nat.reduceAdd];refine New.mk fun w6 n6 f6 s6=>?_
   try simp only [H_,Nat.zero_add]
   refine n6.st (by simp) rfl fun w7 n7 f7 s7=>?_;have f57:Fr0 w5 w7:=f6.new f7 (Nat.le_refl _);obtain⟨ro6,hro6⟩:∃ro6:Ro,ro6=fun x=>if x<w5.heap.size then ro5 x else if x=w5.heap.size then (0,6) else (0,0):=⟨_,rfl⟩
   have e6:RExt w5 ro5 ro6:=fun x hx=>by rw [hro6];simp only [if_pos hx]
   have hS7:=(hS5.ext e6).fr0 f57;have hT7:=(hT5.ext e6).fr0 f57;have F7:FrK psK ro w w7:=F5.thenS f57 fun _ _ h=>h.elim;have e7:RExt w ro ro6:=fun x hx=>(e6 x (Nat.lt_of_lt_of_le hx F5.size)).trans ((e5 x (Nat.lt_of_lt_of_le hx F4.size)).trans (e3 x hx));have hml:mine.length≤1000000000000:=by have:=hTI.mine_len;rw [List.length_take] at this;omega
   refine b_ (fun her=>?_) (fun her=>?_)
   ·refine .inl ⟨117,_,_,rfl,by kernel_rfl,?_⟩;have hpl:p5=p1∧l5=l1:=by
     cases hstk with
     | old=>exact absurd rfl her
     | none=>exact⟨rfl,rfl⟩
     | fresh=>exact absurd rfl her
    refine Ret.use (f117 hS7 hT7.back (by rw [List.length_map];exact hml) (p0:=S.p) (l0:=S.l) (by rw [hpl.1,hpl.2];exact hTI.chain) (by rw [hpl.2];exact hok1)) ?_;rintro _ w8 ⟨rfl,ro8,e8,hS8,f8⟩;simp only [sb_,Nat.reduceAdd];exact .inl ⟨er,ro8,rfl,⟨fun h=>her (by rw [h];rfl),i,t,got,mine,p1,l1,r,p5,l5,ht,hTI,hneed,hstk⟩,fun x hx=>(e8 x (Nat.lt_of_lt_of_le hx F7.size)).trans (e7 x hx),hS8,FrK.then F7 e7 f8⟩
   ·obtain rfl:er=0:=by omega
    have hu7:=hT7.hu;refine hu7.ld rfl (AsSl_slice.2 ?_);refine l_c E225 (by decide) hT7.sl (Nat.zero_le _) rfl (by intro v hv;simp [Value.cells] at hv;subst hv;rfl) (by simp only [maxLen,hT7.len];omega) (by rw [hT7.len];omega) fun pu' cu' w8 hsl8 f8 hon8=>?_;rw [AsSl_slice];have h7:7≤ea:=by omega
    have r5t:(ro6 w1.heap.size)=(0,0):=by
     rw [e6 _ (by have:=f2.size;have:=f3.size;have:=f4.size;have:=f5.size;omega),e5 _ (by have:=f3.size;have:=f4.size;omega)];simp only [Ro.cut,if_neg (show ¬w1.heap.size<w1.heap.size by omega)]
    have hqo:∀b,On qo b→ro6 b=(0,0):=fun b hb=>by
     have h9:=hold.lt b hb;rw [e6 _ (by have:=f5.size;omega),e5 _ h9.2];simp only [Ro.cut,if_neg (show ¬b<w1.heap.size by have:=f2.size;have:=f3.size;omega)]
    have r6n:ro6 w5.heap.size=(0,6):=by rw [hro6];simp
    obtain⟨ro8,hro8⟩:∃ro8:Ro,ro8=fun x=>if x<w7.heap.size then ro6 x else (0,5):=⟨_,rfl⟩
    have e8:RExt w7 ro6 ro8:=fun x hx=>by rw [hro8];simp only [if_pos hx]
    have hpu8:∀b,On pu' b→ro8 b=(0,5)∧ea≤b:=fun b hb=>by
     rcases hon8 b hb with h|h
     ·exact⟨by rw [e8 b (hT7.sl.lt b h).2];exact hT7.rp b h,hpu b h⟩
     ·refine⟨by rw [hro8];simp only [if_neg (show ¬b<w7.heap.size by omega)],?_⟩;have:=F7.size;omega
    have z7:ea≤w7.heap.size:=by rw [←hea];exact F7.size
    have hT7':=hT7.ext e8;have F8:FrK psK ro w w8:=F7.thenS f8 fun x hx h=>by have:=hpu x h;omega
    have hS8:=(hS7.ext e8).frO f8 (fun x hx=>by rw [hT7'.rp x hx]) (fun x hx h=>by have:=hpu x h;omega);have tb7:Has w7 w1.heap.size t.cells:=by
     refine ((((n2.fr0 f3).fr0 f4).fr f5 ?_).fr0 f57);intro hx;have:(ro1.cut w1 w1.heap.size).1=0:=Ro.cut_new (Nat.le_refl _);rw [this] at hx;simp at hx
    have old7:Sl w7 w3.heap.size 3 1 qo l1.length co (i_h (l1.map Qr.f)):=by
     refine ((hold.fr f5 ?_).fr0 f57);intro b hb hx;have h9:=hold.lt b hb;have:(ro1.cut w1 b).1=0:=Ro.cut_new (by have:=f2.size;have:=f3.size;omega);rw [this] at hx;simp at hx
    have np:∀{a k:Nat},ro6 a=(0,k)→k≠5→¬On pu a:=fun h1 h2 h3=>k_g h1 (hT7.rp _ h3) h2 rfl;have tb8:=tb7.fr f8 (np r5t (by decide));have old8:=old7.fr f8 (fun b hb=>np (hqo b hb) (by decide));have nb8:Has w8 w5.heap.size [.int .i64 (r:Int)]:=(show Has w7 w5.heap.size [.int .i64 (r:Int)] by simpa using n7).fr f8 (np r6n (by decide));have g8:=hT7.hg.fr f8 (np hT7.rg (by decide));have m8:=hT7.hm.fr f8 (np hT7.rm (by decide));have u8:=hT7.hu.fr f8 (np hT7.ru (by decide));have a8:=hT7.he.fr f8 (np hT7.re (by decide));refine u8.st (by simp) rfl fun w9 u9 f9 s9=>?_;have nu:∀{a k:Nat},ro6 a=(0,k)→k≠3→¬(a=u):=fun h1 h2 h3=>k_g h1 hT7.ru h2 h3;have uge:7≤u∧ea≤u:=by omega
    have tb9:=tb8.fr f9 (nu r5t (by decide));have old9:=old8.fr f9 (fun b hb=>nu (hqo b hb) (by decide));have nb9:=nb8.fr f9 (nu r6n (by decide));have g9:=g8.fr f9 (nu hT7.rg (by decide));have m9:=m8.fr f9 (nu hT7.rm (by decide));have a9:=a8.fr f9 (nu hT7.re (by decide));have hS9:=hS8.frO f9 (fun x hx=>by rw [show x=u from hx,hT7'.ru]) (fun x hx h=>by have h:x=u:=h;omega);have F9:FrK psK ro w w9:=F8.thenS f9 fun x hx h=>by have h:x=u:=h;omega
    refine nb9.ld rfl (AsI_int.2 ?_);refine nb9.ld rfl (AsI_int.2 ?_);have hr4:i64.wrap ((r:Int).tdiv 4)=((r/4:Nat):Int):=by
     rw [show (4:Int)=((4:Nat):Int) from rfl,←Int.ofNat_tdiv,w64 (by omega) (by omega)]
    rw [hr4];have hL:i_h (l1.map Qr.f)=((l1.map Qr.f).map fun n=>((n:Nat):Int)).map (Value.int .i64):=by unfold i_h;simp only [List.map_map];rfl
    have h122:=f122 (w:=w9.drew) (p:=qo) (l:=(l1.map Qr.f).map fun n=>((n:Nat):Int)) (c:=co) (by rw [←hL];exact old9.rd.qt (Qt.refl w9).drew) (by rw [List.length_map,List.length_map];have h9:l1.length≤268435456:=hsl.ok.len;omega) ((r/4:Nat):Int);rw [List.length_map,List.length_map] at h122;refine Ret.use h122 ?_;rintro _ _ ⟨rfl,hw⟩;obtain rfl:=hw.symm;have hdec:decide ((((r/4:Nat):Int))∈(l1.map Qr.f).map fun n=>((n:Nat):Int))=decide (r/4∈l1.map Qr.f):=by
     congr 1
     rw [eq_iff_iff,List.mem_map];constructor
     ·rintro ⟨y,hy,e⟩;have:y=r/4:=by omega
      rw [←this];exact hy
     ·intro h;exact⟨_,h,rfl⟩
    rw [hdec,AsB_bool];refine⟨nb9.drew.cell.trans rfl,?_⟩;refine P_a T147 (g9.fr (S:=fun _=>False) (Qt.refl w9).drew.fr (fun h=>h)) (E_j fun g hg=>by have:=hTI.idx g hg;rw [List.length_take] at this;omega) _ fun w10 g10 f10 s10=>?_
    replace f10:=f10.of_drew
    have ng:∀{a k:Nat},ro6 a=(0,k)→k≠1→¬(a=gm):=fun h1 h2 h3=>k_g h1 hT7.rg h2 h3;have tb10:=tb9.fr f10 (ng r5t (by decide));have nb10:=nb9.fr f10 (ng r6n (by decide));have m10:=m9.fr f10 (ng hT7.rm (by decide));have u10:=u9.fr f10 (ng hT7.ru (by decide));have a10:=a9.fr f10 (ng hT7.re (by decide));have hS10:=hS9.frO f10 (fun x hx=>by rw [show x=gm from hx,hT7'.rg]) (fun x hx h=>by have h:x=gm:=h;omega);have F10:FrK psK ro w w10:=F9.thenS f10 fun x hx h=>by have h:x=gm:=h;omega
    have tb10':Has w10 w1.heap.size [.int .i64 t.size,.int .u32 (t.va:Int),.int .u64 (t.pa:Int),.int .i64 t.dom,.int .i64 t.ap,.int .u32 (t.bits:Int),.bool t.ng,.bool t.xn]:=tb10
    try simp only [tb10'.ld_iff,nb10.ld_iff,sb_,Nat.reduceAdd]
    rw [y_a hva];have hmn:at? (I_a mine) ((t.va/1048576:Nat):Int)=none:=by
     rw [E_b];have:tab? mine (t.va/1048576)=none:=by
      have h9:tab? mine t.mib=none:=by
       cases h:tab? mine t.mib with
       | none=>rfl
       | some v=>rw [h] at c3;cases c3
      exact h9
     rw [this];rfl
    refine P_a T131 m10 hmn _ fun w11 m11 f11 s11=>?_;have nm:∀{a k:Nat},ro6 a=(0,k)→k≠2→¬(a=mm):=fun h1 h2 h3=>k_g h1 hT7.rm h2 h3;have nb11:=nb10.fr f11 (nm r6n (by decide));have hS11:=hS10.frO f11 (fun x hx=>by rw [show x=mm from hx,hT7'.rm]) (fun x hx h=>by have h:x=mm:=h;omega);have F11:FrK psK ro w w11:=F10.thenS f11 fun x hx h=>by have h:x=mm:=h;omega
    have hlen:=hT7.len;refine⟨x,v,pm,ro8,got++[(i,r,!decide (r/4∈l1.map Qr.f))],mine++[(t.mib,r)],p5,l5,cu',pu',nbs++[w5.heap.size],rfl,?_,hsl5.ok,?_,hS11,F11,?_,fun b hb=>(hpu8 b hb).2⟩
    ·rw [htake];have:=TakeI.one hTI hneed hok1 hstk;rw [List.length_take,Nat.min_eq_left hi] at this;exact this
    ·exact fun x hx=>(e8 x (Nat.lt_of_lt_of_le hx F7.size)).trans (e7 x hx)
    ·have ou:∀{a:Nat} {k:Nat},ro8 a=(0,k)→k≠3→¬(a=u):=fun h1 h2 h3=>k_g h1 hT7'.ru h2 h3;have og:∀{a:Nat} {k:Nat},ro8 a=(0,k)→k≠1→¬(a=gm):=fun h1 h2 h3=>k_g h1 hT7'.rg h2 h3;have om:∀{a:Nat} {k:Nat},ro8 a=(0,k)→k≠2→¬(a=mm):=fun h1 h2 h3=>k_g h1 hT7'.rm h2 h3;have r8n:ro8 w5.heap.size=(0,6):=by rw [e8 _ (by have:=n7.lt;omega)];exact r6n
     refine⟨?_,hT7'.rg,?_,hT7'.rm,?_,hT7'.ru,a10.fr f11 (nm hT7.re (by decide)),hT7'.re,?_,fun b hb=>(hpu8 b hb).1,by rw [List.length_append,List.length_append,hlen];rfl,?_,?_⟩
     ·have:=g10.fr f11 (nm hT7.rg (by decide));unfold p_c at this ⊢;rw [List.map_append];exact this
     ·unfold I_a at m11 ⊢;rw [List.map_append];exact m11
     ·have:=u10.fr f11 (nm hT7.ru (by decide));rw [List.length_append];exact this
     ·have:=((hsl8.fr f9 (fun b hb=>ou (hpu8 b hb).1 (by decide))).fr f10 (fun b hb=>og (hpu8 b hb).1 (by decide))).fr f11 (fun b hb=>om (hpu8 b hb).1 (by decide));rw [List.length_append,List.map_append];exact this
     ·intro j b y hj hy;rw [List.getElem?_append] at hj hy;by_cases hjl:j<mine.length
      ·rw [if_pos (by omega)] at hj;rw [if_pos hjl] at hy;obtain⟨q1,q2⟩:=hT7'.n j b y hj hy;exact⟨((((q1.fr f8 (fun h=>k_g q2 (hT7'.rp _ h) (by decide) rfl)).fr f9 (ou q2 (by decide))).fr f10 (og q2 (by decide))).fr f11 (om q2 (by decide))),q2⟩
      ·rw [if_neg (by omega)] at hj;rw [if_neg hjl] at hy;rw [hlen] at hj;cases hz:j-mine.length with
       | zero =>
        rw [hz] at hj hy;simp at hj hy;subst hj hy;exact⟨nb11,r8n⟩
       | succ k=>rw [hz] at hj;simp at hj
     ·intro y hy;rcases List.mem_append.1 hy with hy|hy
      ·exact hT7.lt y hy
      ·simp at hy;subst hy;exact hrt
  ·rintro _ w2 ⟨x',v',pm',ro',got',mine',p',l',cu',pu',nbs',rfl,k1,k2,k3,k4,k5,k6,k7⟩;simp only [UnC_cons,UnN_nil,AsI_int,AsM_map];rw [w64 (n:=(i:Int)+1) (by omega) (by omega)];exact⟨⟨i+1,x',v',pm',ro',got',mine',p',l',cu',pu',nbs',by omega,rfl,k1,k2,k3,k4,k5,k6,k7⟩,(by first|omega|(simp only [Int.toNat_natCast];omega))⟩
 ·obtain rfl:i=l.length:=by omega
  rw [List.take_length] at hTI;exact .inr ⟨ro1,got,mine,p1,l1,gm,mm,u,ea,cu,pu,nbs,rfl,hTI,hok1,e1,hS1,F1,hT1⟩
theorem r_d (a b:Tr):X_ a b=X_ b a:=by
 unfold X_ A_g;rw [show decide (b.mib=a.mib)=decide (a.mib=b.mib) by rw [decide_eq_decide];exact eq_comm,show decide (b.dom≠a.dom)=decide (a.dom≠b.dom) by rw [decide_eq_decide];exact ne_comm];cases decide (a.va<b.tend)<;>cases decide (b.va<a.tend)<;>cases a.paged<;>cases b.paged<;>rfl
structure Good (n:Nat) (t:Tr):Prop where
 right:t.right=true
 ng:t.ng=true
 en:t.tend≤2^(32-n)
theorem good_of {n:Nat} {t:Tr} (h:t.bad n=false):Good n t:=by
 unfold Tr.bad at h;simp only [Bool.not_eq_false',Bool.and_eq_true,decide_eq_true_eq] at h;exact⟨h.1.1,h.1.2,h.2⟩
theorem s_a {s:Int} (h:f_d s=true):4096≤bytesOf s:=by
 rcases m_ h with h|h|h|h<;>subst h<;>decide
theorem Z_ {t:Tr} (h:t.right=true):f_d t.size=true:=(j_ h).1
theorem h_b {t:Tr} (h:t.right=true):t.va%4096=0:=by
 obtain⟨h1,h2,_⟩:=j_ h;unfold place at h2;simp only [Bool.and_eq_true,decide_eq_true_eq] at h2;have h3:=h2.1;rcases m_ h1 with e|e|e|e<;>rw [e] at h3
 ·have:u_c 1=12:=by decide
  rw [this] at h3;omega
 ·have:u_c 2=16:=by decide
  rw [this] at h3;omega
 ·have:u_c 3=20:=by decide
  rw [this] at h3;omega
 ·have:u_c 4=24:=by decide
  rw [this] at h3;omega
theorem Good.lt {n:Nat} {t:Tr} (h:Good n t) (hn:1≤n∧n≤7):t.va<2^(32-n):=by
 have h1:=s_a (Z_ h.right);have h2:=h.en;unfold Tr.tend at h2;omega
theorem Good.wf {n:Nat} {t:Tr} (h:Good n t) (hn:1≤n∧n≤7):t.wf:=by
 have h1:=h.lt hn;have:2^(32-n)≤2^32:=Nat.pow_le_pow_right (by decide) (by omega);unfold Tr.wf;omega
structure BlkOk (n:Nat) (l:List Tr):Prop where
 good:∀t∈l,Good n t
 sep:l.Pairwise fun a b=>a.va<b.va∧X_ a b=false
theorem BlkOk.sorted {n:Nat} {l:List Tr} (h:BlkOk n l):l.Pairwise fun a b=>a.va<b.va:=h.sep.imp fun h=>h.1
theorem BlkOk.sub {n:Nat} {l l':List Tr} (h:BlkOk n l) (hs:l'.Sublist l):BlkOk n l':=⟨fun t ht=>h.good t (hs.subset ht),h.sep.sublist hs⟩
theorem D_g:∀{L M:List Nat},L.Nodup→(∀x∈L,x∈M)→L.length≤M.length
 | [],_,_,_=>Nat.zero_le _
 | x :: L,M,h,hm=>by
  obtain⟨h1,h2⟩:=List.nodup_cons.1 h;have:=D_g (M:=M.erase x) h2 fun y hy=>by
   have hne:y≠x:=fun e=>h1 (by rw [←e];exact hy);exact (List.mem_erase_of_ne hne).2 (hm y (by simp [hy]))
  rw [List.length_erase_of_mem (hm x (by simp))] at this;have hp:0<M.length:=List.length_pos_of_mem (hm x (by simp));simp only [List.length_cons];omega
theorem O_i {L:List Nat} {N:Nat} (h:L.Nodup) (hl:∀x∈L,x<N):L.length≤N:=by
 have:=D_g (M:=List.range N) h fun x hx=>List.mem_range.2 (hl x hx)
 rwa [List.length_range] at this
theorem H_d {n:Nat} {a b:Tr} (ha:Good n a) (hb:Good n b) (h:X_ a b=false):a.va/4096≠b.va/4096:=by
 intro e;have h1:=h_b ha.right;have h2:=h_b hb.right;have h3:=s_a (Z_ ha.right);have h4:=s_a (Z_ hb.right);have e2:a.va=b.va:=by omega
 unfold X_ A_g Tr.tend at h;rw [decide_eq_true (by omega:a.va<b.va+bytesOf b.size),decide_eq_true (by omega:b.va<a.va+bytesOf a.size)] at h;simp at h
theorem T_i {n:Nat} (hn:1≤n∧n≤7) {l:List Tr} (hg:∀t∈l,Good n t) (hp:l.Pairwise fun a b=>X_ a b=false):l.length≤1048576:=by
 have h1:(l.map fun t=>t.va/4096).Nodup:=by
  rw [List.nodup_iff_pairwise_ne,List.pairwise_map];refine List.Pairwise.imp_of_mem (fun {a b} ha hb h=>H_d (hg a ha) (hg b hb) h) hp
 have:=O_i h1 (N:=1048576) fun x hx=>by
  obtain⟨t,ht,rfl⟩:=List.mem_map.1 hx;have:=(hg t ht).wf hn;unfold Tr.wf at this;omega
 rwa [List.length_map] at this
theorem BlkOk.len {n:Nat} {l:List Tr} (hn:1≤n∧n≤7) (h:BlkOk n l):l.length≤1048576:=T_i hn h.good (h.sep.imp fun h=>h.2)
theorem J_d {n:Nat} {blocks l:List Tr} (h:MayE n blocks l 0):(∀t∈l,Good n t)∧(∀t∈l,∀b∈blocks,X_ t b=false)∧l.Pairwise fun a b=>X_ b a=false:=by
 rcases h with ⟨h,_⟩|⟨h,_⟩|⟨_,h1,h2⟩
 ·exact absurd h (by decide)
 ·exact absurd h (by decide)
 refine⟨fun t ht=>good_of (h1 t ht),fun t ht b hb=>?_,?_⟩
 ·obtain⟨i,hi,rfl⟩:=List.getElem_of_mem ht;exact (h2 i _ (List.getElem?_eq_getElem hi)).1 b hb
 ·refine List.pairwise_iff_getElem.2 fun i j hi hj hij=>?_;refine (h2 j _ (List.getElem?_eq_getElem hj)).2 _ ?_;refine List.mem_iff_getElem.2 ⟨i,by rw [List.length_take];omega,by rw [List.getElem_take]⟩
theorem N_k {n:Nat} (hn:1≤n∧n≤7) {blocks l:List Tr} (h:MayE n blocks l 0):l.length≤1048576:=by
 obtain⟨h1,_,h3⟩:=J_d h;exact T_i hn h1 (h3.imp fun h=>by rw [r_d];exact h)
def root? (l:List (Nat×RootS)) (a:Nat):Option RootS:=(l.find? fun x=>x.1==a).map (·.2)
theorem U_ {l:List (Nat×RootS)} {a:Nat} {R:RootS} (h:root? l a=some R):(a,R)∈l:=by
 unfold root? at h;obtain⟨x,hx,rfl⟩:=Option.map_eq_some_iff.1 h;have h1:=List.find?_some hx;have h2:=List.mem_of_find?_eq_some hx;have:x.1=a:=by simpa using h1
 rw [←this];exact h2
theorem G_b {l:List (Nat×RootS)} {a:Nat} {R:RootS} (hnd:(l.map (·.1)).Nodup) (h:(a,R)∈l):root? l a=some R:=by
 unfold root?;cases hf:l.find? fun x=>x.1==a with
 | none =>
  rw [List.find?_eq_none] at hf;exact absurd (by simp) (hf _ h)
 | some x =>
  have h1:=List.find?_some hf;have h2:=List.mem_of_find?_eq_some hf;have:x=(a,R):=p_e hnd h2 h (by simpa using h1);rw [this];rfl
theorem I_f (l:List (Nat×RootS)) (a:Nat):at? (F_a l) (a:Int)=(root? l a).map fun R=>.pointer (some ⟨R.rb,0,none⟩):=by
 unfold at? root? F_a;rw [List.find?_map,Option.map_map,Option.map_map];have:((fun p:Int×Value=>p.1==(a:Int)) ∘ fun x:Nat×RootS=>((x.1:Int),Value.pointer (some ⟨x.2.rb,0,none⟩)))=fun x=>x.1==a:=by
  funext x
  simp only [Function.comp_apply];by_cases e:x.1=a
  ·simp [e]
  ·rw [beq_eq_false_iff_ne.2 e,beq_eq_false_iff_ne];omega
 rw [this]
 rfl
theorem Y_b {w:World} {ro:Ro} {J:Ids} {fr n:Nat} {S:St} (hS:Sys w ro J fr n S) (a:Nat) {K:Value→Prop} (h0:root? S.roots a=none→K (.tuple #[.pointer none,.bool false])) (h1:∀R,root? S.roots a=some R→K (.tuple #[.pointer (some ⟨R.rb,0,none⟩),.bool true])) :
  q_f prog (Instr.lookup 120 (.map (some J.rm)) (.int .u64 (a:Int)) true) w K:=by
 refine M_d T120 hS.ed.rm _ ?_;rw [I_f];cases hr:root? S.roots a with
 | none=>exact h0 hr
 | some R=>exact h1 R hr
def FitsE (n:Nat) (S:St) (a:Nat) (l:List Tr) (e:Nat):Prop :=
 (root? S.roots a=none∧e=140)∨∃R,root? S.roots a=some R∧((MayE n R.blocks l e∧e≠0)∨(MayE n R.blocks l 0∧(g_i R.tabs S.p S.l l e∨(e=0∧∃got mine p' l',TakeI R.tabs S.p S.l l got mine p' l'))))
structure Std (n:Nat) (S:St):Prop where
 ok:SlabOk S.l
 wf:∀x∈S.roots,∀t∈x.2.blocks,t.wf
 len:∀x∈S.roots,x.2.blocks.length≤100000000
theorem f29 {w:World} {ro:Ro} {J:Ids} {fr n:Nat} {S:St} (hS:Sys w ro J fr n S) (hI:Std n S) (hn:1≤n∧n≤7) (a:Nat) {q:Option Addr} {c:Nat} {l:List Tr} (hl:Rd w q (D_ l)) (hon:l≠[]→∀b,On q b→(ro b).1=0) (hc:l.length≤c) (hll:l.length≤9000000000000) (hwf:∀t∈l,t.wf) :
  Ret prog 29 #[.pointer (some ⟨J.e,0,none⟩),.int .u64 (a:Int),.slice q l.length c] w fun v w'=>∃(e:Nat) (ro':Ro),v=.int .i64 (e:Int)∧FitsE n S a l e∧RExt w ro ro'∧Sys w' ro' J fr n S∧FrK psK ro w w':=by
 refine F29_of ?_;unfold F29;try dsimp only [Upb,lm_,ub_,ui_,um_,up_]
 have hst:=hS.ed.st
 try simp only [hst.ld_iff,sb_,Nat.reduceAdd]
 refine Y_b hS a (fun hr=>?_) (fun R hr=>?_)
 ·simp only [sb_,Nat.reduceAdd];exact⟨140,ro,rfl,.inl ⟨hr,rfl⟩,RExt.refl _ _,hS,Fr.refl _ _⟩
 ·simp only [sb_,Nat.reduceAdd];simp only [Bool.not_true,E_];have hm:=U_ hr;refine Ret.use (f60 hS hm hn hl hc hll hwf (hI.wf _ hm) (Nat.le_trans (hI.len _ hm) (by decide))) ?_;rintro _ w1 ⟨e,rfl,hmay,f1⟩;rw [AsI_int];refine b_ (fun he=>?_) (fun he=>?_)
  ·exact⟨e,ro,rfl,.inr ⟨R,hr,.inl ⟨hmay,fun h=>he (by rw [h];rfl)⟩⟩,RExt.refl _ _,hS.fr0 f1,f1.mono fun _ _ h=>h.elim⟩
  ·obtain rfl:e=0:=by omega
   have hll:l.length≤1000000000000:=Nat.le_trans (N_k hn hmay) (by decide);refine Ret.use (f61 (hS.fr0 f1) hm (hl.fr0 f1) hon hll hwf hI.ok) ?_;rintro _ w2 (⟨e2,ro2,rfl,htf,e2',hS2,f2⟩|⟨ro2,got,mine,p',l',gm,mm,u,ea,cu,pu,nbs,rfl,hti,hok',e2',hS2,f2,hT2⟩)
   ·simp only [sb_,Nat.reduceAdd];refine O_ (fun h=>absurd (by omega) htf.1) (fun _=>?_);exact⟨e2,ro2,rfl,.inr ⟨R,hr,.inr ⟨hmay,.inl htf⟩⟩,fun x hx=>e2' x (Nat.lt_of_lt_of_le hx f1.size),hS2,FrK.then (f1.mono fun _ _ h=>h.elim) (RExt.refl _ _) f2⟩
   ·simp only [sb_,Nat.reduceAdd];refine O_ (fun _=>?_) (fun h=>absurd rfl h);refine .inl ⟨117,_,_,rfl,by kernel_rfl,?_⟩;refine Ret.use (f117 hS2 hT2.back (by rw [List.length_map];have:=hti.mine_len;omega) (p0:=S.p) (l0:=S.l) hti.chain hok') ?_;rintro _ w3 ⟨rfl,ro3,e3,hS3,f3⟩;simp only [sb_,Nat.reduceAdd];have f02:FrK psK ro w w2:=FrK.then (f1.mono fun _ _ h=>h.elim) (RExt.refl _ _) f2
    have e02:RExt w ro ro2:=fun x hx=>e2' x (Nat.lt_of_lt_of_le hx f1.size);exact⟨0,ro3,rfl,.inr ⟨R,hr,.inr ⟨hmay,.inr ⟨rfl,got,mine,p',l',hti⟩⟩⟩,e02.trans e3 f02.size,hS3,FrK.then f02 e02 f3⟩
theorem f16 {w:World} {ro:Ro} {J:Ids} {fr n:Nat} {S:St} (hS:Sys w ro J fr n S) (hI:Std n S) (a:Nat) :
  Ret prog 16 #[.pointer (some ⟨J.e,0,none⟩),.int .u64 (a:Int)] w fun v w'=>Fr0 w w'∧((root? S.roots a=none∧v=.slice none 0 0) ∨
   ∃R p c,root? S.roots a=some R∧v=.slice p R.blocks.length c∧Sl w' w.heap.size 57 8 p R.blocks.length c (D_ R.blocks)):=by
 refine F16_of ?_;unfold F16;try dsimp only [Upb,lm_,ls_,ub_,up_]
 have hst:=hS.ed.st
 try simp only [hst.ld_iff,sb_,Nat.reduceAdd]
 refine Y_b hS a (fun hr=>?_) (fun R hr=>?_)
 ·simp only [sb_,Nat.reduceAdd];exact⟨Fr.refl _ _,.inl ⟨hr,by trivial⟩⟩
 ·simp only [sb_,Nat.reduceAdd];simp only [Bool.not_true,E_];have hm:=U_ hr;obtain⟨p,c,h1,h2,h3⟩:=(hS.ed.root _ hm).st
  try simp only [h1.ld_iff,sb_,Nat.reduceAdd]
  refine Ret.use (f52 h2 (e_g _) (Nat.le_trans (hI.len _ hm) (by decide))) ?_;rintro _ w1 ⟨p',c',rfl,h4,f1⟩;rw [AsSl_slice];exact⟨f1,.inr ⟨R,p',c',hr,rfl,h4⟩⟩
theorem f22 {w:World} {ro:Ro} {J:Ids} {fr n:Nat} {S:St} (hS:Sys w ro J fr n S) :
  Ret prog 22 #[.pointer (some ⟨J.e,0,none⟩)] w fun v w'=>∃q d,v=.slice q (tabs S.l).length d∧Sl w' w.heap.size 3 1 q (tabs S.l).length d (i_h (tabs S.l))∧Fr0 w w':=by
 refine F22_of ?_;unfold F22;try dsimp only [lp_]
 have hst:=hS.ed.st
 try simp only [hst.ld_iff,sb_,Nat.reduceAdd]
 obtain⟨g,cg,hsl,hslr⟩:=hS.ps.slab;refine Ret.use (f59 hsl) ?_;rintro _ w1 ⟨q,d,rfl,h1,f1⟩;rw [AsSl_slice];exact⟨q,d,rfl,h1,f1⟩
def cnt (n:Nat):Nat:=if n=1 then 2 else 1
theorem PTake.err {p p':Pool} {n al:Int} {r e:Nat} (h:PTake p n al r e p') (he:e≠0):p'=p∧r=0:=by
 cases h with
 | bad=>exact⟨rfl,rfl⟩
 | none=>exact⟨rfl,rfl⟩
 | ok=>exact absurd rfl he
def x_k (n:Nat) (S:St) (x e:Nat) (S':St):Prop :=
 (e≠0∧x=0∧PTake S.p (cnt n) (cnt n) 0 e S.p∧S'=S) ∨
 (e=0∧∃r p' rb tm,PTake S.p (cnt n) (cnt n) r 0 p'∧x=4096*r∧S'=⟨⟨i_c S.M.mem r (cnt n),x_b S.M.evs ⟨5,r,(cnt n:Nat)⟩⟩,p',S.l,S.roots++[(4096*r,⟨rb,tm,r,cnt n,[],[]⟩)]⟩)
theorem f41 {w:World} {ro:Ro} {J:Ids} {fr n:Nat} {S:St} (hS:Sys w ro J fr n S) (hfr:fr≤65536) (hfresh:∀r p',PTake S.p (cnt n) (cnt n) r 0 p'→root? S.roots (4096*r)=none∧r+cnt n≤fr) :
  Ret prog 41 #[.pointer (some ⟨J.e,0,none⟩)] w fun v w'=>∃(x e:Nat) (S':St) (ro':Ro),v=.tuple #[.int .u64 (x:Int),.int .i64 (e:Int)]∧x_k n S x e S'∧RExt w ro ro'∧Sys w' ro' J fr n S'∧FrR ro w w':=by
 refine F41_of ?_;unfold F41;try dsimp only [Uii,li_,lm_,lp_,ui_]
 have hst:=hS.ed.st;refine Join.at (fun s w'=>s=[.int .i64 ((cnt n:Nat):Int)]∧w'=w) ?_ ?_
 ·try simp only [hst.ld_iff,sb_,Nat.reduceAdd]
  refine O_ (fun h=>?_) (fun h=>?_)
  ·have:n=1:=by omega
   exact⟨by unfold cnt;rw [if_pos this];rfl,by trivial⟩
  ·have:¬n=1:=by omega
   exact⟨by unfold cnt;rw [if_neg this];rfl,by trivial⟩
 ·rintro _ _ ⟨rfl,hw⟩;obtain rfl:=hw.symm;have hc:1≤cnt n∧cnt n≤2:=by unfold cnt;split<;>omega
  simp only [sb_,Nat.reduceAdd]
  try simp only [hst.ld_iff,sb_,Nat.reduceAdd]
  refine Ret.use (I_i hS.ps hS.gl hS.low ((cnt n:Nat):Int) ((cnt n:Nat):Int) (by omega)) ?_;rintro _ w1 ⟨r,e,p',rfl,hpt,hP1,f1⟩;simp only [sb_,Nat.reduceAdd];have hS1:=hS.psT (RExt.refl _ _) hP1 f1;refine b_ (fun he=>?_) (fun he=>?_)
  ·have he':e≠0:=fun h=>he (by rw [h];rfl);obtain⟨rfl,rfl⟩:=hpt.err he';exact⟨0,e,S,ro,rfl,.inl ⟨he',rfl,hpt,rfl⟩,RExt.refl _ _,hS1,f1.R (by decide)⟩
  ·obtain rfl:e=0:=by omega
   obtain⟨hnone,hrf⟩:=hfresh r p' hpt;have hst1:=hS1.ed.st
   try simp only [hst1.ld_iff,sb_,Nat.reduceAdd]
   refine Ret.use (f62 hS1.mach r (cnt n) hrf hc.1) ?_;rintro _ w2 ⟨rfl,ro2,e2,hM2,f2⟩;rw [AsI_int];have hS2:=hS1.machT e2 hM2 f2;have hst2:=hS2.ed.st
   try simp only [hst2.ld_iff,sb_,Nat.reduceAdd]
   refine B_b .u32 fun w3 n3 f3 s3=>?_;rw [AsM_map];refine New.mk fun w4 n4 f4 s4=>?_;have f24:=f3.trans f4;have f02:FrR ro w w2:=FrR.then (f1.R (by decide)) (RExt.refl _ _) (f2.R (by decide))
   have e02:RExt w ro ro2:=fun x hx=>e2 x (Nat.lt_of_lt_of_le hx f1.size);obtain⟨ro4,hro4⟩:∃ro4:Ro,ro4=fun x=>if x<w2.heap.size then ro2 x else if x=w2.heap.size then (19,4096*r) else if x=w3.heap.size then (17,4096*r) else (0,0):=⟨_,rfl⟩
   have e4:RExt w2 ro2 ro4:=fun x hx=>by rw [hro4];simp only [if_pos hx]
   have hS4:=(hS2.ext e4).fr0 f24;have hz:u64.wrap (u64.wrap (r:Int)*4096)=((4096*r:Nat):Int):=by
    rw [b_a (n:=(r:Int)) (by omega) (by omega),b_a (by omega) (by omega)];omega
   rw [hz];have hnone':at? (F_a S.roots) ((4096*r:Nat):Int)=none:=by rw [I_f,hnone];rfl
   refine P_a T120 hS4.ed.rm hnone' _ fun w5 m5 f5 s5=>?_;have r3:ro4 w2.heap.size=(19,4096*r):=by rw [hro4];simp
   have r4:ro4 w3.heap.size=(17,4096*r):=by rw [hro4];simp only;rw [if_neg (by omega),if_neg (by omega)];simp
   have hrm:(ro4 J.rm).1=16:=hS4.ed.rr;have hR5:RootAt w5 ro4 (4096*r) ⟨w3.heap.size,w2.heap.size,r,cnt n,[],[]⟩:=by
    refine⟨⟨none,0,(by simpa using n4.fr f5 (fun h=>by rw [←show w3.heap.size=J.rm from h,r4] at hrm;cases hrm)),Sl.nil _ _ _ _,fun b hb=>by obtain⟨a,h,_⟩:=hb;cases h⟩,r4,?_,r3⟩;exact (n3.fr f4 (fun h=>h)).fr f5 (fun h=>by rw [←show w2.heap.size=J.rm from h,r3] at hrm;cases hrm)
   refine⟨4096*r,0,_,ro4,rfl,.inr ⟨rfl,r,p',w3.heap.size,w2.heap.size,hpt,rfl,rfl⟩,e02.trans e4 f02.size,⟨?_,hS4.low,?_,?_,?_⟩,?_⟩
   ·exact hS4.gl.fr f5 (fun b hb h=>by have h:b=J.rm:=h;have:=hS4.low b hb;rw [h,hrm] at this;cases this)
   ·exact hS4.mach.fr f5 (fun b h1 h2 h=>by have h:b=J.rm:=h;rw [h,hrm] at h2;omega)
   ·exact hS4.ps.fr f5 (fun b h1 h=>by have h:b=J.rm:=h;rw [h,hrm] at h1;simp at h1)
   ·have hed:=hS4.ed;refine⟨hed.st.fr f5 (fun h=>by have h:J.e=J.rm:=h;have:=hed.re;rw [h,hrm] at this;cases this),hed.re,?_,hrm,?_,?_⟩
    ·unfold F_a at m5 ⊢;rw [List.map_append];exact m5
    ·intro x hx;rcases List.mem_append.1 hx with hx|hx
     ·exact (hed.root x hx).fr f5 (fun y hy h=>by have h:y=J.rm:=h;rcases hy with h1|h1|h1<;>rw [h] at h1<;>rw [h1] at hrm<;>simp at hrm)
     ·simp at hx;subst hx;exact hR5
    ·rw [List.map_append,List.nodup_append];refine⟨hed.nd,by simp,fun x hx y hy e=>?_⟩;simp at hy;subst hy;subst e;obtain⟨z,hz1,hz2⟩:=List.mem_map.1 hx;have hz3:(4096*r,z.2)∈S.roots:=by rw [←hz2];exact hz1
     have:=G_b hed.nd hz3;have hn2:root? S.roots (4096*r)=none:=hnone;rw [show root? S.roots (4096*r)=some z.2 from this] at hn2;cases hn2
   ·refine FrR.then f02 e02 ?_
    have:Fr (fun b=>(ro4 b).1≠0) w2 w5:=(f24.mono fun _ _ h=>h.elim).trans (f5.mono fun b _ h=>by have h:b=J.rm:=h;rw [h,hrm];decide);exact this.mono fun b hb h=>by rw [e4 b hb] at h;exact h
def x_i (p:Pool) (first n:Int):Pool:=if (p.run first n).2=0 then p.turned (first-p.first).toNat (· - 1) n.toNat else p
def FreeR (S:St) (a e:Nat) (S':St):Prop :=
 (root? S.roots a=none∧e=140∧S'=S) ∨
 ∃R,root? S.roots a=some R∧((R.blocks≠[]∧e=141∧S'=S)∨(R.blocks=[]∧e=0∧S'=⟨S.M,x_i S.p (R.first:Int) (R.count:Int),S.l,S.roots.filter fun x=>decide (x.1≠a)⟩))
theorem j_e (l:List (Nat×RootS)) (a:Nat):(F_a l).filter (fun p=>p.1 != (a:Int))=F_a (l.filter fun x=>decide (x.1≠a)):=by
 unfold F_a;rw [List.filter_map]
 congr 1
 apply List.filter_congr
 intro x _;simp only [Function.comp_apply];by_cases e:x.1=a
 ·simp [e]
 ·have:((x.1:Int) != (a:Int))=true:=by rw [bne_iff_ne];omega
  rw [this];simp [e]
theorem f18 {w:World} {ro:Ro} {J:Ids} {fr n:Nat} {S:St} (hS:Sys w ro J fr n S) (a:Nat) (hsm:∀R,root? S.roots a=some R→R.first<2^40∧R.count<2^40)
  (hh:∀R,root? S.roots a=some R→R.blocks=[]→(S.p.run (R.first:Int) (R.count:Int)).2=0→t_c (S.p.turned ((R.first:Int)-S.p.first).toNat (· - 1) (R.count:Int).toNat) S.l) :
  Ret prog 18 #[.pointer (some ⟨J.e,0,none⟩),.int .u64 (a:Int)] w fun v w'=>∃(e:Nat) (S':St),v=.int .i64 (e:Int)∧FreeR S a e S'∧Sys w' ro J fr n S'∧FrR ro w w':=by
 refine F18_of ?_;unfold F18;try dsimp only [Uii,Upb,li_,lm_,lp_,ls_,ub_,ui_,up_]
 have hst:=hS.ed.st
 try simp only [hst.ld_iff,sb_,Nat.reduceAdd]
 refine Y_b hS a (fun hr=>?_) (fun R hr=>?_)
 ·simp only [sb_,Nat.reduceAdd];exact⟨140,S,rfl,.inl ⟨hr,rfl,rfl⟩,hS,Fr.refl _ _⟩
 ·simp only [sb_,Nat.reduceAdd];simp only [Bool.not_true,E_];have hm:=U_ hr;obtain⟨p,c,h1,h2,h3⟩:=(hS.ed.root _ hm).st
  try simp only [h1.ld_iff,sb_,Nat.reduceAdd]
  refine C_ (fun hb=>?_) (fun hb=>?_)
  ·exact⟨141,S,rfl,.inr ⟨R,hr,.inl ⟨fun h=>by simp only [h,List.length_nil] at hb;omega,rfl,rfl⟩⟩,hS,Fr.refl _ _⟩
  ·have hnil:R.blocks=[]:=List.length_eq_zero_iff.1 (by omega)
   try simp only [hst.ld_iff,sb_,Nat.reduceAdd]
   refine A_f T120 hS.ed.rm _ fun w1 m1 f1 s1=>?_;simp only [sb_,Nat.reduceAdd];rw [j_e] at m1;have hrm:=hS.ed.rr;have hed:=hS.ed;have hS1:Sys w1 ro J fr n { S with roots:=S.roots.filter fun x=>decide (x.1≠a) }:=by
    refine⟨hS.gl.fr f1 (fun b hb h=>by have h:b=J.rm:=h;have:=hS.low b hb;rw [h,hrm] at this;cases this),hS.low,hS.mach.fr f1 (fun b h1 h2 h=>by have h:b=J.rm:=h;rw [h,hrm] at h2;omega),hS.ps.fr f1 (fun b h1 h=>by have h:b=J.rm:=h;rw [h,hrm] at h1;simp at h1),?_⟩;refine⟨hed.st.fr f1 (fun h=>by have h:J.e=J.rm:=h;have:=hed.re;rw [h,hrm] at this;cases this),hed.re,m1,hrm,fun x hx=>?_,(List.Sublist.map _ List.filter_sublist).nodup hed.nd⟩;exact (hed.root x (List.mem_filter.1 hx).1).fr f1 (fun y hy h=>by have h:y=J.rm:=h;rcases hy with h1|h1|h1<;>rw [h] at h1<;>rw [h1] at hrm<;>simp at hrm)
   have hst1:=hS1.ed.st;have h11:=h1.fr f1 (fun h=>by
    have h:R.rb=J.rm:=h;have:=(hed.root _ hm).rr;rw [h] at this;rw [this] at hrm;simp at hrm)
   try simp only [hst1.ld_iff,h11.ld_iff,sb_,Nat.reduceAdd]
   have hsm':=hsm R hr;have hS1':=hS1.fr0 (Qt.refl w1).drew.fr;refine Ret.use (J_i hS1'.ps hS1'.gl hS1'.low (R.first:Int) (R.count:Int) (by omega) (by omega) (hh R hr hnil)) ?_;have g1:FrR ro w w1.drew:=Fr.drew (f1.mono fun b _ h=>by have h:b=J.rm:=h;rw [h,hrm];decide);rintro _ w2 (⟨k1,rfl,hP2,f2⟩|⟨k1,rfl,hP2,f2⟩)
   ·simp only [sb_,Nat.reduceAdd];refine⟨0,_,rfl,.inr ⟨R,hr,.inr ⟨hnil,rfl,rfl⟩⟩,?_,g1.then (RExt.refl _ _) (f2.R (by decide))⟩;have:=hS1'.psT (RExt.refl _ _) hP2 f2;have e:x_i S.p (R.first:Int) (R.count:Int)=S.p:=if_neg k1;rw [e];exact this
   ·simp only [sb_,Nat.reduceAdd];refine⟨0,_,rfl,.inr ⟨R,hr,.inr ⟨hnil,rfl,rfl⟩⟩,?_,g1.then (RExt.refl _ _) (f2.R (by decide))⟩;have:=hS1'.psT (RExt.refl _ _) hP2 f2;have e:x_i S.p (R.first:Int) (R.count:Int)=S.p.turned ((R.first:Int)-S.p.first).toNat (· - 1) (R.count:Int).toNat:=if_pos k1;rw [e];exact this
theorem f40 {w:World} {ro:Ro} {I:MIds} {fr n b bu bd:Nat} {M:Mst} {p:Pool} (hG:Gl w) (hlow:Low ro) (hM:MachAt w ro I fr M) (hP:PoolAt w b bu bd p) (hr:∀x,Own b bu bd x→(ro x).1=12) (hn:1≤n∧n≤7) (hfit:p.first+p.u.length≤fr) :
  Ret prog 40 #[.pointer (some ⟨I.m,0,none⟩),.pointer (some ⟨b,0,none⟩),.int .i64 (n:Int)] w fun v w'=>∃(J:Ids) (ro':Ro),v=.tuple #[.pointer (some ⟨J.e,0,none⟩),.int .i64 0]∧J.I=I∧J.b=b∧J.bu=bu∧J.bd=bd∧RExt w ro ro'∧Sys w' ro' J fr n ⟨M,p,[],[]⟩∧Fr0 w w':=by
 have hfr:fr≤65536:=by obtain⟨L,hL⟩:=hM.ram;exact hL.small
 have fin:∀(w1:World),Fr0 w w1→(∃(J:Ids) (ro':Ro),True)→A_ prog 87 #[.pointer (some ⟨b,0,none⟩)] w1 fun v w'=>v=.tuple #[.pointer (some ⟨w1.heap.size,0,none⟩),.int .i64 0]∧SlabAt w' w1.heap.size b none 0 []∧Fr0 w w'∧w'.heap.size=w1.heap.size+1:=fun w1 f1 _=>by
  refine Ret.use (f87 b) ?_;rintro _ w2 ⟨rfl,h1,h2,h3⟩;exact⟨rfl,h1,f1.trans h2,h3⟩
 have tail:∀(w1 w2:World),Fr0 w w1→SlabAt w2 w1.heap.size b none 0 []→Fr0 w w2→w2.heap.size=w1.heap.size+1→RunV prog (Instr.makeMap 120 none) w2 fun v32 w33=>AsM v32 fun p34=>New w33 #[.pointer (some ⟨I.m,0,none⟩),.pointer (some ⟨b,0,none⟩),.pointer (some ⟨w1.heap.size,0,none⟩),.int .i64 (n:Int),.map p34] 124 fun a35 w36 =>
   ∃(J:Ids) (ro':Ro),Value.tuple #[.pointer (some a35),.int .i64 0]=.tuple #[.pointer (some ⟨J.e,0,none⟩),.int .i64 0]∧J.I=I∧J.b=b∧J.bu=bu∧J.bd=bd∧RExt w ro ro'∧Sys w36 ro' J fr n ⟨M,p,[],[]⟩∧Fr0 w w36:=fun w1 w2 f1 hs f2 s2=>by
  refine B_b .u64 fun w3 m3 f3 s3=>?_;rw [AsM_map];refine New.mk fun w4 n4 f4 s4=>?_;have f04:=(f2.trans f3).trans f4;have z1:=f1.size;obtain⟨ro4,hro4⟩:∃ro4:Ro,ro4=fun x=>if x<w.heap.size then ro x else if x=w1.heap.size then (13,0) else if x=w2.heap.size then (16,0) else if x=w3.heap.size then (15,0) else (0,0):=⟨_,rfl⟩
  have e4:RExt w ro ro4:=fun x hx=>by rw [hro4];simp only [if_pos hx]
  refine⟨⟨I,b,bu,bd,w1.heap.size,w3.heap.size,w2.heap.size⟩,ro4,rfl,rfl,rfl,rfl,rfl,e4,⟨hG.fr0 f04,hlow.ext hG e4,(hM.ext e4).fr0 f04,⟨?_,⟨none,0,(hs.fr0 f3).fr0 f4,fun x hx=>?_⟩,fun x hx=>?_,?_,fun q hq=>by simp at hq⟩,⟨n4,?_,m3.fr f4 (fun h=>h),?_,fun x hx=>by simp at hx,by simp⟩⟩,f04⟩
  ·exact hP.fr f04 (fun h=>h) (fun h=>h) (fun h=>h)
  ·obtain⟨a,h,_⟩:=hx;cases h
  ·have hlt:x<w.heap.size:=by
    obtain⟨ws,_,h3⟩:=hP.ws;rcases hx with rfl|rfl|rfl
    ·exact hP.st.lt
    ·exact hP.us.lt
    ·exact h3.lt
   rw [e4 x hlt];exact hr x hx
  ·rw [hro4];simp only;rw [if_neg (by omega)];simp
  ·rw [hro4];simp only;rw [if_neg (by omega),if_neg (by omega),if_neg (by omega)];simp
  ·rw [hro4];simp only;rw [if_neg (by omega),if_neg (by omega)];simp
 refine F40_of ?_;unfold F40;try dsimp only [Uii,Upi,ce_,li_,ui_,up_]
 refine Ret.use (f21 hP) ?_;rintro _ w1 ⟨rfl,f1⟩;simp only [sb_,Nat.reduceAdd];refine New2 (fun w2 n2 f2 s2=>?_);have f02:=f1.trans f2;refine D_a (by omega) (D_a (by omega) ?_)
 try simp only [n2.ld_iff,sb_,Nat.reduceAdd]
 refine C_ (fun hpos=>?_) (fun hz=>?_)
 ·try simp only [n2.ld_iff,sb_,Nat.reduceAdd]
  have n2':=n2.drew;refine Ret.use (f86 (hM.fr0 (f02.trans (Qt.refl w2).drew.fr))) ?_;rintro _ _ ⟨rfl,hw⟩;obtain rfl:=hw.symm;rw [AsI_int];refine⟨n2'.cell.trans rfl,n2'.cell.trans rfl,?_⟩;have hle:=hP.ok.le;rw [w64 (n:=(p.first:Int)+(p.u.length:Int)) (by omega) (by omega)];refine D_a (by omega) ?_;refine Ret.use (fin _ f02.drew ⟨⟨I,0,0,0,0,0,0⟩,ro,trivial⟩) ?_;rintro _ w3 ⟨rfl,h3,f3,s3⟩;simp only [sb_,Nat.reduceAdd];refine b_ (fun h=>absurd rfl h) (fun _=>?_);exact tail _ w3 f02.drew h3 f3 s3
 ·refine Ret.use (fin _ f02.drew ⟨⟨I,0,0,0,0,0,0⟩,ro,trivial⟩) ?_;rintro _ w3 ⟨rfl,h3,f3,s3⟩;simp only [sb_,Nat.reduceAdd];refine b_ (fun h=>absurd rfl h) (fun _=>?_);exact tail _ w3 f02.drew h3 f3 s3
def R_e (T:Nat) (dom:Int):En:=⟨1,T*1024,dom,false,0,0,false,false⟩
def tabW (T:Nat) (dom:Int):Nat:=(R_e T dom).enc1.toNat
theorem W_h (T:Nat) (dom:Int):((tabW T dom:Nat):Int)=(R_e T dom).enc1:=Int.toNat_of_nonneg (k_h _).1
theorem V_h (T:Nat) (dom:Int):tabW T dom<2^32:=by have h1:=W_h T dom;have h2:=(k_h (R_e T dom)).2;omega
def wordN (t:Tr):Nat:=t.word.toNat
theorem x_c (t:Tr):((wordN t:Nat):Int)=t.word:=Int.toNat_of_nonneg (U_j t).1
theorem c_a (t:Tr):wordN t<2^32:=by have h1:=x_c t;have h2:=(U_j t).2;omega
def W_j (M:Mst) (f k:Nat):Mst:=⟨i_c M.mem f k,x_b M.evs ⟨5,f,k⟩⟩
def d_a (R:RootS) (g:Option (Nat×Bool)) (t:Tr):RootS:=match g with
 | some (T,_)=>{ R with tabs:=R.tabs++[(t.mib,T)] }
 | none=>R
def v_c (R:RootS) (g:Option (Nat×Bool)) (t:Tr):RootS:={ d_a R g t with blocks:=r_b R.blocks (L_a R.blocks t.va).1 t }
def hookM (a:Nat) (M:Mst) (g:Option (Nat×Bool)) (t:Tr):Mst:=match g with
 | some (T,f)=>e_a (if f=true then W_j M (T/4) 1 else M) (a+4*t.mib) (tabW T t.dom) 1
 | none=>M
def P_j (a:Nat) (R:RootS) (M:Mst) (g:Option (Nat×Bool)) (t:Tr):Mst:=e_a (hookM a M g t) (placeOf (d_a R g t) a t) (wordN t) (reps t.size)
def got? (got:List (Nat×Nat×Bool)) (i:Nat):Option (Nat×Bool):=(got.find? fun x=>x.1==i).map (·.2)
def V_b (a:Nat) (got:List (Nat×Nat×Bool)):List Tr→Nat→RootS×Mst→RootS×Mst
 | [],_,s=>s
 | t :: r,i,s=>V_b a got r (i+1) (v_c s.1 (got? got i) t,P_j a s.1 s.2 (got? got i) t)
theorem Z_b (a:Nat) (got:List (Nat×Nat×Bool)):∀(l:List Tr) (i:Nat) (s:RootS×Mst) (t:Tr),V_b a got (l++[t]) i s=(v_c (V_b a got l i s).1 (got? got (i+l.length)) t,P_j a (V_b a got l i s).1 (V_b a got l i s).2 (got? got (i+l.length)) t)
 | [],i,s,t=>rfl
 | x :: r,i,s,t=>by
  show V_b a got (r++[t]) (i+1) _=_;rw [Z_b a got r (i+1) _ t,List.length_cons,show i+1+r.length=i+(r.length+1) by omega]
  rfl
theorem at_got (got:List (Nat×Nat×Bool)) (i:Nat):at? (p_c got) (i:Int)=(got? got i).map fun g=>.agg #[.int .i64 (g.1:Int),.bool g.2]:=by
 unfold at? got? p_c;rw [List.find?_map,Option.map_map,Option.map_map];have:((fun p:Int×Value=>p.1==(i:Int)) ∘ fun g:Nat×Nat×Bool=>((g.1:Int),Value.agg #[.int .i64 (g.2.1:Int),.bool g.2.2]))=fun x=>x.1==i:=by
  funext x
  simp only [Function.comp_apply];by_cases e:x.1=i
  ·simp [e]
  ·rw [beq_eq_false_iff_ne.2 e,beq_eq_false_iff_ne];omega
 rw [this]
 rfl
structure PutPre (fr a:Nat) (R:RootS) (g:Option (Nat×Bool)) (t:Tr):Prop where
 right:t.right=true
 wf:t.wf
 tab:∀T f,g=some (T,f)→tab? R.tabs t.mib=none∧T<4*fr∧wErr fr (a+4*t.mib)=0
 place:∀i,i<reps t.size→wErr fr (placeOf (d_a R g t) a t+4*i)=0
 tl:∀v,tab? (d_a R g t).tabs t.mib=some v→v<2^30
 sorted:R.blocks.Pairwise fun a b=>a.va<b.va
 wfs:∀b∈R.blocks,b.wf
 len:R.blocks.length≤100000000000
theorem a_f {t:Tr} (h:t.right=true):reps t.size=1∨reps t.size=16:=by
 have h1:=m_ (j_ h).1;unfold reps;rcases h1 with h1|h1|h1|h1<;>rw [h1]<;>decide
theorem findR_le (l:List Tr) (va:Nat):(L_a l va).1≤l.length:=by
 have:=P_d l va;unfold L_a;split
 ·exact this
 ·split
  ·split
   ·simp only;omega
   ·exact this
  ·exact this
theorem f_b (l:List (Nat×RootS)) (a:Nat) (R R':RootS):G_a (G_a l a R) a R'=G_a l a R':=by
 unfold G_a;rw [List.map_map]
 apply List.map_congr_left
 intro x _;simp only [Function.comp_apply];by_cases h:x.1=a
 ·simp [h]
 ·simp [h]
theorem S_c {l:List (Nat×RootS)} {a:Nat} {R R':RootS} (h:(a,R)∈l):(a,R')∈G_a l a R':=by
 unfold G_a;exact List.mem_map.2 ⟨(a,R),h,by simp⟩
theorem s_b {l:List (Nat×RootS)} {a:Nat} {R:RootS} (hnd:(l.map (·.1)).Nodup) (h:(a,R)∈l):G_a l a R=l:=by
 unfold G_a;have:l.map (fun x=>if x.1=a then (a,R) else x)=l.map id:=List.map_congr_left fun x hx=>by
  split
  ·rename_i e;have:x=(a,R):=p_e hnd hx h e;rw [this];rfl
  ·rfl
 rw [this,List.map_id]
theorem Sys.blocksT {w w1 w2:World} {ro:Ro} {J:Ids} {fr n:Nat} {S:St} (hS:Sys w ro J fr n S) {a:Nat} {R:RootS} (hm:(a,R)∈S.roots) {p p':Option Addr} {c c':Nat} {blocks:List Tr}
  (h1:Has w R.rb [.int .i64 (R.first:Int),.int .i64 (R.count:Int),.slice p R.blocks.length c,.map (some R.tm)]) (h2:Sl w 0 57 8 p R.blocks.length c (D_ R.blocks)) (h3:∀x,On p x→ro x=(18,a))
  (hsl:Sl w1 0 57 8 p' blocks.length c' (D_ blocks)) (f1:Fr (On p) w w1) (hon:∀b,On p' b→On p b∨w.heap.size≤b)
  (hst:Has w2 R.rb [.int .i64 (R.first:Int),.int .i64 (R.count:Int),.slice p' blocks.length c',.map (some R.tm)]) (f2:Fr (·=R.rb) w1 w2) :
  ∃ro',RExt w ro ro'∧Sys w2 ro' J fr n { S with roots:=G_a S.roots a { R with blocks:=blocks } }∧FrR ro w w2:=by
 have hR:=hS.ed.root _ hm;obtain⟨ro',hro⟩:∃ro':Ro,ro'=fun x=>if x<w.heap.size then ro x else (18,a):=⟨_,rfl⟩
 have e:RExt w ro ro':=fun x hx=>by rw [hro];simp only [if_pos hx]
 have hp':∀x,On p' x→ro' x=(18,a):=fun x hx=>by
  rcases hon x hx with h|h
  ·rw [e x (h2.lt x h).2];exact h3 x h
  ·rw [hro];simp only [if_neg (show ¬x<w.heap.size by omega)]
 have hrb:ro' R.rb=(17,a):=by rw [e _ h1.lt];exact hR.rr
 have f12:Fr (U_g ro a) w w2:=(f1.mono fun x _ hx=>.inr (.inl (h3 x hx))).thenS f2 fun x _ hx=>.inl (by rw [show x=R.rb from hx];exact hR.rr);refine⟨ro',e,hS.rootT hm (R':={ R with blocks:=blocks }) rfl e ⟨⟨p',c',hst,hsl.fr f2 (fun x hx h=>?_),hp'⟩,hrb,?_,?_⟩ f12,Fr.K f12⟩
 ·have h:x=R.rb:=h;have:=hp' x hx;rw [h,hrb] at this;cases this
 ·have htm:=hR.rt;refine (hR.tm.fr f1 (fun h=>?_)).fr f2 (fun h=>?_)
  ·have:=h3 _ h;rw [htm] at this;cases this
  ·have h:R.tm=R.rb:=h;have h9:=hR.rr;rw [←h] at h9;rw [show ro R.tm=(19,a) from htm] at h9;cases h9
 ·rw [e _ (K_a hR.tm)];exact hR.rt
theorem Sys.tabsT {w w1:World} {ro:Ro} {J:Ids} {fr n:Nat} {S:St} (hS:Sys w ro J fr n S) {a:Nat} {R:RootS} (hm:(a,R)∈S.roots) {tabs:List (Nat×Nat)} (htm:MapIs w1 R.tm .u32 (I_a tabs)) (f1:Fr (·=R.tm) w w1) :
  Sys w1 ro J fr n { S with roots:=G_a S.roots a { R with tabs:=tabs } }∧FrR ro w w1:=by
 have hR:=hS.ed.root _ hm;have f:Fr (U_g ro a) w w1:=f1.mono fun x _ hx=>.inr (.inr (by rw [show x=R.tm from hx];exact hR.rt));obtain⟨p,c,h1,h2,h3⟩:=hR.st;refine⟨hS.rootT hm (R':={ R with tabs:=tabs }) rfl (RExt.refl _ _) ⟨⟨p,c,h1.fr f1 (fun h=>?_),h2.fr f1 (fun x hx h=>?_),h3⟩,hR.rr,htm,hR.rt⟩ f,Fr.K f⟩
 ·have h:R.rb=R.tm:=h;have h9:=hR.rr;rw [h] at h9;rw [show ro R.tm=(19,a) from hR.rt] at h9;cases h9
 ·have h:x=R.tm:=h;have:=h3 x hx;rw [h] at this;rw [show ro R.tm=(19,a) from hR.rt] at this;cases this
def PutE (n:Nat) (S:St) (a:Nat) (l:List Tr) (e:Nat) (S':St):Prop :=
 (e≠0∧FitsE n S a l e∧S'=S) ∨
 (e=0∧∃R got mine p' l',root? S.roots a=some R∧MayE n R.blocks l 0∧TakeI R.tabs S.p S.l l got mine p' l' ∧
  S'=⟨(V_b a got l 0 (R,S.M)).2,p',l',G_a S.roots a (V_b a got l 0 (R,S.M)).1⟩)
theorem RExt.then {w w1:World} {a b c:Ro} (h:RExt w a b) (hs:w.heap.size≤w1.heap.size) (k:RExt w1 b c):RExt w a c:=h.trans k hs
theorem O_h (R:RootS) (g:Option (Nat×Bool)) (t:Tr):(d_a R g t).rb=R.rb∧(d_a R g t).blocks=R.blocks∧(d_a R g t).tm=R.tm:=by
 cases g with
 | none=>exact⟨rfl,rfl,rfl⟩
 | some g=>obtain⟨T,f⟩:=g;exact⟨rfl,rfl,rfl⟩
theorem H_i (a:Nat) (got:List (Nat×Nat×Bool)):∀(l:List Tr) (i:Nat) (s:RootS×Mst),(V_b a got l i s).1.rb=s.1.rb∧(V_b a got l i s).1.tm=s.1.tm
 | [],i,s=>⟨rfl,rfl⟩
 | t :: r,i,s=>by
  have h:=H_i a got r (i+1) (v_c s.1 (got? got i) t,P_j a s.1 s.2 (got? got i) t);have h2:=O_h s.1 (got? got i) t;exact⟨h.1.trans h2.1,h.2.trans h2.2.2⟩
theorem f24 {w:World} {ro:Ro} {J:Ids} {fr n:Nat} {S:St} (hS:Sys w ro J fr n S) (hI:Std n S) (hfr:fr≤65536) (hn:1≤n∧n≤7) (a:Nat) (ha:a<2^40) {q:Option Addr} {c:Nat} {l:List Tr} (hl:Rd w q (D_ l)) (hon:l≠[]→∀b,On q b→(ro b).1=0) (hc:l.length≤c)
  (hll:l.length≤9000000000000) (hwf:∀t∈l,t.wf)
  (hpre:∀R got mine p' l',root? S.roots a=some R→MayE n R.blocks l 0→TakeI R.tabs S.p S.l l got mine p' l'→∀i t,l[i]?=some t→PutPre fr a (V_b a got (l.take i) 0 (R,S.M)).1 (got? got i) t) :
  Ret prog 24 #[.pointer (some ⟨J.e,0,none⟩),.int .u64 (a:Int),.slice q l.length c] w fun v w'=>∃(e:Nat) (S':St) (ro':Ro),v=.int .i64 (e:Int)∧PutE n S a l e S'∧RExt w ro ro'∧Sys w' ro' J fr n S'∧FrR ro w w':=by
 refine F24_of ?_;unfold F24;try dsimp only [C_8,B_,S_8,Uib,Upb,Uui,ce_,lb_,li_,lm_,lp_,ls_,ub_,ui_,um_,up_]
 have hst:=hS.ed.st
 try simp only [hst.ld_iff,sb_,Nat.reduceAdd]
 refine Y_b hS a (fun hr=>?_) (fun R hr=>?_)
 ·simp only [sb_,Nat.reduceAdd];exact⟨140,S,ro,rfl,.inl ⟨by decide,.inl ⟨hr,rfl⟩,rfl⟩,RExt.refl _ _,hS,Fr.refl _ _⟩
 simp only [sb_,Nat.reduceAdd];simp only [Bool.not_true,E_];have hm:=U_ hr;refine Ret.use (f60 hS hm hn hl hc (by omega) hwf (hI.wf _ hm) (Nat.le_trans (hI.len _ hm) (by decide))) ?_;rintro _ w1 ⟨e,rfl,hmay,f1⟩;rw [AsI_int];refine b_ (fun he=>?_) (fun he=>?_)
 ·have he':e≠0:=fun h=>he (by rw [h];rfl);exact⟨e,S,ro,rfl,.inl ⟨he',.inr ⟨R,hr,.inl ⟨hmay,he'⟩⟩,rfl⟩,RExt.refl _ _,hS.fr0 f1,f1.mono fun _ _ h=>h.elim⟩
 obtain rfl:e=0:=by omega
 have hll:l.length≤1048576:=N_k hn hmay;refine Ret.use (f61 (hS.fr0 f1) hm (hl.fr0 f1) hon (by omega) hwf hI.ok) ?_;rintro _ w2 (⟨e2,ro2,rfl,htf,e2',hS2,f2⟩|⟨ro2,got,mine,p',l',gm,mm,u,ea,cu,pu,nbs,rfl,hti,hok',e2',hS2,f2,hT2⟩)
 ·simp only [sb_,Nat.reduceAdd];refine b_ (fun h=>?_) (fun h=>absurd (by omega) htf.1);exact⟨e2,S,ro2,rfl,.inl ⟨htf.1,.inr ⟨R,hr,.inr ⟨hmay,.inl htf⟩⟩,rfl⟩,fun x hx=>e2' x (Nat.lt_of_lt_of_le hx f1.size),hS2,FrR.then (f1.mono fun _ _ h=>h.elim) (RExt.refl _ _) (f2.R (by decide))⟩
 simp only [sb_,Nat.reduceAdd];refine b_ (fun h=>absurd rfl h) (fun _=>?_);have F2:FrR ro w w2:=FrR.then (f1.mono fun _ _ h=>h.elim) (RExt.refl _ _) (f2.R (by decide))
 have E2:RExt w ro ro2:=fun x hx=>e2' x (Nat.lt_of_lt_of_le hx f1.size);have hself:G_a S.roots a R=S.roots:=s_b hS.ed.nd hm;refine Loop.by (fun s w'=>∃(i:Nat) (ro':Ro),i≤l.length∧s=[.int .i64 (i:Int)]∧RExt w ro ro'∧Sys w' ro' J fr n ⟨(V_b a got (l.take i) 0 (R,S.M)).2,p',l',G_a S.roots a (V_b a got (l.take i) 0 (R,S.M)).1⟩∧FrR ro w w'∧MapIs w' gm .i64 (p_c got)∧(ro' gm).1=0)
  (fun s _=>match s with | [.int _ i]=>l.length-i.toNat|_=>0) ⟨0,ro2,by omega,rfl,E2,by rw [List.take_zero];show Sys w2 ro2 J fr n ⟨S.M,p',l',G_a S.roots a R⟩;rw [hself];exact hS2,F2,hT2.hg,by rw [hT2.rg]⟩ ?_
 rintro _ w3 ⟨i,ro3,hi,rfl,E3,hS3,F3,hg3,hrg3⟩;simp only [UnC_cons,UnN_nil,AsI_int];refine C_ (fun hlt=>?_) (fun hge=>?_)
 ·obtain⟨t,ht⟩:∃t,l[i]?=some t:=⟨l[i]'(by omega),List.getElem?_eq_getElem _⟩;have htm:=List.mem_of_getElem? ht;have hva:t.va<2^32:=hwf t htm;have P:=hpre R got mine p' l' hr hmay hti i t ht;have htake:l.take (i+1)=l.take i++[t]:=by rw [List.take_add_one,ht];rfl
  have hnext:=Z_b a got (l.take i) 0 (R,S.M) t;rw [←htake,List.length_take,Nat.min_eq_left hi,Nat.zero_add] at hnext;have hids:=H_i a got (l.take i) 0 (R,S.M);generalize hst':V_b a got (l.take i) 0 (R,S.M)=st at *;obtain⟨Ri,Mi⟩:=st;simp only at hids hS3 P hnext;obtain⟨hrb,htmi⟩:=hids;refine g_a (hl.fr F3 fun b hb h=>h (hon (fun h=>by rw [h] at ht;simp at ht) b hb)) rfl ht hlt ?_;refine K_j (fun w4 n4 f4 s4=>?_);have E4:RExt w3 ro3 (ro3.cut w3):=RExt.cut;have hS4:=(hS3.ext E4).fr0 f4;have hg4:=hg3.fr f4 (fun h=>h);have hrg4:((ro3.cut w3) gm).1=0:=by rw [E4 _ (K_a hg3)];exact hrg3
  have htb:((ro3.cut w3) w3.heap.size).1=0:=Ro.cut_new (Nat.le_refl _);have hmi:(a,Ri)∈G_a S.roots a Ri:=S_c hm;have n4':Has w4 w3.heap.size t.cells:=n4;refine Join.at (fun s w'=>s=[]∧∃ro',RExt w4 (ro3.cut w3) ro'∧Sys w' ro' J fr n ⟨hookM a Mi (got? got i) t,p',l',G_a S.roots a (d_a Ri (got? got i) t)⟩∧FrR (ro3.cut w3) w4 w') ?_ ?_
  ·refine M_d T147 hg4 _ ?_;rw [at_got];cases hgi:got? got i with
   | none =>
    simp only [Option.map_none,Option.getD_none,Option.isSome_none];simp only [sb_,Nat.reduceAdd];refine New2 (fun w5 n5 f5 s5=>?_);simp only [E_];exact⟨by trivial,ro3.cut w3,RExt.refl _ _,hS4.fr0 f5,f5.mono fun _ _ h=>h.elim⟩
   | some g =>
    obtain⟨T,f⟩:=g;obtain⟨hT0,hT1,hT2'⟩:=P.tab T f hgi;simp only [Option.map_some,Option.getD_some,Option.isSome_some];simp only [sb_,Nat.reduceAdd];refine New2 (fun w5 n5 f5 s5=>?_);simp only [K_];have E5:RExt w4 (ro3.cut w3) ((ro3.cut w3).cut w4):=RExt.cut;have hS5:=(hS4.ext E5).fr0 f5;have hkb:(((ro3.cut w3).cut w4) w4.heap.size).1=0:=Ro.cut_new (Nat.le_refl _);have htb5:(((ro3.cut w3).cut w4) w3.heap.size).1=0:=by rw [E5 _ n4.lt];exact htb
    have n45:=n4'.fr0 f5;refine Join.at (fun s w'=>s=[]∧∃ro',RExt w5 ((ro3.cut w3).cut w4) ro'∧Sys w' ro' J fr n ⟨if f=true then W_j Mi (T/4) 1 else Mi,p',l',G_a S.roots a Ri⟩∧FrR ((ro3.cut w3).cut w4) w5 w') ?_ ?_
    ·try simp only [n5.ld_iff,sb_,Nat.reduceAdd]
     refine w_ (fun hf=>?_) (fun hf=>?_)
     ·have hst5:=hS5.ed.st
      try simp only [hst5.ld_iff,n5.ld_iff,sb_,Nat.reduceAdd]
      have hr4:i64.wrap ((T:Int).tdiv 4)=((T/4:Nat):Int):=by
       rw [show (4:Int)=((4:Nat):Int) from rfl,←Int.ofNat_tdiv,w64 (by omega) (by omega)]
      rw [hr4,show (1:Int)=((1:Nat):Int) from rfl];refine Ret.use (f62 (hS5.fr0 (Qt.refl w5).drew.fr).mach (T/4) 1 (by omega) (by decide)) ?_;rintro _ w6 ⟨rfl,ro6,E6,hM6,f6⟩;rw [AsI_int];refine⟨by trivial,ro6,fun x hx=>E6 x hx,?_,(f6.R (by decide)).of_drew⟩;rw [if_pos hf];exact (hS5.fr0 (Qt.refl w5).drew.fr).machT E6 hM6 f6
     ·refine⟨by trivial,_,RExt.refl _ _,?_,Fr.refl _ _⟩;rw [if_neg (by rw [hf];decide)];exact hS5
    ·rintro _ w6 ⟨rfl,ro6,E6,hS6,F6⟩;rw [UnN_nil];have n6:=n5.fr F6 (fun h=>h hkb);have n46:Has w6 w3.heap.size [.int .i64 t.size,.int .u32 (t.va:Int),.int .u64 (t.pa:Int),.int .i64 t.dom,.int .i64 t.ap,.int .u32 (t.bits:Int),.bool t.ng,.bool t.xn]:=n45.fr F6 (fun h=>h htb5)
     try simp only [n6.ld_iff,n46.ld_iff,sb_,Nat.reduceAdd]
     have hbase:u64.wrap (u64.wrap (T:Int)*1024)=((T*1024:Nat):Int):=by
      rw [b_a (n:=(T:Int)) (by omega) (by omega),b_a (by omega) (by omega)];omega
     rw [hbase];have hRt:=j_ P.right;have htab:(R_e T t.dom).tab:=by
      refine⟨rfl,?_,hRt.2.2.1,rfl,rfl,rfl,rfl⟩;unfold place R_e;simp only;rw [decide_eq_true (show T*1024%2^10=0 by omega),decide_eq_true (show T*1024<2^32 by omega)]
      rfl
     refine Ret.use (f63 hS6.gl.gd (R_e T t.dom) (.inr (.inl htab))) ?_;rintro _ w7 ⟨rfl,f7⟩;simp only [sb_,Nat.reduceAdd];have n47:=n46.fr0 f7;have n7:=n6.fr0 f7
     try simp only [n47.ld_iff,sb_,Nat.reduceAdd]
     refine RunV.build1 E35 (by decide) rfl fun w8 n8 f8 s8=>?_;rw [AsSl_slice];have E8:RExt w7 ro6 (ro6.cut w7):=RExt.cut;have hS8:=((hS6.fr0 f7).ext E8).fr0 f8;have n48:=n47.fr0 f8;have n78:=n7.fr0 f8;rw [y_a hva];have hat8:u64.wrap ((a:Int)+u64.wrap (u64.wrap ((t.va/1048576:Nat):Int)*4))=((a+4*t.mib:Nat):Int):=by
      rw [b_a (n:=((t.va/1048576:Nat):Int)) (by omega) (by omega),b_a (n:=((t.va/1048576:Nat):Int)*4) (by omega) (by omega),b_a (by omega) (by omega)];unfold Tr.mib;omega
     rw [hat8];refine Ret.use (f64 (x:=tabW T t.dom) (k:=1) hS8 (fun j v hj=>⟨w7.heap.size,0,rfl,by rw [Nat.zero_add,n8.cell];rw [List.replicate_one,W_h] at hj;exact hj⟩) (fun b hb=>by obtain⟨y,h,rfl⟩:=hb;injection h with h;subst h;exact Ro.cut_new (Nat.le_refl _)) (V_h _ _) (by decide) hfr (fun j hj=>by
      have:j=0:=by omega
      subst this;exact hT2')) ?_
     rintro _ w9 ⟨rfl,ro9,E9,hS9,f9⟩;simp only [sb_,Nat.reduceAdd];have hmi9:(a,Ri)∈G_a S.roots a Ri:=hmi;have hR9:=hS9.ed.root _ hmi9;obtain⟨p9,c9,h91,h92,h93⟩:=hR9.st;have hz3:w3.heap.size<w4.heap.size:=n4.lt;have t9:((ro6.cut w7) w3.heap.size).1=0:=by
      rw [E8 _ (by have:=f5.size;have:=F6.size;have:=f7.size;omega),E6 _ (by have:=f5.size;omega)];exact htb5
     have k9:((ro6.cut w7) w4.heap.size).1=0:=by
      rw [E8 _ (by have:=F6.size;have:=f7.size;omega),E6 _ (by omega)];exact hkb
     have n49:=n48.fr f9 (fun h=>by rw [t9] at h;simp at h);have n79:=n78.fr f9 (fun h=>by rw [k9] at h;simp at h);rw [←hrb]
     try simp only [h91.ld_iff,n49.ld_iff,n79.ld_iff,sb_,Nat.reduceAdd]
     rw [y_a hva];have hnone:at? (I_a Ri.tabs) ((t.va/1048576:Nat):Int)=none:=by
      rw [E_b];have:tab? Ri.tabs (t.va/1048576)=none:=hT0;rw [this];rfl
     refine P_a T131 (hR9.tm.fr (S:=fun _=>False) (Qt.refl w9).drew.fr (fun h=>h)) hnone _ fun w10 m10 f10 s10=>?_;obtain⟨hS10,F10⟩:=(hS9.fr0 (Qt.refl w9).drew.fr).tabsT hmi9 (tabs:=Ri.tabs++[(t.mib,T)]) (by
      unfold I_a at m10 ⊢;rw [List.map_append];exact m10) f10
     rw [f_b] at hS10;refine⟨by trivial,ro9,?_,hS10,?_⟩
     ·intro x hx;have h5:=f5.size;have h6:=F6.size;have h7:=f7.size;have h8:=f8.size;rw [E9 x (by omega),E8 x (by omega),E6 x (by omega),E5 x hx]
     ·have G6:FrR (ro3.cut w3) w4 w6:=FrR.then (f5.mono fun _ _ h=>h.elim) E5 F6
      have GE6:RExt w4 (ro3.cut w3) ro6:=fun x hx=>(E6 x (by have:=f5.size;omega)).trans (E5 x hx);have G8:FrR (ro3.cut w3) w4 w8:=G6.trans ((f7.trans f8).mono fun _ _ h=>h.elim);have GE8:RExt w4 (ro3.cut w3) (ro6.cut w7):=fun x hx=>(E8 x (by have:=G6.size;have:=f7.size;omega)).trans (GE6 x hx);have G9:=FrR.then G8 GE8 (f9.R (by decide))
      have GE9:RExt w4 (ro3.cut w3) ro9:=fun x hx=>(E9 x (by have:=G8.size;omega)).trans (GE8 x hx);exact FrR.then G9 GE9 F10.of_drew
  ·rintro _ w5 ⟨rfl,ro5,E5,hS5,F5⟩;rw [UnN_nil];obtain⟨r1,r2,r3⟩:=O_h Ri (got? got i) t;have hpl:=P.place;have htl:=P.tl;have hputM:P_j a Ri Mi (got? got i) t=e_a (hookM a Mi (got? got i) t) (placeOf (d_a Ri (got? got i) t) a t) (wordN t) (reps t.size):=rfl;have hputR:v_c Ri (got? got i) t={ d_a Ri (got? got i) t with blocks:=r_b Ri.blocks (L_a Ri.blocks t.va).1 t }:=rfl;rw [hputM,hputR] at hnext;generalize hR1:d_a Ri (got? got i) t=R1 at *;generalize hM1:hookM a Mi (got? got i) t=M1 at *;have hrb1:R.rb=R1.rb:=by rw [r1,hrb]
   rw [hrb1];have n5:Has w5 w3.heap.size [.int .i64 t.size,.int .u32 (t.va:Int),.int .u64 (t.pa:Int),.int .i64 t.dom,.int .i64 t.ap,.int .u32 (t.bits:Int),.bool t.ng,.bool t.xn]:=n4'.fr F5 (fun h=>h htb)
   try simp only [n5.ld_iff,sb_,Nat.reduceAdd]
   refine Ret.use (f65 hS5.gl.gd.drew t hva P.right) ?_;rintro _ w6 ⟨rfl,f6⟩
   replace f6:=f6.of_drew
   rw [AsI_int];have n6:=n5.fr0 f6;refine⟨⟨n6.cell.trans rfl,n6.cell.trans rfl,n6.cell.trans rfl,n6.cell.trans rfl,n6.cell.trans rfl,n6.cell.trans rfl,n6.cell.trans rfl,n6.cell.trans rfl,trivial⟩,?_⟩;have hS6:=hS5.fr0 f6;rw [←x_c];have hm1:(a,R1)∈G_a S.roots a R1:=S_c hm;refine Ret.use (f54 hS6 hm1 t hva (c_a t) hfr (a_f P.right) htl ha hpl) ?_;rintro _ w7 ⟨rfl,ro7,E7,hS7,f7⟩;simp only [sb_,Nat.reduceAdd];have htb5:(ro5 w3.heap.size).1=0:=by rw [E5 _ n4.lt];exact htb
   have n7:=n6.fr f7 (fun h=>by rw [htb5] at h;simp at h)
   try simp only [n7.ld_iff,sb_,Nat.reduceAdd]
   have hR7:=hS7.ed.root _ hm1;refine Ret.use (f66 hS7.gl hR7 (by simp only;rw [r2];exact P.sorted) (by simp only;rw [r2];have:=P.len;omega) (by simp only;rw [r2];exact P.wfs) t.va hva) ?_;rintro _ w8 ⟨rfl,f8⟩;simp only [sb_,Nat.reduceAdd];have hS8:=hS7.fr0 f8;have n8:=n7.fr0 f8;obtain⟨p8,c8,h81,h82,h83⟩:=(hS8.ed.root _ hm1).st;have hx:=findR_le R1.blocks t.va;have hbl:R1.blocks.length≤100000000000:=by rw [r2];exact P.len
   try simp only [h81.ld_iff,n8.ld_iff,sb_,Nat.reduceAdd]
   refine RunV.build1 E57 (by decide) rfl fun w9 n9 f9 s9=>?_;rw [AsSl_slice];have f9':Fr0 w8 w9:=f9.of_drew;refine⟨(h81.fr0 f9').cell.trans rfl,?_⟩;have h82':=h82.fr0 f9';refine Ret.use (f67 h82' (by simp only;omega) (L_a R1.blocks t.va).1 hx t (vb:=w8.drew.heap.size) n9 (fun h=>by have:=(h82.lt _ h).2;simp at this)) ?_;rintro _ w10 ⟨p10,c10,rfl,h10,f10,hon10⟩;rw [AsSl_slice];have h810:=(h81.fr0 f9').fr f10 (fun h=>by
    have h9:=h83 _ h;have h9':=(hS8.ed.root _ hm1).rr;rw [h9] at h9';cases h9')
   refine h810.st (by simp) rfl fun w11 n11 f11 s11=>?_;have hil:=E_c (t:=t) hx;obtain⟨ro11,E11,hS11,F11⟩:=hS8.blocksT hm1 (blocks:=r_b R1.blocks (L_a R1.blocks t.va).1 t) h81 h82 h83 (by rw [hil];exact h10) ((f9'.mono fun _ _ h=>h.elim).trans f10) (fun b hb=>(hon10 b hb).imp id fun h=>Nat.le_trans f9'.size h) (by rw [hil];simpa using n11) f11;have G8:FrR (ro3.cut w3) w4 w8:=(FrR.then (F5.trans (f6.mono fun _ _ h=>h.elim)) E5 (f7.R (by decide))).trans (f8.mono fun _ _ h=>h.elim);have GE7:RExt w4 (ro3.cut w3) ro7:=fun x hx=>(E7 x (by have:=F5.size;have:=f6.size;omega)).trans (E5 x hx);have G11:FrR (ro3.cut w3) w4 w11:=FrR.then G8 GE7 F11
   have GE11:RExt w4 (ro3.cut w3) ro11:=fun x hx=>(E11 x (by have:=G8.size;omega)).trans (GE7 x hx);have z34:=f4.size;rw [w64 (n:=(i:Int)+1) (by omega) (by omega)];refine⟨⟨i+1,ro11,by omega,rfl,fun x hx=>(GE11 x (by have:=F3.size;omega)).trans ((E4 x (by have:=F3.size;omega)).trans (E3 x hx)),?_,?_,hg4.fr G11 (fun h=>h hrg4),?_⟩,(by first|omega|(simp only [Int.toNat_natCast];omega))⟩
   ·rw [hnext];have:=hS11;rw [f_b] at this;simp only at this ⊢;rw [r2] at this;exact this
   ·exact F3.then E3 (FrR.then (f4.mono fun _ _ h=>h.elim) E4 G11)
   ·rw [GE11 _ (K_a hg4)];exact hrg4
 ·obtain rfl:i=l.length:=by omega
  rw [List.take_length] at hS3;exact⟨0,_,ro3,rfl,.inr ⟨rfl,R,got,mine,p',l',hr,hmay,hti,rfl⟩,E3,hS3,F3⟩
def l_a (blocks:List Tr):List Nat→List Tr→Option (List Tr)
 | [],out=>some out
 | va :: r,out=>if (L_a blocks va).2=true then match blocks[(L_a blocks va).1]? with
   | some t=>if out.any (fun x=>decide (x.va=t.va))=true then none else l_a blocks r (out++[t])
   | none=>none
  else none
def g_c (asid ap:Int) (bits:Nat) (ng:Bool):Prop:=asid<0∨asid>255∨ap<0∨ap>7∨bits>63∨ng=false
def ChoErr (S:St) (a:Nat) (asid ap:Int) (bits:Nat) (ng:Bool) (vas:List Nat) (e:Nat):Prop :=
 (root? S.roots a=none∧e=140)∨∃R,root? S.roots a=some R∧((g_c asid ap bits ng∧e=1)∨(¬g_c asid ap bits ng∧l_a R.blocks vas []=none∧e=142))
def v_d (S:St) (a:Nat) (asid ap:Int) (bits:Nat) (ng:Bool) (vas:List Nat) (R:RootS) (out:List Tr):Prop :=
 root? S.roots a=some R∧¬g_c asid ap bits ng∧l_a R.blocks vas []=some out
def T_c (out:List Tr):List (Int×Value):=out.map fun t=>((t.va:Int),.int .i64 1)
theorem H_f (out:List Tr) (va:Nat):at? (T_c out) (va:Int)=if out.any (fun x=>decide (x.va=va))=true then some (.int .i64 1) else none:=by
 unfold at? T_c
 induction out with
 | nil=>rfl
 | cons t r ih =>
  rw [List.map_cons,List.any_cons];by_cases e:t.va=va
  ·rw [List.find?_cons_of_pos (by simp [e]),if_pos (by simp [e])];rfl
  ·rw [List.find?_cons_of_neg (by simp;omega)];rw [ih];simp [e]
theorem V_i {l:List Tr} {va:Nat} (h:(L_a l va).2=true):(L_a l va).1<l.length:=by
 unfold L_a at h ⊢;have hle:=P_d l va;split
 ·rename_i hx;unfold m_b at hx;cases hg:l[findIx l va]? with
  | none=>rw [hg] at hx;cases hx
  | some t=>exact (List.getElem?_eq_some_iff.1 hg).1
 ·rename_i hx;rw [if_neg hx] at h;cases hg:l[findIx l va-1]? with
  | none=>rw [hg] at h;cases h
  | some b =>
   rw [hg] at h;simp only at h ⊢;have:=(List.getElem?_eq_some_iff.1 hg).1;split
   ·exact this
   ·rename_i hn;rw [if_neg hn] at h;cases h
theorem nd_push {out:List Tr} {t:Tr} (hnd:(out.map (·.va)).Nodup) (hany:out.any (fun x=>decide (x.va=t.va))=false):((out++[t]).map (·.va)).Nodup:=by
 rw [List.map_append,List.nodup_append];refine⟨hnd,by simp,fun x hx y hy e=>?_⟩;simp only [List.map_cons,List.map_nil,List.mem_singleton] at hy;subst hy;subst e;obtain⟨z,hz,hz2⟩:=List.mem_map.1 hx;rw [List.any_eq_false] at hany;exact hany z hz (by simpa using hz2)
theorem f53 {w:World} {ro:Ro} {J:Ids} {fr n:Nat} {S:St} (hS:Sys w ro J fr n S) (hI:Std n S) (a:Nat) (hso:∀R,root? S.roots a=some R→R.blocks.Pairwise fun a b=>a.va<b.va) (asid ap:Int) (bits:Nat) (ng xn:Bool) {q:Option Addr} {c:Nat} {vas:List Nat}
  (hq:Rd w q (vas.map fun v=>Value.int .u32 ((v:Nat):Int))) (hv:∀v∈vas,v<4294967296) (hvl:vas.length≤100000000000000) :
  Ret prog 53 #[.pointer (some ⟨J.e,0,none⟩),.int .u64 (a:Int),.int .i64 asid,.agg #[.int .i64 ap,.int .u32 (bits:Int),.bool ng,.bool xn],.slice q vas.length c] w fun v w'=>Fr0 w w' ∧
   ((∃e:Nat,v=.tuple #[.pointer none,.slice none 0 0,.int .i64 (e:Int)]∧ChoErr S a asid ap bits ng vas e) ∨
    (∃R out p c',v=.tuple #[.pointer (some ⟨R.rb,0,none⟩),.slice p out.length c',.int .i64 0]∧v_d S a asid ap bits ng vas R out∧Sl w' w.heap.size 57 8 p out.length c' (D_ out))):=by
 refine F53_of ?_;unfold F53;try dsimp only [B_,S_8,Uib,Uisisp,Upb,lb_,li_,lm_,ls_,ub_,ui_,up_,us_]
 refine New.mk fun w1 n1 f1 s1=>?_;have hS1:=hS.fr0 f1;have hst:=hS1.ed.st
 try simp only [hst.ld_iff,sb_,Nat.reduceAdd]
 refine Y_b hS1 a (fun hr=>?_) (fun R hr=>?_)
 ·simp only [sb_,Nat.reduceAdd];exact⟨f1,.inl ⟨140,rfl,.inl ⟨hr,rfl⟩⟩⟩
 simp only [sb_,Nat.reduceAdd];simp only [Bool.not_true,E_];have hm:=U_ hr;have bad:∀h:g_c asid ap bits ng,Fr0 w w1∧((∃e:Nat,Value.tuple #[.pointer none,.slice none 0 0,.int .i64 1]=.tuple #[.pointer none,.slice none 0 0,.int .i64 (e:Int)]∧ChoErr S a asid ap bits ng vas e) ∨
    (∃R out p c',Value.tuple #[.pointer none,.slice none 0 0,.int .i64 1]=.tuple #[.pointer (some ⟨R.rb,0,none⟩),.slice p out.length c',.int .i64 0]∧v_d S a asid ap bits ng vas R out∧Sl w1 w.heap.size 57 8 p out.length c' (D_ out))) :=
  fun h=>⟨f1,.inl ⟨1,rfl,.inr ⟨R,hr,.inl ⟨h,rfl⟩⟩⟩⟩
 refine C_ (fun h=>bad (.inl h)) (fun b1=>?_);refine C_ (fun h=>bad (.inr (.inl h))) (fun b2=>?_)
 try simp only [n1.ld_iff,sb_,Nat.reduceAdd]
 refine C_ (fun h=>bad (.inr (.inr (.inl h)))) (fun b3=>?_)
 try simp only [n1.ld_iff,sb_,Nat.reduceAdd]
 refine C_ (fun h=>bad (.inr (.inr (.inr (.inl h))))) (fun b4=>?_)
 try simp only [n1.ld_iff,sb_,Nat.reduceAdd]
 refine C_ (fun h=>bad (.inr (.inr (.inr (.inr (.inl (by omega))))))) (fun b5=>?_)
 try simp only [n1.ld_iff,sb_,Nat.reduceAdd]
 refine BIf_not.2 (w_ (fun b6=>?_) (fun b6=>bad (.inr (.inr (.inr (.inr (.inr b6)))))));have hgood:¬g_c asid ap bits ng:=by
  rintro (h|h|h|h|h|h)
  ·exact b1 h
  ·exact b2 h
  ·exact b3 h
  ·exact b4 h
  ·exact b5 (by omega)
  ·rw [h] at b6;cases b6
 refine B_b .u32 fun w2 m2 f2 s2=>?_;rw [AsM_map];have f02:=f1.trans f2;have hlt1:w.heap.size≤w1.heap.size:=f1.size;generalize hsm:w1.heap.size=sm at *;refine Loop.by (fun s w'=>∃(i:Nat) (out:List Tr) (p:Option Addr) (c':Nat) (x:Int) (p1:Option Addr) (n1 c1:Nat) (p2:Option Addr),i≤vas.length∧s=[.int .i64 (i:Int),.slice p out.length c',.int .i64 x,.slice p1 n1 c1,.pointer p2] ∧
   l_a R.blocks vas []=l_a R.blocks (vas.drop i) out∧MapIs w' sm .u32 (T_c out)∧Sl w' w.heap.size 57 8 p out.length c' (D_ out)∧Fr0 w w'∧(∀t∈out,t∈R.blocks)∧(out.map (·.va)).Nodup)
  (fun s _=>match s with | [.int _ i,_,_,_,_]=>vas.length-i.toNat|_=>0) ⟨0,[],none,0,0,none,0,0,none,by omega,rfl,rfl,m2,Sl.nil _ _ _ _,f02,by simp,by simp⟩ ?_
 rintro _ w3 ⟨i,out,p,c',x,p1,n1',c1,p2,hi,rfl,hch,hm3,hsl3,f3,hmem,hnd⟩;have hol:out.length≤100000000:=by
  have h1:=D_g (L:=out.map (·.va)) (M:=R.blocks.map (·.va)) hnd fun x hx=>by
   obtain⟨t,ht,rfl⟩:=List.mem_map.1 hx;exact List.mem_map.2 ⟨t,hmem t ht,rfl⟩
  rw [List.length_map,List.length_map] at h1;exact Nat.le_trans h1 (hI.len _ hm)
 simp only [UnC_cons,UnN_nil,AsI_int,AsSl_slice,AsP_pointer];refine C_ (fun hlt=>?_) (fun hge=>?_)
 ·obtain⟨va,hva⟩:∃va,vas[i]?=some va:=⟨vas[i]'(by omega),List.getElem?_eq_getElem _⟩;have hdrop:vas.drop i=va :: vas.drop (i+1):=by
   obtain⟨h1,h2⟩:=List.getElem?_eq_some_iff.1 hva;rw [←h2];exact List.drop_eq_getElem_cons h1
  rw [hdrop] at hch;obtain⟨b,o,hqp,hqc⟩:=(hq.fr0 f3) i (.int .u32 (va:Int)) (by simp [hva]);rw [hqp,G_];refine⟨by omega,by omega,?_⟩;rw [H_,Int.toNat_natCast];refine⟨_,hqc,AsI_int.2 ?_⟩;have hS3:=hS.fr0 f3;have hR3:=hS3.ed.root _ hm;refine Ret.use (f66 hS3.gl hR3 (hso R hr) (Nat.le_trans (hI.len _ hm) (by decide)) (hI.wf _ hm) va (hv va (List.mem_of_getElem? hva))) ?_;rintro _ w4 ⟨rfl,f4⟩;simp only [sb_,Nat.reduceAdd];refine BIf_not.2 (w_ (fun hok=>?_) (fun hno=>?_))
  ·have hS4:=hS3.fr0 f4;obtain⟨pb,cb,h1,h2,h3⟩:=(hS4.ed.root _ hm).st
   try simp only [h1.ld_iff,sb_,Nat.reduceAdd]
   obtain⟨t,ht⟩:∃t,R.blocks[(L_a R.blocks va).1]?=some t:=⟨R.blocks[(L_a R.blocks va).1]'(V_i hok),List.getElem?_eq_getElem _⟩;refine g_a h2.rd rfl ht (by have:=V_i hok;omega) ?_;refine K_j (fun w5 n5 f5 s5=>?_);have hch2:l_a R.blocks (va :: vas.drop (i+1)) out=if out.any (fun x=>decide (x.va=t.va))=true then none else l_a R.blocks (vas.drop (i+1)) (out++[t]):=by
    show (if (L_a R.blocks va).2=true then _ else _)=_;rw [if_pos hok,ht]
   rw [hch2] at hch;have f35:=f4.trans f5;have m5:=hm3.fr f35 (fun h=>h);have sl5:=hsl3.fr0 f35;have f05:=f3.trans f35
   try simp only [n5.ld_iff,sb_,Nat.reduceAdd]
   refine k_a T131 m5 _ ?_;rw [H_f];have smne:∀{W:World},Has W w4.heap.size t.cells→MapIs W sm .u32 (T_c out)→w4.heap.size≠sm:=fun h1 h2 h=>by
    obtain⟨tt,h1⟩:=h1;obtain⟨es,ck,h2,_⟩:=h2;rw [h,h2] at h1;cases h1
   have hne1:=smne n5 m5;cases hany:out.any (fun x=>decide (x.va=t.va)) with
   | true =>
    simp only [if_true,Option.getD_some,AsI_int];rw [show i64.wrap ((1:Int)+1)=2 from by kernel_rfl];refine B_g T131 m5 (by rw [H_f,if_pos hany]) _ fun w6 m6 f6 s6=>?_;have n6:=n5.fr f6 hne1;unfold Tr.cells at n6
    try simp only [n6.ld_iff,sb_,Nat.reduceAdd]
    refine k_a T131 m6 _ ?_;rw [at_setAt (u:=.int .i64 1) (by rw [H_f,if_pos hany])];simp only [Option.getD_some,AsI_int];refine R_c (by decide) ?_;refine⟨f05.new f6 hlt1,.inl ⟨142,rfl,.inr ⟨R,hr,.inr ⟨hgood,?_,rfl⟩⟩⟩⟩;rw [hch,if_pos hany]
   | false =>
    simp only [Bool.false_eq_true,if_false,Option.getD_none,AsI_int];rw [show i64.wrap ((0:Int)+1)=1 from by kernel_rfl];refine P_a T131 m5 (by rw [H_f,if_neg (by rw [hany];decide)]) _ fun w6 m6 f6 s6=>?_;have n6:Has w6 w4.heap.size [.int .i64 t.size,.int .u32 (t.va:Int),.int .u64 (t.pa:Int),.int .i64 t.dom,.int .i64 t.ap,.int .u32 (t.bits:Int),.bool t.ng,.bool t.xn]:=n5.fr f6 hne1;have m6':MapIs w6 sm .u32 (T_c (out++[t])):=by
     unfold T_c at m6 ⊢;rw [List.map_append];exact m6
    try simp only [n6.ld_iff,sb_,Nat.reduceAdd]
    refine k_a T131 m6' _ ?_;rw [H_f,if_pos (by simp)];simp only [Option.getD_some,AsI_int];refine D_a (by decide) ?_
    try simp only [n6.ld_iff,sb_,Nat.reduceAdd]
    have sl6:Sl w6 w.heap.size 57 8 p out.length c' (D_ out):=sl5.fr f6 (fun b hb h=>by
     have h:b=sm:=h;obtain⟨es,ck,h2,_⟩:=m5;rcases sl5.cases with ⟨h3,_⟩|⟨g,sp,h3,_,h4,_⟩
     ·obtain⟨aa,h5,_⟩:=hb;rw [h3] at h5;cases h5
     ·obtain⟨aa,h5,h6⟩:=hb;rw [h3] at h5;injection h5 with h5;subst h5
      simp only at h6;obtain⟨tt,h4⟩:=h4;rw [h6,h,h2] at h4;cases h4)
    have f06:Fr0 w w6:=f05.new f6 hlt1;refine l_c E57 (by decide) sl6 f06.size rfl (fun v hv=>x_ t v hv) (by simp only [maxLen];omega) (by omega) fun pn cn w7 hsl7 f7 hon7=>?_;rw [AsSl_slice,w64 (n:=(i:Int)+1) (by omega) (by omega)];have f07:Fr0 w w7:=f06.newS f7 (fun b hb=>(sl6.lt b hb).1);refine⟨⟨i+1,out++[t],pn,cn,x,p1,n1',c1,p2,by omega,by rw [List.length_append];rfl,?_,m6'.fr f7 (fun hb=>?_),?_,f07,fun u hu=>(List.mem_append.1 hu).elim (hmem u) (fun hu=>by rw [List.mem_singleton.1 hu];exact List.mem_of_getElem? ht),nd_push hnd hany⟩,(by first|omega|(simp only [Int.toNat_natCast];omega))⟩
    ·rw [hch,if_neg (by rw [hany];decide)]
    ·obtain⟨es,ck,h2,_⟩:=m6;rcases sl6.cases with ⟨h3,_⟩|⟨g,sp,h3,_,h4,_⟩
     ·obtain⟨aa,h5,_⟩:=hb;rw [h3] at h5;cases h5
     ·obtain⟨aa,h5,h6⟩:=hb;rw [h3] at h5;injection h5 with h5;subst h5
      simp only at h6;obtain⟨tt,h4⟩:=h4;rw [h6,h2] at h4;cases h4
    ·rw [List.length_append,h_a];have:D_ [t]=t.v.cells.toList:=by simp [D_];rfl
     rw [this];exact hsl7
  ·refine⟨f3.trans f4,.inl ⟨142,rfl,.inr ⟨R,hr,.inr ⟨hgood,?_,rfl⟩⟩⟩⟩;rw [hch];show (if (L_a R.blocks va).2=true then _ else _)=_;rw [if_neg (by rw [hno];decide)]
 ·obtain rfl:i=vas.length:=by omega
  rw [List.drop_length] at hch;exact⟨f3,.inr ⟨R,out,p,c',rfl,⟨hr,hgood,hch⟩,hsl3⟩⟩
structure Xs where
 R:RootS
 M:Mst
 p:Pool
 l:List Qr
def Xs.st (x:Xs) (roots:List (Nat×RootS)) (a:Nat):St:=⟨x.M,x.p,x.l,G_a roots a x.R⟩
def asWord (va:Nat) (asid:Int):Int:=u32.wrap ((va:Int)+u32.wrap asid)
def Y_g (a:Nat) (R:RootS) (M:Mst) (t:Tr):Mst:=e_a M (placeOf R a t) 0 (reps t.size)
def K_e (R:RootS) (t:Tr):RootS:={ R with blocks:=R.blocks.eraseIdx (L_a R.blocks t.va).1 }
def C_j (a:Nat) (asid:Int) (R:RootS) (M:Mst) (t:Tr):Mst:=C_h (Y_g a R M t) 2 (asWord t.va asid)
def H_e (l:List Tr) (t:Tr):Bool:=t.paged && !(l.any fun b=>b.paged && decide (b.mib=t.mib))
def P_f (R:RootS) (m:Nat):RootS:={ R with tabs:=R.tabs.filter fun x=>decide (x.1≠m) }
inductive CutStep (a:Nat) (asid:Int) (t:Tr):Xs→Xs→Prop
 | keep (x:Xs) (h:H_e (K_e x.R t).blocks t=false):CutStep a asid t x ⟨K_e x.R t,C_j a asid x.R x.M t,x.p,x.l⟩
 | shut (x:Xs) (h:H_e (K_e x.R t).blocks t=true) (T e:Nat) (p':Pool) (l':List Qr) (hT:tab? x.R.tabs t.mib=some T) (hd:SDrop x.p x.l (T:Int) e p' l') :
   CutStep a asid t x ⟨P_f (K_e x.R t) t.mib,e_a (C_j a asid x.R x.M t) (a+4*t.mib) 0 1,p',l'⟩
inductive CutRun (a:Nat) (asid:Int) (x:Xs):List Tr→Xs→Prop
 | nil:CutRun a asid x [] x
 | snoc {ts:List Tr} {y z:Xs} {t:Tr} (h:CutRun a asid x ts y) (hs:CutStep a asid t y z):CutRun a asid x (ts++[t]) z
structure CutPre (fr a:Nat) (R:RootS) (t:Tr):Prop where
 reps:reps t.size=1∨reps t.size=16
 wf:t.wf
 tl:∀v,tab? R.tabs t.mib=some v→v<2^30
 place:∀i,i<Go.Proofs.YtmgjicnipgdjhaaGreatDoor.reps t.size→wErr fr (placeOf R a t+4*i)=0
 sorted:R.blocks.Pairwise fun a b=>a.va<b.va
 wfs:∀b∈R.blocks,b.wf
 len:R.blocks.length≤100000000000
 ix:(L_a R.blocks t.va).1<R.blocks.length
 tab:t.paged=true→∃T,tab? R.tabs t.mib=some T
 hook:wErr fr (a+4*t.mib)=0
def CutE (S:St) (a:Nat) (asid:Int) (vas:List Nat) (e:Nat) (S':St):Prop :=
 (e≠0∧ChoErr S a asid 0 0 true vas e∧S'=S) ∨
 (e=0∧∃R out y,v_d S a asid 0 0 true vas R out∧CutRun a asid ⟨R,S.M,S.p,S.l⟩ out y∧S'=y.st S.roots a)
theorem ChoErr.ne {S:St} {a:Nat} {asid ap:Int} {bits:Nat} {ng:Bool} {vas:List Nat} {e:Nat} (h:ChoErr S a asid ap bits ng vas e):e≠0:=by
 rcases h with ⟨_,h⟩|⟨_,_,⟨_,h⟩|⟨_,_,h⟩⟩<;>omega
theorem CutRun.ids {a:Nat} {asid:Int} {x y:Xs} {ts:List Tr} (h:CutRun a asid x ts y):y.R.rb=x.R.rb∧y.R.tm=x.R.tm:=by
 induction h with
 | nil=>exact⟨rfl,rfl⟩
 | snoc _ hs ih =>
  cases hs with
  | keep=>exact ih
  | shut=>exact ih
theorem f44 {w:World} {ro:Ro} {J:Ids} {fr n:Nat} {S:St} (hS:Sys w ro J fr n S) (hI:Std n S) (hfr:fr≤65536) (a:Nat) (ha:a<2^40) (hso:∀R,root? S.roots a=some R→R.blocks.Pairwise fun a b=>a.va<b.va) (asid:Int)
  {q:Option Addr} {c:Nat} {vas:List Nat} (hq:Rd w q (vas.map fun v=>Value.int .u32 ((v:Nat):Int))) (hv:∀v∈vas,v<4294967296) (hvl:vas.length≤100000000000000) (hol:∀R out,v_d S a asid 0 0 true vas R out→out.length≤1000000000)
  (hpre:∀R out,v_d S a asid 0 0 true vas R out→∀i t,out[i]?=some t→∀y,CutRun a asid ⟨R,S.M,S.p,S.l⟩ (out.take i) y→CutPre fr a y.R t) :
  Ret prog 44 #[.pointer (some ⟨J.e,0,none⟩),.int .u64 (a:Int),.int .i64 asid,.slice q vas.length c] w fun v w'=>∃(e:Nat) (S':St) (ro':Ro),v=.int .i64 (e:Int)∧CutE S a asid vas e S'∧RExt w ro ro'∧Sys w' ro' J fr n S'∧FrR ro w w':=by
 refine F44_of ?_;unfold F44;try dsimp only [B_,S_8,Uib,Upsi,lb_,li_,ls_,ub_,ui_,up_,us_]
 refine Ret.use (f53 hS hI a hso asid 0 0 true false hq hv hvl) ?_;rintro _ w2 ⟨f2,⟨e,rfl,he⟩|⟨R,out,p,c',rfl,hok,hsl2⟩⟩
 ·simp only [sb_,Nat.reduceAdd];refine b_ (fun _=>?_) (fun h=>absurd (by omega) he.ne);exact⟨e,S,ro,rfl,.inl ⟨he.ne,he,rfl⟩,RExt.refl _ _,hS.fr0 f2,f2.mono fun _ _ h=>h.elim⟩
 simp only [sb_,Nat.reduceAdd];refine b_ (fun h=>absurd rfl h) (fun _=>?_);have hm:=U_ hok.1;have hol':=hol R out hok;have hself:G_a S.roots a R=S.roots:=s_b hS.ed.nd hm;have hS2:Sys w2 (ro.cut w) J fr n ((⟨R,S.M,S.p,S.l⟩:Xs).st S.roots a):=by
  show Sys w2 (ro.cut w) J fr n ⟨S.M,S.p,S.l,G_a S.roots a R⟩;rw [hself];exact (hS.ext RExt.cut).fr0 f2
 have hpr:∀b,On p b→((ro.cut w) b).1=0:=fun b hb=>Ro.cut_new (hsl2.lt b hb).1;refine Loop.by (fun s w'=>∃(i:Nat) (y:Xs) (ro':Ro),i≤out.length∧s=[.int .i64 (i:Int)]∧CutRun a asid ⟨R,S.M,S.p,S.l⟩ (out.take i) y∧RExt w2 (ro.cut w) ro'∧Sys w' ro' J fr n (y.st S.roots a)∧FrR (ro.cut w) w2 w')
  (fun s _=>match s with | [.int _ i]=>out.length-i.toNat|_=>0) ⟨0,_,_,by omega,rfl,.nil,RExt.refl _ _,hS2,Fr.refl _ _⟩ ?_
 rintro _ w3 ⟨i,y,ro3,hi,rfl,hrun,E3,hS3,F3⟩;simp only [UnC_cons,UnN_nil,AsI_int];refine C_ (fun hlt=>?_) (fun hge=>?_)
 ·obtain⟨t,ht⟩:∃t,out[i]?=some t:=⟨out[i]'(by omega),List.getElem?_eq_getElem _⟩;have P:=hpre R out hok i t ht y hrun;have hva:t.va<2^32:=P.wf;have htake:out.take (i+1)=out.take i++[t]:=by rw [List.take_add_one,ht];rfl
  have hrb:=hrun.ids.1;have hcs:(out.take (i+1))=out.take i++[t]:=htake;refine Join.at (fun s w'=>s=[]∧∃(z:Xs) (ro':Ro),CutStep a asid t y z∧RExt w2 (ro.cut w) ro'∧Sys w' ro' J fr n (z.st S.roots a)∧FrR (ro.cut w) w2 w') ?_ ?_
  ·refine g_a (hsl2.rd.fr F3 fun b hb h=>h (hpr b hb)) rfl ht hlt ?_;refine K_j (fun w4 n4 f4 s4=>?_);have E4:RExt w3 ro3 (ro3.cut w3):=RExt.cut;have hS4:=(hS3.ext E4).fr0 f4;have htb:((ro3.cut w3) w3.heap.size).1=0:=Ro.cut_new (Nat.le_refl _);have hm4:(a,y.R)∈G_a S.roots a y.R:=S_c hm;have hrb':R.rb=y.R.rb:=hrb.symm;rw [hrb']
   try simp only [n4.ld_iff,sb_,Nat.reduceAdd]
   refine Ret.use (f54 hS4 hm4 t hva (x:=0) (by decide) hfr P.reps P.tl ha P.place) ?_;rintro _ w5 ⟨rfl,ro5,E5,hS5,F5⟩;simp only [sb_,Nat.reduceAdd];have n5:=n4.fr F5 (fun h=>by rw [htb] at h;simp at h);have htb5:(ro5 w3.heap.size).1=0:=by rw [E5 _ n4.lt];exact htb
   try simp only [n5.ld_iff,sb_,Nat.reduceAdd]
   refine Ret.use (f55 hS5 1 (.inl rfl) _) ?_;rintro _ w6 ⟨rfl,ro6,E6,hS6,F6⟩;simp only [sb_,Nat.reduceAdd];have n6:=n5.fr F6 (fun h=>by rw [htb5] at h;simp at h);have htb6:(ro6 w3.heap.size).1=0:=by rw [E6 _ n5.lt];exact htb5
   try simp only [n6.ld_iff,sb_,Nat.reduceAdd]
   refine Ret.use (f66 hS6.gl (hS6.ed.root _ hm4) P.sorted (by have:=P.len;show y.R.blocks.length≤_;omega) P.wfs t.va hva) ?_;rintro _ w7 ⟨rfl,f7⟩;simp only [sb_,Nat.reduceAdd];have hS7:=hS6.fr0 f7;have n7:=n6.fr0 f7;obtain⟨p7,c7,h71,h72,h73⟩:=(hS7.ed.root _ hm4).st;have hix:=P.ix;have hbl:=P.len
   try simp only [h71.ld_iff,sb_,Nat.reduceAdd]
   rw [w64 (n:=(((L_a y.R.blocks t.va).1:Nat):Int)+1) (by omega) (by omega)];have hf88:=f88 h72 (by show y.R.blocks.length≤_;omega) (L_a y.R.blocks t.va).1 hix;refine Ret.use hf88 ?_;rintro _ w8 ⟨rfl,h82,F8⟩;rw [AsSl_slice];have h81:=h71.fr F8 (fun h=>by
    have h9:=h73 _ h;have h9':=(hS7.ed.root _ hm4).rr;rw [h9] at h9';cases h9')
   have htb7:¬On p7 w3.heap.size:=fun h=>by have:=h73 _ h;rw [this] at htb6;cases htb6
   have n8:=n7.fr F8 htb7;refine h81.st (by simp) rfl fun w9 n9 F9 s9=>?_;have hne9:w3.heap.size≠y.R.rb:=fun h=>by
    have h9':=(hS7.ed.root _ hm4).rr;rw [←h] at h9';rw [show ro6 w3.heap.size=(17,a) from h9'] at htb6;cases htb6
   have n9':=n8.fr F9 hne9;have hel:(y.R.blocks.eraseIdx (L_a y.R.blocks t.va).1).length=y.R.blocks.length-1:=List.length_eraseIdx_of_lt hix;obtain⟨ro9,E9,hS9,G9⟩:=hS7.blocksT hm4 (blocks:=y.R.blocks.eraseIdx (L_a y.R.blocks t.va).1) h71 h72 h73 (by rw [hel];exact h82) F8 (fun b hb=>.inl hb) (by rw [hel];simpa using n9) F9;have K6:FrR (ro3.cut w3) w4 w6:=FrR.then (F5.R (by decide)) E5 (F6.R (by decide))
   have KE6:RExt w4 (ro3.cut w3) ro6:=fun x hx=>(E6 x (by have:=F5.size;omega)).trans (E5 x hx);have K7:FrR (ro3.cut w3) w4 w7:=K6.trans (f7.mono fun _ _ h=>h.elim);have K9:FrR (ro3.cut w3) w4 w9:=FrR.then K7 KE6 G9
   have KE9:RExt w4 (ro3.cut w3) ro9:=fun x hx=>(E9 x (by have:=K7.size;omega)).trans (KE6 x hx);have L9:FrR (ro.cut w) w2 w9:=F3.then E3 (FrR.then (f4.mono fun _ _ h=>h.elim) E4 K9)
   have z3:=F3.size;have z4:=f4.size;have LE9:RExt w2 (ro.cut w) ro9:=fun x hx=>(KE9 x (by omega)).trans ((E4 x (by omega)).trans (E3 x hx));have hS9':Sys w9 ro9 J fr n ((⟨K_e y.R t,C_j a asid y.R y.M t,y.p,y.l⟩:Xs).st S.roots a):=by
    show Sys w9 ro9 J fr n ⟨C_j a asid y.R y.M t,y.p,y.l,G_a S.roots a (K_e y.R t)⟩;rw [←f_b S.roots a y.R (K_e y.R t)];exact hS9
   try simp only [n9'.ld_iff,sb_,Nat.reduceAdd]
   refine Ret.use (f89 t) ?_;rintro _ w10 ⟨rfl,f10⟩;rw [AsB_bool];have hS10:=hS9'.fr0 f10;have L10:FrR (ro.cut w) w2 w10:=L9.trans (f10.mono fun _ _ h=>h.elim);have n10:=n9'.fr0 f10;have hmz:(a,K_e y.R t)∈G_a S.roots a (K_e y.R t):=S_c hm;refine w_ (fun hpg=>?_) (fun hpg=>?_)
   ·obtain⟨pa,ca,ha1,ha2,ha3⟩:=(hS10.ed.root _ hmz).st;have ha1':Has w10 y.R.rb _:=ha1;refine ha1'.ld rfl (AsSl_slice.2 ?_);have hwfz:∀b∈(K_e y.R t).blocks,b.va<2^32:=fun b hb=>P.wfs b (List.mem_of_mem_eraseIdx hb);refine Ret.use (f90 ha2.rd (by have:=List.length_eraseIdx_le y.R.blocks (L_a y.R.blocks t.va).1;show (y.R.blocks.eraseIdx _).length≤_;omega) (pr:=fun b=>b.paged && decide (b.mib=t.mib)) (fun b hb w' f' K hK=>fny91 b t (n10.fr0 f') (hwfz b hb) hva K hK)) ?_;rintro _ w11 ⟨rfl,f11⟩;rw [AsB_bool];have hS11:=hS10.fr0 f11;have n11:=n10.fr0 f11;have L11:FrR (ro.cut w) w2 w11:=L10.trans (f11.mono fun _ _ h=>h.elim);refine BIf_not.2 (w_ (fun hany=>?_) (fun hany=>?_))
    ·exact⟨by trivial,_,ro9,.keep y (by unfold H_e;rw [hany];simp),LE9,hS11,L11⟩
    ·obtain⟨T,hT⟩:=P.tab hpg
     try simp only [n11.ld_iff,sb_,Nat.reduceAdd]
     rw [y_a hva];have hmib:t.mib<4096:=by unfold Tr.mib;omega
     refine Ret.use (f58 hS11 hmz (m:=t.mib) (T:=T) hmib hT (P.tl T hT) hfr P.hook) ?_;rintro _ w12 ⟨rfl,ro12,e,p',l',hd,E12,hS12,G12⟩;simp only [sb_,Nat.reduceAdd];refine⟨by trivial,_,ro12,.shut y (by unfold H_e;rw [hpg,hany];rfl) T e p' l' hT hd,fun x hx=>(E12 x (by have:=L11.size;omega)).trans (LE9 x hx),?_,FrR.then L11 LE9 G12⟩;show Sys w12 ro12 J fr n ⟨_,p',l',G_a S.roots a (P_f (K_e y.R t) t.mib)⟩;rw [←f_b S.roots a (K_e y.R t) (P_f (K_e y.R t) t.mib)];exact hS12
   ·exact⟨by trivial,_,ro9,.keep y (by unfold H_e;rw [hpg];rfl),LE9,hS10,L10⟩
  ·rintro _ w5 ⟨rfl,z,ro5,hcs,E5,hS5,F5⟩;rw [UnN_nil,w64 (n:=(i:Int)+1) (by omega) (by omega)];exact⟨⟨i+1,z,ro5,by omega,rfl,by rw [htake];exact .snoc hrun hcs,E5,hS5,F5⟩,(by first|omega|(simp only [Int.toNat_natCast];omega))⟩
 ·obtain rfl:i=out.length:=by omega
  rw [List.take_length] at hrun;exact⟨0,_,ro3,rfl,.inr ⟨rfl,R,out,y,hok,hrun,rfl⟩,fun x hx=>(E3 x (by have:=f2.size;omega)).trans (RExt.cut x hx),hS3,FrR.then (f2.mono fun _ _ h=>h.elim) RExt.cut F3⟩
end Go.Proofs.YtmgjicnipgdjhaaGreatDoor
