import Derived.Test.YtmgjicnipgdjhaaGreatDoorP03
import Derived.Laws.CopyRow
import Derived.Lib.Overlaps
set_option linter.unusedVariables false
set_option linter.unusedSimpArgs false
set_option maxRecDepth 100000
set_option maxHeartbeats 4000000
namespace Go.Proofs.YtmgjicnipgdjhaaGreatDoor
open Go Go.Sh Go.Proofs
def F27 (m0 : Addr) (w : World) (Q : KQ) : Prop :=
  ls_ w.drew (at0 m0 5) fun c e b => ls_ w.drew (at0 m0 5) fun f a g => (0 ≤ if (65536 : Int) < (↑a : Int) then (65536 : Int) else (↑a : Int)) ∧ (if (65536 : Int) < (↑a : Int) then (65536 : Int) else (↑a : Int)) ≤ (↑b : Int) ∧ St w.drew (at0 m0 5) (Value.slice none (0 : Nat) (0 : Nat)) fun d => Q (Value.slice (slAddr c (0 : Nat) b (4 : Nat)) ((if (65536 : Int) < (↑a : Int) then (65536 : Int) else (↑a : Int)).toNat - (0 : Nat)) (b - (0 : Nat))) d
theorem F27_of (m0 : Addr) (w : World) (Q : KQ) (h : F27 m0 w Q) : Ret prog 27 #[.pointer (some m0)] w Q := co Tryz.func27 (by kernel_rfl) h
def F38 (c0c0 c0c1 c0c2 c0c3 c0c4 c0c5 : Int) (w : World) (Q : KQ) : Prop :=
  New w #[.int .i64 c0c0, .int .i64 c0c1, .int .i64 c0c2, .int .i64 c0c3, .int .i64 c0c4, .int .i64 c0c5] 23 fun b a => li_ a (at0 b 0) .i64 fun e => BIf (decide (e < 256)) (Q (Value.tuple #[.pointer none, .int .i64 1]) a) (li_ a (at0 b 0) .i64 fun f => BIf (decide (f > 65536)) (Q (Value.tuple #[.pointer none, .int .i64 1]) a) (li_ a (at0 b 0) .i64 fun g => BIf (g.tmod (256 : Int) != 0) (Q (Value.tuple #[.pointer none, .int .i64 1]) a) (li_ a (at0 b 1) .i64 fun h => li_ a (at0 b 2) .i64 fun i => li_ a (at0 b 3) .i64 fun j => CallS prog 82 #[.int .i64 h, .int .i64 i, .int .i64 j] a fun k c => AsTup k fun l => Upi l fun m n o => UnN o (BIf (n != 0) (Q (Value.tuple #[.pointer none, .int .i64 1]) c) (li_ c (at0 b 0) .i64 fun p => CallS prog 83 #[.int .i64 p] c fun r d => AsTup r fun t => Upi t fun u v x => UnN x (BIf (v != 0) (Q (Value.tuple #[.pointer none, .int .i64 1]) d) (CallS prog 84 #[] d fun y z => AsP y fun a0 => CallS prog 85 #[] z fun a1 a2 => AsP a1 fun a3 => New a2 #[.pointer u, .pointer a0, .pointer m, .pointer a3, Value.slice none (0 : Nat) (0 : Nat), Value.slice none (0 : Nat) (0 : Nat)] 167 fun a4 a5 => Q (Value.tuple #[.pointer (some a4), .int .i64 0]) a5)))))))
theorem F38_of (c0c0 c0c1 c0c2 c0c3 c0c4 c0c5 : Int) (w : World) (Q : KQ) (h : F38 c0c0 c0c1 c0c2 c0c3 c0c4 c0c5 w Q) : Ret prog 38 #[.agg #[.int .i64 c0c0, .int .i64 c0c1, .int .i64 c0c2, .int .i64 c0c3, .int .i64 c0c4, .int .i64 c0c5]] w Q := co Tryz.func38 (by kernel_rfl) h
def F62 (m0 : Addr) (frame1 count2 : Int) (w : World) (Q : KQ) : Prop :=
  BIf (decide (count2 < 1)) (Q (.int .i64 1) w) (CallS prog 123 #[.pointer (some m0), .int .i64 frame1, .int .i64 count2] w fun d c => AsB d fun e => BIf (!e) (Q (.int .i64 30) c) (CallS prog 71 #[.pointer (some m0)] c fun f g => AsAgg f fun h => Uiiiubib h fun u v x y z a0 a1 i => UnN i (Sh.Loop [.int .i64 0] g fun j k a => ui_ k .i64 fun b l => UnN l (BIf (decide (b < count2)) (lp_ a (at0 m0 0) fun m => CallS prog 124 #[.pointer m, .int .i64 (IntKind.i64.wrap (frame1 + b))] a fun n o => AsI .i64 n fun a2 => j [.int .i64 (IntKind.i64.wrap (b + 1))] o) (CallS prog 78 #[.pointer (some m0), .int .i64 5, .int .u64 (IntKind.u64.wrap frame1), .int .u32 (IntKind.u32.wrap count2)] a fun p r => AsTup p fun t => UnN t (Q (.int .i64 0) r))))))
theorem F62_of (m0 : Addr) (frame1 count2 : Int) (w : World) (Q : KQ) (h : F62 m0 frame1 count2 w Q) : Ret prog 62 #[.pointer (some m0), .int .i64 frame1, .int .i64 count2] w Q := co Tryz.func62 (by kernel_rfl) h
def F71 (m0 : Addr) (w : World) (Q : KQ) : Prop :=
  New w #[.int .i64 0, .int .i64 0, .int .i64 0, .int .u32 0, .bool false, .int .i64 0, .bool false] 172 fun c cT => New cT #[.int .i64 0, .int .i64 0, .int .i64 0, .int .u32 0, .bool false, .int .i64 0, .bool false] 172 fun a aI => Join (fun cU cV => UnN cU (CallS prog 134 #[.pointer (some m0)] cV fun cW cX => AsAgg cW fun cY => Ubbbibbvvuuui cY fun cZ d0 d1 d2 d3 d4 d5 d6 d7 d8 d9 da db => UnN db (New cX #[.bool false, .bool false, .bool false, .int .i64 0, .bool false, .bool false, .int .u64 0, .int .u64 0, .int .u32 0, .int .u32 0, .int .u32 0, .int .i64 0] 52 fun b dc => S_12 dc b (.bool cZ) (.bool d0) (.bool d1) (.int .i64 d2) (.bool d3) (.bool d4) (.int .u64 d5) (.int .u64 d6) (.int .u32 d7) (.int .u32 d8) (.int .u32 d9) (.int .i64 da) fun d => li_ d (at0 a 0) .i64 fun dd => BIf (dd == 1) (lp_ d.drew (at0 m0 2) fun de => li_ d.drew (at0 a 1) .i64 fun df => li_ d.drew (at0 a 2) .i64 fun dg => CallS prog 135 #[.pointer de, .int .i64 df, .int .i64 dg] d.drew fun dh di => AsB dh fun pv => T71_ di a c Q) (li_ d (at0 a 0) .i64 fun dj => BIf (dj == 2) (lb_ d (at0 b 0) fun dk => BIf dk (lp_ d.drew (at0 m0 2) fun aZ => li_ d.drew (at0 a 3) .u32 fun b0 => li_ d.drew (at0 b 11) .i64 fun b1 => lb_ d.drew (at0 a 4) fun b2 => li_ d.drew (at0 a 5) .i64 fun b3 => lb_ d.drew (at0 a 6) fun b4 => (CallS prog 136 #[.pointer aZ, .int .u32 b0, .int .i64 b1, .bool b2, .int .i64 b3, .bool b4] d.drew fun dl dm => AsTup dl fun dn => UnC dn fun dp dq => AsAgg dp fun dr => Uiiuviiubb dr fun ds dt du dv dx dy dz dA dB dC => UnN dC (ui_ dq .i64 fun dD dE => UnN dE (New dm #[.int .i64 0, .int .i64 0, .int .u32 0, .int .u64 0, .int .i64 0, .int .i64 0, .int .u32 0, .bool false, .bool false] 242 fun dF al => ce_ al (at0 a 6) (.bool b4) ∧ ce_ al (at0 a 5) (.int .i64 b3) ∧ ce_ al (at0 a 4) (.bool b2) ∧ ce_ al (at0 b 11) (.int .i64 b1) ∧ ce_ al (at0 a 3) (.int .u32 b0) ∧ ce_ al (at0 m0 2) (.pointer aZ) ∧ S_9 al dF (.int .i64 ds) (.int .i64 dt) (.int .u32 du) (.int .u64 dv) (.int .i64 dx) (.int .i64 dy) (.int .u32 dz) (.bool dA) (.bool dB) fun am => BIf (dD == 0) (lp_ am.drew (at0 m0 0) fun e => Lbbbibbvvuuui am.drew b fun f g h i j k l m n o p r => li_ am.drew (at0 a 3) .u32 fun t => (CallS prog 137 #[Value.iface 162 (.pointer e), Value.agg #[.bool f, .bool g, .bool h, .int .i64 i, .bool j, .bool k, .int .u64 l, .int .u64 m, .int .u32 n, .int .u32 o, .int .u32 p, .int .i64 r], .int .u32 t] am.drew fun dG b9 => AsTup dG fun dH => UnC dH fun dI dJ => AsAgg dI fun dK => Uiuviiubb dK fun ba bb bc bd be bf bg bh dL => UnN dL (UnC dJ fun dM dN => AsAgg dM fun dO => Uiii dO fun bi bj bk dP => UnN dP (UnN dN ((New b9 #[.int .i64 0, .int .u32 0, .int .u64 0, .int .i64 0, .int .i64 0, .int .u32 0, .bool false, .bool false] 57 fun bl aJ => ce_ aJ (at0 a 3) (.int .u32 t) ∧ (C_12 aJ b (.bool f) (.bool g) (.bool h) (.int .i64 i) (.bool j) (.bool k) (.int .u64 l) (.int .u64 m) (.int .u32 n) (.int .u32 o) (.int .u32 p) (.int .i64 r) <| tt aJ) ∧ ce_ aJ (at0 m0 0) (.pointer e) ∧ New aJ #[.int .i64 0, .int .i64 0, .int .i64 0] 87 fun bm aK => ce_ aK (at0 a 3) (.int .u32 t) ∧ (C_12 aK b (.bool f) (.bool g) (.bool h) (.int .i64 i) (.bool j) (.bool k) (.int .u64 l) (.int .u64 m) (.int .u32 n) (.int .u32 o) (.int .u32 p) (.int .i64 r) <| tt aK) ∧ ce_ aK (at0 m0 0) (.pointer e) ∧ S_8 aK bl (.int .i64 ba) (.int .u32 bb) (.int .u64 bc) (.int .i64 bd) (.int .i64 be) (.int .u32 bf) (.bool bg) (.bool bh) fun dQ => S_3 dQ bm (.int .i64 bi) (.int .i64 bj) (.int .i64 bk) fun a9 => Liii a9 bm fun dR dS dT => RunP prog (binSem BinOp.eql 87 (Operand.tmp 84) (Operand.tmp 85) (Value.agg #[.int .i64 dR, .int .i64 dS, .int .i64 dT]) (Value.agg #[.int .i64 0, .int .i64 0, .int .i64 0])) fun dU => AsB dU fun dV => BIf dV (lp_ a9.drew (at0 m0 2) fun bn => Lbbbibbvvuuui a9.drew b fun dW dX dY dZ e0 e1 e2 e3 e4 e5 e6 e7 => Liuviiubb a9.drew bl fun e8 e9 ea eb ec ed ee ef => li_ a9.drew (at0 a 3) .u32 fun bo => li_ a9.drew (at0 b 11) .i64 fun bp => lb_ a9.drew (at0 a 4) fun bq => li_ a9.drew (at0 a 5) .i64 fun br => CallS prog 139 #[Value.agg #[.bool dW, .bool dX, .bool dY, .int .i64 dZ, .bool e0, .bool e1, .int .u64 e2, .int .u64 e3, .int .u32 e4, .int .u32 e5, .int .u32 e6, .int .i64 e7], Value.agg #[.int .i64 e8, .int .u32 e9, .int .u64 ea, .int .i64 eb, .int .i64 ec, .int .u32 ed, .bool ee, .bool ef]] a9.drew fun eg ap => AsAgg eg fun eh => Uiiuviiubb eh fun ei ej ek el em en eo ep er es => UnN es (ce_ ap (at0 a 5) (.int .i64 br) ∧ ce_ ap (at0 a 4) (.bool bq) ∧ ce_ ap (at0 b 11) (.int .i64 bp) ∧ ce_ ap (at0 a 3) (.int .u32 bo) ∧ ce_ ap (at0 m0 2) (.pointer bn) ∧ CallS prog 138 #[.pointer bn, Value.agg #[.int .i64 ei, .int .i64 ej, .int .u32 ek, .int .u64 el, .int .i64 em, .int .i64 en, .int .u32 eo, .bool ep, .bool er], .int .u32 bo, .int .i64 bp, .bool bq, .int .i64 br] ap fun et eu => AsI .i64 et fun px => T71_ eu a c Q)) (T71_ a9 a c Q)) ∧ New b9 #[.int .i64 0, .int .i64 0, .int .i64 0] 87 fun bs aL => ce_ aL (at0 a 3) (.int .u32 t) ∧ (C_12 aL b (.bool f) (.bool g) (.bool h) (.int .i64 i) (.bool j) (.bool k) (.int .u64 l) (.int .u64 m) (.int .u32 n) (.int .u32 o) (.int .u32 p) (.int .i64 r) <| tt aL) ∧ ce_ aL (at0 m0 0) (.pointer e) ∧ New aL #[.int .i64 0, .int .u32 0, .int .u64 0, .int .i64 0, .int .i64 0, .int .u32 0, .bool false, .bool false] 57 fun bt aM => ce_ aM (at0 a 3) (.int .u32 t) ∧ (C_12 aM b (.bool f) (.bool g) (.bool h) (.int .i64 i) (.bool j) (.bool k) (.int .u64 l) (.int .u64 m) (.int .u32 n) (.int .u32 o) (.int .u32 p) (.int .i64 r) <| tt aM) ∧ ce_ aM (at0 m0 0) (.pointer e) ∧ S_8 aM bt (.int .i64 ba) (.int .u32 bb) (.int .u64 bc) (.int .i64 bd) (.int .i64 be) (.int .u32 bf) (.bool bg) (.bool bh) fun ev => S_3 ev bs (.int .i64 bi) (.int .i64 bj) (.int .i64 bk) fun aa => Liii aa bs fun ex ey ez => RunP prog (binSem BinOp.eql 87 (Operand.tmp 84) (Operand.tmp 85) (Value.agg #[.int .i64 ex, .int .i64 ey, .int .i64 ez]) (Value.agg #[.int .i64 0, .int .i64 0, .int .i64 0])) fun eA => AsB eA fun eB => BIf eB (lp_ aa.drew (at0 m0 2) fun bu => Lbbbibbvvuuui aa.drew b fun eC eD eE eF eG eH eI eJ eK eL eM eN => Liuviiubb aa.drew bt fun eO eP eQ eR eS eT eU eV => li_ aa.drew (at0 a 3) .u32 fun bv => li_ aa.drew (at0 b 11) .i64 fun bx => lb_ aa.drew (at0 a 4) fun bz => li_ aa.drew (at0 a 5) .i64 fun bA => CallS prog 139 #[Value.agg #[.bool eC, .bool eD, .bool eE, .int .i64 eF, .bool eG, .bool eH, .int .u64 eI, .int .u64 eJ, .int .u32 eK, .int .u32 eL, .int .u32 eM, .int .i64 eN], Value.agg #[.int .i64 eO, .int .u32 eP, .int .u64 eQ, .int .i64 eR, .int .i64 eS, .int .u32 eT, .bool eU, .bool eV]] aa.drew fun eW aq => AsAgg eW fun eX => Uiiuviiubb eX fun eY eZ f0 f1 f2 f3 f4 f5 f6 f7 => UnN f7 (ce_ aq (at0 a 5) (.int .i64 bA) ∧ ce_ aq (at0 a 4) (.bool bz) ∧ ce_ aq (at0 b 11) (.int .i64 bx) ∧ ce_ aq (at0 a 3) (.int .u32 bv) ∧ ce_ aq (at0 m0 2) (.pointer bu) ∧ CallS prog 138 #[.pointer bu, Value.agg #[.int .i64 eY, .int .i64 eZ, .int .u32 f0, .int .u64 f1, .int .i64 f2, .int .i64 f3, .int .u32 f4, .bool f5, .bool f6], .int .u32 bv, .int .i64 bx, .bool bz, .int .i64 bA] aq fun f8 f9 => AsI .i64 f8 fun py => T71_ f9 a c Q)) (T71_ aa a c Q))))) ∧ (New am.drew #[.int .i64 0, .int .u32 0, .int .u64 0, .int .i64 0, .int .i64 0, .int .u32 0, .bool false, .bool false] 57 fun b5 ar => ce_ ar (at0 a 3) (.int .u32 t) ∧ (C_12 ar b (.bool f) (.bool g) (.bool h) (.int .i64 i) (.bool j) (.bool k) (.int .u64 l) (.int .u64 m) (.int .u32 n) (.int .u32 o) (.int .u32 p) (.int .i64 r) <| tt ar) ∧ ce_ ar (at0 m0 0) (.pointer e) ∧ (CallS prog 137 #[Value.iface 162 (.pointer e), Value.agg #[.bool f, .bool g, .bool h, .int .i64 i, .bool j, .bool k, .int .u64 l, .int .u64 m, .int .u32 n, .int .u32 o, .int .u32 p, .int .i64 r], .int .u32 t] ar fun fa fb => AsTup fa fun fc => UnC fc fun fd fe => AsAgg fd fun ff => Uiuviiubb ff fun fg fh fi fj fk fl fm fn fo => UnN fo (UnC fe fun fp fq => AsAgg fp fun fr => Uiii fr fun fs ft fu fv => UnN fv (UnN fq (New fb #[.int .i64 0, .int .i64 0, .int .i64 0] 87 fun bB aN => ce_ aN (at0 a 3) (.int .u32 t) ∧ (C_12 aN b (.bool f) (.bool g) (.bool h) (.int .i64 i) (.bool j) (.bool k) (.int .u64 l) (.int .u64 m) (.int .u32 n) (.int .u32 o) (.int .u32 p) (.int .i64 r) <| tt aN) ∧ ce_ aN (at0 m0 0) (.pointer e) ∧ S_8 aN b5 (.int .i64 fg) (.int .u32 fh) (.int .u64 fi) (.int .i64 fj) (.int .i64 fk) (.int .u32 fl) (.bool fm) (.bool fn) fun fx => S_3 fx bB (.int .i64 fs) (.int .i64 ft) (.int .i64 fu) fun ab => Liii ab bB fun fy fz fA => RunP prog (binSem BinOp.eql 87 (Operand.tmp 84) (Operand.tmp 85) (Value.agg #[.int .i64 fy, .int .i64 fz, .int .i64 fA]) (Value.agg #[.int .i64 0, .int .i64 0, .int .i64 0])) fun fB => AsB fB fun fC => BIf fC (lp_ ab.drew (at0 m0 2) fun bC => Lbbbibbvvuuui ab.drew b fun fD fE fF fG fH fI fJ fK fL fM fN fO => Liuviiubb ab.drew b5 fun fP fQ fR fS fT fU fV fW => li_ ab.drew (at0 a 3) .u32 fun bD => li_ ab.drew (at0 b 11) .i64 fun bE => lb_ ab.drew (at0 a 4) fun bF => li_ ab.drew (at0 a 5) .i64 fun bG => CallS prog 139 #[Value.agg #[.bool fD, .bool fE, .bool fF, .int .i64 fG, .bool fH, .bool fI, .int .u64 fJ, .int .u64 fK, .int .u32 fL, .int .u32 fM, .int .u32 fN, .int .i64 fO], Value.agg #[.int .i64 fP, .int .u32 fQ, .int .u64 fR, .int .i64 fS, .int .i64 fT, .int .u32 fU, .bool fV, .bool fW]] ab.drew fun fX au => AsAgg fX fun fY => Uiiuviiubb fY fun fZ g0 g1 g2 g3 g4 g5 g6 g7 g8 => UnN g8 (ce_ au (at0 a 5) (.int .i64 bG) ∧ ce_ au (at0 a 4) (.bool bF) ∧ ce_ au (at0 b 11) (.int .i64 bE) ∧ ce_ au (at0 a 3) (.int .u32 bD) ∧ ce_ au (at0 m0 2) (.pointer bC) ∧ CallS prog 138 #[.pointer bC, Value.agg #[.int .i64 fZ, .int .i64 g0, .int .u32 g1, .int .u64 g2, .int .i64 g3, .int .i64 g4, .int .u32 g5, .bool g6, .bool g7], .int .u32 bD, .int .i64 bE, .bool bF, .int .i64 bG] au fun g9 ga => AsI .i64 g9 fun pz => T71_ ga a c Q)) (T71_ ab a c Q))))) ∧ New ar #[.int .i64 0, .int .i64 0, .int .i64 0] 87 fun bH aO => ce_ aO (at0 a 3) (.int .u32 t) ∧ (C_12 aO b (.bool f) (.bool g) (.bool h) (.int .i64 i) (.bool j) (.bool k) (.int .u64 l) (.int .u64 m) (.int .u32 n) (.int .u32 o) (.int .u32 p) (.int .i64 r) <| tt aO) ∧ ce_ aO (at0 m0 0) (.pointer e) ∧ CallS prog 137 #[Value.iface 162 (.pointer e), Value.agg #[.bool f, .bool g, .bool h, .int .i64 i, .bool j, .bool k, .int .u64 l, .int .u64 m, .int .u32 n, .int .u32 o, .int .u32 p, .int .i64 r], .int .u32 t] aO fun gb gc => AsTup gb fun gd => UnC gd fun ge gf => AsAgg ge fun gg => Uiuviiubb gg fun gh gi gj gk gl gm gn go gp => UnN gp (UnC gf fun gq gr => AsAgg gq fun gs => Uiii gs fun gt gu gv gx => UnN gx (UnN gr (S_8 gc b5 (.int .i64 gh) (.int .u32 gi) (.int .u64 gj) (.int .i64 gk) (.int .i64 gl) (.int .u32 gm) (.bool gn) (.bool go) fun gy => S_3 gy bH (.int .i64 gt) (.int .i64 gu) (.int .i64 gv) fun ac => Liii ac bH fun gz gA gB => RunP prog (binSem BinOp.eql 87 (Operand.tmp 84) (Operand.tmp 85) (Value.agg #[.int .i64 gz, .int .i64 gA, .int .i64 gB]) (Value.agg #[.int .i64 0, .int .i64 0, .int .i64 0])) fun gC => AsB gC fun gD => BIf gD (lp_ ac.drew (at0 m0 2) fun bI => Lbbbibbvvuuui ac.drew b fun gE gF gG gH gI gJ gK gL gM gN gO gP => Liuviiubb ac.drew b5 fun gQ gR gS gT gU gV gW gX => li_ ac.drew (at0 a 3) .u32 fun bJ => li_ ac.drew (at0 b 11) .i64 fun bK => lb_ ac.drew (at0 a 4) fun bL => li_ ac.drew (at0 a 5) .i64 fun bM => CallS prog 139 #[Value.agg #[.bool gE, .bool gF, .bool gG, .int .i64 gH, .bool gI, .bool gJ, .int .u64 gK, .int .u64 gL, .int .u32 gM, .int .u32 gN, .int .u32 gO, .int .i64 gP], Value.agg #[.int .i64 gQ, .int .u32 gR, .int .u64 gS, .int .i64 gT, .int .i64 gU, .int .u32 gV, .bool gW, .bool gX]] ac.drew fun gY av => AsAgg gY fun gZ => Uiiuviiubb gZ fun h0 h1 h2 h3 h4 h5 h6 h7 h8 h9 => UnN h9 (ce_ av (at0 a 5) (.int .i64 bM) ∧ ce_ av (at0 a 4) (.bool bL) ∧ ce_ av (at0 b 11) (.int .i64 bK) ∧ ce_ av (at0 a 3) (.int .u32 bJ) ∧ ce_ av (at0 m0 2) (.pointer bI) ∧ CallS prog 138 #[.pointer bI, Value.agg #[.int .i64 h0, .int .i64 h1, .int .u32 h2, .int .u64 h3, .int .i64 h4, .int .i64 h5, .int .u32 h6, .bool h7, .bool h8], .int .u32 bJ, .int .i64 bK, .bool bL, .int .i64 bM] av fun ha hb => AsI .i64 ha fun pA => T71_ hb a c Q)) (T71_ ac a c Q))))) ∧ New am.drew #[.int .i64 0, .int .i64 0, .int .i64 0] 87 fun b6 ax => ce_ ax (at0 a 3) (.int .u32 t) ∧ (C_12 ax b (.bool f) (.bool g) (.bool h) (.int .i64 i) (.bool j) (.bool k) (.int .u64 l) (.int .u64 m) (.int .u32 n) (.int .u32 o) (.int .u32 p) (.int .i64 r) <| tt ax) ∧ ce_ ax (at0 m0 0) (.pointer e) ∧ (CallS prog 137 #[Value.iface 162 (.pointer e), Value.agg #[.bool f, .bool g, .bool h, .int .i64 i, .bool j, .bool k, .int .u64 l, .int .u64 m, .int .u32 n, .int .u32 o, .int .u32 p, .int .i64 r], .int .u32 t] ax fun hc hd => AsTup hc fun he => UnC he fun hf hg => AsAgg hf fun hh => Uiuviiubb hh fun hi hj hk hl hm hn ho hp hq => UnN hq (UnC hg fun hr hs => AsAgg hr fun ht => Uiii ht fun hu hv hx hy => UnN hy (UnN hs (New hd #[.int .i64 0, .int .u32 0, .int .u64 0, .int .i64 0, .int .i64 0, .int .u32 0, .bool false, .bool false] 57 fun bN aP => ce_ aP (at0 a 3) (.int .u32 t) ∧ (C_12 aP b (.bool f) (.bool g) (.bool h) (.int .i64 i) (.bool j) (.bool k) (.int .u64 l) (.int .u64 m) (.int .u32 n) (.int .u32 o) (.int .u32 p) (.int .i64 r) <| tt aP) ∧ ce_ aP (at0 m0 0) (.pointer e) ∧ S_8 aP bN (.int .i64 hi) (.int .u32 hj) (.int .u64 hk) (.int .i64 hl) (.int .i64 hm) (.int .u32 hn) (.bool ho) (.bool hp) fun hz => S_3 hz b6 (.int .i64 hu) (.int .i64 hv) (.int .i64 hx) fun ad => Liii ad b6 fun hA hB hC => RunP prog (binSem BinOp.eql 87 (Operand.tmp 84) (Operand.tmp 85) (Value.agg #[.int .i64 hA, .int .i64 hB, .int .i64 hC]) (Value.agg #[.int .i64 0, .int .i64 0, .int .i64 0])) fun hD => AsB hD fun hE => BIf hE (lp_ ad.drew (at0 m0 2) fun bO => Lbbbibbvvuuui ad.drew b fun hF hG hH hI hJ hK hL hM hN hO hP hQ => Liuviiubb ad.drew bN fun hR hS hT hU hV hW hX hY => li_ ad.drew (at0 a 3) .u32 fun bP => li_ ad.drew (at0 b 11) .i64 fun bQ => lb_ ad.drew (at0 a 4) fun bR => li_ ad.drew (at0 a 5) .i64 fun bS => CallS prog 139 #[Value.agg #[.bool hF, .bool hG, .bool hH, .int .i64 hI, .bool hJ, .bool hK, .int .u64 hL, .int .u64 hM, .int .u32 hN, .int .u32 hO, .int .u32 hP, .int .i64 hQ], Value.agg #[.int .i64 hR, .int .u32 hS, .int .u64 hT, .int .i64 hU, .int .i64 hV, .int .u32 hW, .bool hX, .bool hY]] ad.drew fun hZ ay => AsAgg hZ fun i0 => Uiiuviiubb i0 fun i1 i2 i3 i4 i5 i6 i7 i8 i9 ia => UnN ia (ce_ ay (at0 a 5) (.int .i64 bS) ∧ ce_ ay (at0 a 4) (.bool bR) ∧ ce_ ay (at0 b 11) (.int .i64 bQ) ∧ ce_ ay (at0 a 3) (.int .u32 bP) ∧ ce_ ay (at0 m0 2) (.pointer bO) ∧ CallS prog 138 #[.pointer bO, Value.agg #[.int .i64 i1, .int .i64 i2, .int .u32 i3, .int .u64 i4, .int .i64 i5, .int .i64 i6, .int .u32 i7, .bool i8, .bool i9], .int .u32 bP, .int .i64 bQ, .bool bR, .int .i64 bS] ay fun ib ic => AsI .i64 ib fun pB => T71_ ic a c Q)) (T71_ ad a c Q))))) ∧ New ax #[.int .i64 0, .int .u32 0, .int .u64 0, .int .i64 0, .int .i64 0, .int .u32 0, .bool false, .bool false] 57 fun bT aQ => ce_ aQ (at0 a 3) (.int .u32 t) ∧ (C_12 aQ b (.bool f) (.bool g) (.bool h) (.int .i64 i) (.bool j) (.bool k) (.int .u64 l) (.int .u64 m) (.int .u32 n) (.int .u32 o) (.int .u32 p) (.int .i64 r) <| tt aQ) ∧ ce_ aQ (at0 m0 0) (.pointer e) ∧ CallS prog 137 #[Value.iface 162 (.pointer e), Value.agg #[.bool f, .bool g, .bool h, .int .i64 i, .bool j, .bool k, .int .u64 l, .int .u64 m, .int .u32 n, .int .u32 o, .int .u32 p, .int .i64 r], .int .u32 t] aQ fun ie ig => AsTup ie fun ih => UnC ih fun ii ij => AsAgg ii fun ik => Uiuviiubb ik fun il im io ip iq ir it iu iv => UnN iv (UnC ij fun ix iy => AsAgg ix fun iz => Uiii iz fun iA iB iC iD => UnN iD (UnN iy (S_8 ig bT (.int .i64 il) (.int .u32 im) (.int .u64 io) (.int .i64 ip) (.int .i64 iq) (.int .u32 ir) (.bool it) (.bool iu) fun iE => S_3 iE b6 (.int .i64 iA) (.int .i64 iB) (.int .i64 iC) fun ae => Liii ae b6 fun iF iG iH => RunP prog (binSem BinOp.eql 87 (Operand.tmp 84) (Operand.tmp 85) (Value.agg #[.int .i64 iF, .int .i64 iG, .int .i64 iH]) (Value.agg #[.int .i64 0, .int .i64 0, .int .i64 0])) fun iI => AsB iI fun iJ => BIf iJ (lp_ ae.drew (at0 m0 2) fun bU => Lbbbibbvvuuui ae.drew b fun iK iL iM iN iO iP iQ iR iS iT iU iV => Liuviiubb ae.drew bT fun iW iX iY iZ j0 j1 j2 j3 => li_ ae.drew (at0 a 3) .u32 fun bV => li_ ae.drew (at0 b 11) .i64 fun bW => lb_ ae.drew (at0 a 4) fun bX => li_ ae.drew (at0 a 5) .i64 fun bY => CallS prog 139 #[Value.agg #[.bool iK, .bool iL, .bool iM, .int .i64 iN, .bool iO, .bool iP, .int .u64 iQ, .int .u64 iR, .int .u32 iS, .int .u32 iT, .int .u32 iU, .int .i64 iV], Value.agg #[.int .i64 iW, .int .u32 iX, .int .u64 iY, .int .i64 iZ, .int .i64 j0, .int .u32 j1, .bool j2, .bool j3]] ae.drew fun j4 az => AsAgg j4 fun j5 => Uiiuviiubb j5 fun j6 j7 j8 j9 ja jb jc jd je jf => UnN jf (ce_ az (at0 a 5) (.int .i64 bY) ∧ ce_ az (at0 a 4) (.bool bX) ∧ ce_ az (at0 b 11) (.int .i64 bW) ∧ ce_ az (at0 a 3) (.int .u32 bV) ∧ ce_ az (at0 m0 2) (.pointer bU) ∧ CallS prog 138 #[.pointer bU, Value.agg #[.int .i64 j6, .int .i64 j7, .int .u32 j8, .int .u64 j9, .int .i64 ja, .int .i64 jb, .int .u32 jc, .bool jd, .bool je], .int .u32 bV, .int .i64 bW, .bool bX, .int .i64 bY] az fun jg jh => AsI .i64 jg fun pC => T71_ jh a c Q)) (T71_ ae a c Q))))) (T71_ am a c Q)))) ∧ New d.drew #[.int .i64 0, .int .i64 0, .int .u32 0, .int .u64 0, .int .i64 0, .int .i64 0, .int .u32 0, .bool false, .bool false] 242 fun ji an => ce_ an (at0 a 6) (.bool b4) ∧ ce_ an (at0 a 5) (.int .i64 b3) ∧ ce_ an (at0 a 4) (.bool b2) ∧ ce_ an (at0 b 11) (.int .i64 b1) ∧ ce_ an (at0 a 3) (.int .u32 b0) ∧ ce_ an (at0 m0 2) (.pointer aZ) ∧ CallS prog 136 #[.pointer aZ, .int .u32 b0, .int .i64 b1, .bool b2, .int .i64 b3, .bool b4] an fun jj jk => AsTup jj fun jl => UnC jl fun jm jn => AsAgg jm fun jo => Uiiuviiubb jo fun jp jq jr js jt ju jv jx jy jz => UnN jz (ui_ jn .i64 fun jA jB => UnN jB (S_9 jk ji (.int .i64 jp) (.int .i64 jq) (.int .u32 jr) (.int .u64 js) (.int .i64 jt) (.int .i64 ju) (.int .u32 jv) (.bool jx) (.bool jy) fun ao => BIf (jA == 0) (lp_ ao.drew (at0 m0 0) fun u => Lbbbibbvvuuui ao.drew b fun v x y z a0 a1 a2 a3 a4 a5 a6 a7 => li_ ao.drew (at0 a 3) .u32 fun a8 => (CallS prog 137 #[Value.iface 162 (.pointer u), Value.agg #[.bool v, .bool x, .bool y, .int .i64 z, .bool a0, .bool a1, .int .u64 a2, .int .u64 a3, .int .u32 a4, .int .u32 a5, .int .u32 a6, .int .i64 a7], .int .u32 a8] ao.drew fun jC bZ => AsTup jC fun jD => UnC jD fun jE jF => AsAgg jE fun jG => Uiuviiubb jG fun c0 c1 c2 c3 c4 c5 c6 c7 jH => UnN jH (UnC jF fun jI jJ => AsAgg jI fun jK => Uiii jK fun c8 c9 ca jL => UnN jL (UnN jJ ((New bZ #[.int .i64 0, .int .u32 0, .int .u64 0, .int .i64 0, .int .i64 0, .int .u32 0, .bool false, .bool false] 57 fun cb aR => ce_ aR (at0 a 3) (.int .u32 a8) ∧ (C_12 aR b (.bool v) (.bool x) (.bool y) (.int .i64 z) (.bool a0) (.bool a1) (.int .u64 a2) (.int .u64 a3) (.int .u32 a4) (.int .u32 a5) (.int .u32 a6) (.int .i64 a7) <| tt aR) ∧ ce_ aR (at0 m0 0) (.pointer u) ∧ New aR #[.int .i64 0, .int .i64 0, .int .i64 0] 87 fun cc aS => ce_ aS (at0 a 3) (.int .u32 a8) ∧ (C_12 aS b (.bool v) (.bool x) (.bool y) (.int .i64 z) (.bool a0) (.bool a1) (.int .u64 a2) (.int .u64 a3) (.int .u32 a4) (.int .u32 a5) (.int .u32 a6) (.int .i64 a7) <| tt aS) ∧ ce_ aS (at0 m0 0) (.pointer u) ∧ S_8 aS cb (.int .i64 c0) (.int .u32 c1) (.int .u64 c2) (.int .i64 c3) (.int .i64 c4) (.int .u32 c5) (.bool c6) (.bool c7) fun jM => S_3 jM cc (.int .i64 c8) (.int .i64 c9) (.int .i64 ca) fun af => Liii af cc fun jN jO jP => RunP prog (binSem BinOp.eql 87 (Operand.tmp 84) (Operand.tmp 85) (Value.agg #[.int .i64 jN, .int .i64 jO, .int .i64 jP]) (Value.agg #[.int .i64 0, .int .i64 0, .int .i64 0])) fun jQ => AsB jQ fun jR => BIf jR (lp_ af.drew (at0 m0 2) fun cd => Lbbbibbvvuuui af.drew b fun jS jT jU jV jW jX jY jZ k0 k1 k2 k3 => Liuviiubb af.drew cb fun k4 k5 k6 k7 k8 k9 ka kb => li_ af.drew (at0 a 3) .u32 fun cf => li_ af.drew (at0 b 11) .i64 fun cg => lb_ af.drew (at0 a 4) fun ch => li_ af.drew (at0 a 5) .i64 fun ci => CallS prog 139 #[Value.agg #[.bool jS, .bool jT, .bool jU, .int .i64 jV, .bool jW, .bool jX, .int .u64 jY, .int .u64 jZ, .int .u32 k0, .int .u32 k1, .int .u32 k2, .int .i64 k3], Value.agg #[.int .i64 k4, .int .u32 k5, .int .u64 k6, .int .i64 k7, .int .i64 k8, .int .u32 k9, .bool ka, .bool kb]] af.drew fun kc aA => AsAgg kc fun kd => Uiiuviiubb kd fun ke kf kg kh ki kj kk kl km kn => UnN kn (ce_ aA (at0 a 5) (.int .i64 ci) ∧ ce_ aA (at0 a 4) (.bool ch) ∧ ce_ aA (at0 b 11) (.int .i64 cg) ∧ ce_ aA (at0 a 3) (.int .u32 cf) ∧ ce_ aA (at0 m0 2) (.pointer cd) ∧ CallS prog 138 #[.pointer cd, Value.agg #[.int .i64 ke, .int .i64 kf, .int .u32 kg, .int .u64 kh, .int .i64 ki, .int .i64 kj, .int .u32 kk, .bool kl, .bool km], .int .u32 cf, .int .i64 cg, .bool ch, .int .i64 ci] aA fun ko kp => AsI .i64 ko fun pD => T71_ kp a c Q)) (T71_ af a c Q)) ∧ New bZ #[.int .i64 0, .int .i64 0, .int .i64 0] 87 fun cj aT => ce_ aT (at0 a 3) (.int .u32 a8) ∧ (C_12 aT b (.bool v) (.bool x) (.bool y) (.int .i64 z) (.bool a0) (.bool a1) (.int .u64 a2) (.int .u64 a3) (.int .u32 a4) (.int .u32 a5) (.int .u32 a6) (.int .i64 a7) <| tt aT) ∧ ce_ aT (at0 m0 0) (.pointer u) ∧ New aT #[.int .i64 0, .int .u32 0, .int .u64 0, .int .i64 0, .int .i64 0, .int .u32 0, .bool false, .bool false] 57 fun ck aU => ce_ aU (at0 a 3) (.int .u32 a8) ∧ (C_12 aU b (.bool v) (.bool x) (.bool y) (.int .i64 z) (.bool a0) (.bool a1) (.int .u64 a2) (.int .u64 a3) (.int .u32 a4) (.int .u32 a5) (.int .u32 a6) (.int .i64 a7) <| tt aU) ∧ ce_ aU (at0 m0 0) (.pointer u) ∧ S_8 aU ck (.int .i64 c0) (.int .u32 c1) (.int .u64 c2) (.int .i64 c3) (.int .i64 c4) (.int .u32 c5) (.bool c6) (.bool c7) fun kq => S_3 kq cj (.int .i64 c8) (.int .i64 c9) (.int .i64 ca) fun ag => Liii ag cj fun kr ks kt => RunP prog (binSem BinOp.eql 87 (Operand.tmp 84) (Operand.tmp 85) (Value.agg #[.int .i64 kr, .int .i64 ks, .int .i64 kt]) (Value.agg #[.int .i64 0, .int .i64 0, .int .i64 0])) fun ku => AsB ku fun kv => BIf kv (lp_ ag.drew (at0 m0 2) fun cl => Lbbbibbvvuuui ag.drew b fun kx ky kz kA kB kC kD kE kF kG kH kI => Liuviiubb ag.drew ck fun kJ kK kL kM kN kO kP kQ => li_ ag.drew (at0 a 3) .u32 fun cm => li_ ag.drew (at0 b 11) .i64 fun cn => lb_ ag.drew (at0 a 4) fun co => li_ ag.drew (at0 a 5) .i64 fun cp => CallS prog 139 #[Value.agg #[.bool kx, .bool ky, .bool kz, .int .i64 kA, .bool kB, .bool kC, .int .u64 kD, .int .u64 kE, .int .u32 kF, .int .u32 kG, .int .u32 kH, .int .i64 kI], Value.agg #[.int .i64 kJ, .int .u32 kK, .int .u64 kL, .int .i64 kM, .int .i64 kN, .int .u32 kO, .bool kP, .bool kQ]] ag.drew fun kR aB => AsAgg kR fun kS => Uiiuviiubb kS fun kT kU kV kW kX kY kZ l0 l1 l2 => UnN l2 (ce_ aB (at0 a 5) (.int .i64 cp) ∧ ce_ aB (at0 a 4) (.bool co) ∧ ce_ aB (at0 b 11) (.int .i64 cn) ∧ ce_ aB (at0 a 3) (.int .u32 cm) ∧ ce_ aB (at0 m0 2) (.pointer cl) ∧ CallS prog 138 #[.pointer cl, Value.agg #[.int .i64 kT, .int .i64 kU, .int .u32 kV, .int .u64 kW, .int .i64 kX, .int .i64 kY, .int .u32 kZ, .bool l0, .bool l1], .int .u32 cm, .int .i64 cn, .bool co, .int .i64 cp] aB fun l3 l4 => AsI .i64 l3 fun pE => T71_ l4 a c Q)) (T71_ ag a c Q))))) ∧ (New ao.drew #[.int .i64 0, .int .u32 0, .int .u64 0, .int .i64 0, .int .i64 0, .int .u32 0, .bool false, .bool false] 57 fun b7 aC => ce_ aC (at0 a 3) (.int .u32 a8) ∧ (C_12 aC b (.bool v) (.bool x) (.bool y) (.int .i64 z) (.bool a0) (.bool a1) (.int .u64 a2) (.int .u64 a3) (.int .u32 a4) (.int .u32 a5) (.int .u32 a6) (.int .i64 a7) <| tt aC) ∧ ce_ aC (at0 m0 0) (.pointer u) ∧ (CallS prog 137 #[Value.iface 162 (.pointer u), Value.agg #[.bool v, .bool x, .bool y, .int .i64 z, .bool a0, .bool a1, .int .u64 a2, .int .u64 a3, .int .u32 a4, .int .u32 a5, .int .u32 a6, .int .i64 a7], .int .u32 a8] aC fun l5 l6 => AsTup l5 fun l7 => UnC l7 fun l8 l9 => AsAgg l8 fun la => Uiuviiubb la fun lc ld le lf lg lh lj lk ll => UnN ll (UnC l9 fun lm_ ln => AsAgg lm_ fun lo => Uiii lo fun lq lr lt lu => UnN lu (UnN ln (New l6 #[.int .i64 0, .int .i64 0, .int .i64 0] 87 fun cq aV => ce_ aV (at0 a 3) (.int .u32 a8) ∧ (C_12 aV b (.bool v) (.bool x) (.bool y) (.int .i64 z) (.bool a0) (.bool a1) (.int .u64 a2) (.int .u64 a3) (.int .u32 a4) (.int .u32 a5) (.int .u32 a6) (.int .i64 a7) <| tt aV) ∧ ce_ aV (at0 m0 0) (.pointer u) ∧ S_8 aV b7 (.int .i64 lc) (.int .u32 ld) (.int .u64 le) (.int .i64 lf) (.int .i64 lg) (.int .u32 lh) (.bool lj) (.bool lk) fun lv => S_3 lv cq (.int .i64 lq) (.int .i64 lr) (.int .i64 lt) fun ah => Liii ah cq fun lx ly lz => RunP prog (binSem BinOp.eql 87 (Operand.tmp 84) (Operand.tmp 85) (Value.agg #[.int .i64 lx, .int .i64 ly, .int .i64 lz]) (Value.agg #[.int .i64 0, .int .i64 0, .int .i64 0])) fun lA => AsB lA fun lB => BIf lB (lp_ ah.drew (at0 m0 2) fun cr => Lbbbibbvvuuui ah.drew b fun lC lD lE lF lG lH lI lJ lK lL lM lN => Liuviiubb ah.drew b7 fun lO lP lQ lR lS lT lU lV => li_ ah.drew (at0 a 3) .u32 fun cs => li_ ah.drew (at0 b 11) .i64 fun ct => lb_ ah.drew (at0 a 4) fun cu => li_ ah.drew (at0 a 5) .i64 fun cv => CallS prog 139 #[Value.agg #[.bool lC, .bool lD, .bool lE, .int .i64 lF, .bool lG, .bool lH, .int .u64 lI, .int .u64 lJ, .int .u32 lK, .int .u32 lL, .int .u32 lM, .int .i64 lN], Value.agg #[.int .i64 lO, .int .u32 lP, .int .u64 lQ, .int .i64 lR, .int .i64 lS, .int .u32 lT, .bool lU, .bool lV]] ah.drew fun lW aD => AsAgg lW fun lX => Uiiuviiubb lX fun lY lZ m1 m2 m3 m4 m5 m6 m7 m8 => UnN m8 (ce_ aD (at0 a 5) (.int .i64 cv) ∧ ce_ aD (at0 a 4) (.bool cu) ∧ ce_ aD (at0 b 11) (.int .i64 ct) ∧ ce_ aD (at0 a 3) (.int .u32 cs) ∧ ce_ aD (at0 m0 2) (.pointer cr) ∧ CallS prog 138 #[.pointer cr, Value.agg #[.int .i64 lY, .int .i64 lZ, .int .u32 m1, .int .u64 m2, .int .i64 m3, .int .i64 m4, .int .u32 m5, .bool m6, .bool m7], .int .u32 cs, .int .i64 ct, .bool cu, .int .i64 cv] aD fun m9 ma => AsI .i64 m9 fun pF => T71_ ma a c Q)) (T71_ ah a c Q))))) ∧ New aC #[.int .i64 0, .int .i64 0, .int .i64 0] 87 fun cx aW => ce_ aW (at0 a 3) (.int .u32 a8) ∧ (C_12 aW b (.bool v) (.bool x) (.bool y) (.int .i64 z) (.bool a0) (.bool a1) (.int .u64 a2) (.int .u64 a3) (.int .u32 a4) (.int .u32 a5) (.int .u32 a6) (.int .i64 a7) <| tt aW) ∧ ce_ aW (at0 m0 0) (.pointer u) ∧ CallS prog 137 #[Value.iface 162 (.pointer u), Value.agg #[.bool v, .bool x, .bool y, .int .i64 z, .bool a0, .bool a1, .int .u64 a2, .int .u64 a3, .int .u32 a4, .int .u32 a5, .int .u32 a6, .int .i64 a7], .int .u32 a8] aW fun mb mc => AsTup mb fun md => UnC md fun me mf => AsAgg me fun mg => Uiuviiubb mg fun mh mi mj mk ml mm mn mo mp => UnN mp (UnC mf fun mq mr => AsAgg mq fun ms => Uiii ms fun mt mu mv mx => UnN mx (UnN mr (S_8 mc b7 (.int .i64 mh) (.int .u32 mi) (.int .u64 mj) (.int .i64 mk) (.int .i64 ml) (.int .u32 mm) (.bool mn) (.bool mo) fun my => S_3 my cx (.int .i64 mt) (.int .i64 mu) (.int .i64 mv) fun ai => Liii ai cx fun mz mA mB => RunP prog (binSem BinOp.eql 87 (Operand.tmp 84) (Operand.tmp 85) (Value.agg #[.int .i64 mz, .int .i64 mA, .int .i64 mB]) (Value.agg #[.int .i64 0, .int .i64 0, .int .i64 0])) fun mC => AsB mC fun mD => BIf mD (lp_ ai.drew (at0 m0 2) fun cy => Lbbbibbvvuuui ai.drew b fun mE mF mG mH mI mJ mK mL mM mN mO mP => Liuviiubb ai.drew b7 fun mQ mR mS mT mU mV mW mX => li_ ai.drew (at0 a 3) .u32 fun cz => li_ ai.drew (at0 b 11) .i64 fun cA => lb_ ai.drew (at0 a 4) fun cB => li_ ai.drew (at0 a 5) .i64 fun cC => CallS prog 139 #[Value.agg #[.bool mE, .bool mF, .bool mG, .int .i64 mH, .bool mI, .bool mJ, .int .u64 mK, .int .u64 mL, .int .u32 mM, .int .u32 mN, .int .u32 mO, .int .i64 mP], Value.agg #[.int .i64 mQ, .int .u32 mR, .int .u64 mS, .int .i64 mT, .int .i64 mU, .int .u32 mV, .bool mW, .bool mX]] ai.drew fun mY aE => AsAgg mY fun mZ => Uiiuviiubb mZ fun n0 n1 n2 n3 n4 n5 n6 n7 n8 n9 => UnN n9 (ce_ aE (at0 a 5) (.int .i64 cC) ∧ ce_ aE (at0 a 4) (.bool cB) ∧ ce_ aE (at0 b 11) (.int .i64 cA) ∧ ce_ aE (at0 a 3) (.int .u32 cz) ∧ ce_ aE (at0 m0 2) (.pointer cy) ∧ CallS prog 138 #[.pointer cy, Value.agg #[.int .i64 n0, .int .i64 n1, .int .u32 n2, .int .u64 n3, .int .i64 n4, .int .i64 n5, .int .u32 n6, .bool n7, .bool n8], .int .u32 cz, .int .i64 cA, .bool cB, .int .i64 cC] aE fun na nb => AsI .i64 na fun pG => T71_ nb a c Q)) (T71_ ai a c Q))))) ∧ New ao.drew #[.int .i64 0, .int .i64 0, .int .i64 0] 87 fun b8 aF => ce_ aF (at0 a 3) (.int .u32 a8) ∧ (C_12 aF b (.bool v) (.bool x) (.bool y) (.int .i64 z) (.bool a0) (.bool a1) (.int .u64 a2) (.int .u64 a3) (.int .u32 a4) (.int .u32 a5) (.int .u32 a6) (.int .i64 a7) <| tt aF) ∧ ce_ aF (at0 m0 0) (.pointer u) ∧ (CallS prog 137 #[Value.iface 162 (.pointer u), Value.agg #[.bool v, .bool x, .bool y, .int .i64 z, .bool a0, .bool a1, .int .u64 a2, .int .u64 a3, .int .u32 a4, .int .u32 a5, .int .u32 a6, .int .i64 a7], .int .u32 a8] aF fun nc nd => AsTup nc fun nf => UnC nf fun ng nh => AsAgg ng fun ni => Uiuviiubb ni fun nj nk nl nm nn np nq nr ns => UnN ns (UnC nh fun nt nu => AsAgg nt fun nv => Uiii nv fun nx ny nz nA => UnN nA (UnN nu (New nd #[.int .i64 0, .int .u32 0, .int .u64 0, .int .i64 0, .int .i64 0, .int .u32 0, .bool false, .bool false] 57 fun cD aX => ce_ aX (at0 a 3) (.int .u32 a8) ∧ (C_12 aX b (.bool v) (.bool x) (.bool y) (.int .i64 z) (.bool a0) (.bool a1) (.int .u64 a2) (.int .u64 a3) (.int .u32 a4) (.int .u32 a5) (.int .u32 a6) (.int .i64 a7) <| tt aX) ∧ ce_ aX (at0 m0 0) (.pointer u) ∧ S_8 aX cD (.int .i64 nj) (.int .u32 nk) (.int .u64 nl) (.int .i64 nm) (.int .i64 nn) (.int .u32 np) (.bool nq) (.bool nr) fun nB => S_3 nB b8 (.int .i64 nx) (.int .i64 ny) (.int .i64 nz) fun aj => Liii aj b8 fun nC nD nE => RunP prog (binSem BinOp.eql 87 (Operand.tmp 84) (Operand.tmp 85) (Value.agg #[.int .i64 nC, .int .i64 nD, .int .i64 nE]) (Value.agg #[.int .i64 0, .int .i64 0, .int .i64 0])) fun nF => AsB nF fun nG => BIf nG (lp_ aj.drew (at0 m0 2) fun cE => Lbbbibbvvuuui aj.drew b fun nH nI nJ nK nL nM nN nO nP nQ nR nS => Liuviiubb aj.drew cD fun nT nU nV nW nX nY nZ o0 => li_ aj.drew (at0 a 3) .u32 fun cF => li_ aj.drew (at0 b 11) .i64 fun cG => lb_ aj.drew (at0 a 4) fun cH => li_ aj.drew (at0 a 5) .i64 fun cI => CallS prog 139 #[Value.agg #[.bool nH, .bool nI, .bool nJ, .int .i64 nK, .bool nL, .bool nM, .int .u64 nN, .int .u64 nO, .int .u32 nP, .int .u32 nQ, .int .u32 nR, .int .i64 nS], Value.agg #[.int .i64 nT, .int .u32 nU, .int .u64 nV, .int .i64 nW, .int .i64 nX, .int .u32 nY, .bool nZ, .bool o0]] aj.drew fun o1 aG => AsAgg o1 fun o2 => Uiiuviiubb o2 fun o3 o4 o5 o6 o7 o8 o9 oa ob oc => UnN oc (ce_ aG (at0 a 5) (.int .i64 cI) ∧ ce_ aG (at0 a 4) (.bool cH) ∧ ce_ aG (at0 b 11) (.int .i64 cG) ∧ ce_ aG (at0 a 3) (.int .u32 cF) ∧ ce_ aG (at0 m0 2) (.pointer cE) ∧ CallS prog 138 #[.pointer cE, Value.agg #[.int .i64 o3, .int .i64 o4, .int .u32 o5, .int .u64 o6, .int .i64 o7, .int .i64 o8, .int .u32 o9, .bool oa, .bool ob], .int .u32 cF, .int .i64 cG, .bool cH, .int .i64 cI] aG fun od oe => AsI .i64 od fun pH => T71_ oe a c Q)) (T71_ aj a c Q))))) ∧ New aF #[.int .i64 0, .int .u32 0, .int .u64 0, .int .i64 0, .int .i64 0, .int .u32 0, .bool false, .bool false] 57 fun cJ aY => ce_ aY (at0 a 3) (.int .u32 a8) ∧ (C_12 aY b (.bool v) (.bool x) (.bool y) (.int .i64 z) (.bool a0) (.bool a1) (.int .u64 a2) (.int .u64 a3) (.int .u32 a4) (.int .u32 a5) (.int .u32 a6) (.int .i64 a7) <| tt aY) ∧ ce_ aY (at0 m0 0) (.pointer u) ∧ CallS prog 137 #[Value.iface 162 (.pointer u), Value.agg #[.bool v, .bool x, .bool y, .int .i64 z, .bool a0, .bool a1, .int .u64 a2, .int .u64 a3, .int .u32 a4, .int .u32 a5, .int .u32 a6, .int .i64 a7], .int .u32 a8] aY fun og oh => AsTup og fun oi => UnC oi fun oj ok => AsAgg oj fun ol => Uiuviiubb ol fun om on oo op oq os ot ou ov => UnN ov (UnC ok fun ox oy => AsAgg ox fun oz => Uiii oz fun oA oB oC oD => UnN oD (UnN oy (S_8 oh cJ (.int .i64 om) (.int .u32 on) (.int .u64 oo) (.int .i64 op) (.int .i64 oq) (.int .u32 os) (.bool ot) (.bool ou) fun oE => S_3 oE b8 (.int .i64 oA) (.int .i64 oB) (.int .i64 oC) fun ak => Liii ak b8 fun oF oG oH => RunP prog (binSem BinOp.eql 87 (Operand.tmp 84) (Operand.tmp 85) (Value.agg #[.int .i64 oF, .int .i64 oG, .int .i64 oH]) (Value.agg #[.int .i64 0, .int .i64 0, .int .i64 0])) fun oI => AsB oI fun oJ => BIf oJ (lp_ ak.drew (at0 m0 2) fun cK => Lbbbibbvvuuui ak.drew b fun oK oL oM oN oO oP oQ oR oS oT oU oV => Liuviiubb ak.drew cJ fun oW oX oY oZ p0 p1 p2 p3 => li_ ak.drew (at0 a 3) .u32 fun cL => li_ ak.drew (at0 b 11) .i64 fun cM => lb_ ak.drew (at0 a 4) fun cN => li_ ak.drew (at0 a 5) .i64 fun cO => CallS prog 139 #[Value.agg #[.bool oK, .bool oL, .bool oM, .int .i64 oN, .bool oO, .bool oP, .int .u64 oQ, .int .u64 oR, .int .u32 oS, .int .u32 oT, .int .u32 oU, .int .i64 oV], Value.agg #[.int .i64 oW, .int .u32 oX, .int .u64 oY, .int .i64 oZ, .int .i64 p0, .int .u32 p1, .bool p2, .bool p3]] ak.drew fun p4 aH => AsAgg p4 fun p5 => Uiiuviiubb p5 fun p6 p7 p8 p9 pa pb pc pd pe pf => UnN pf (ce_ aH (at0 a 5) (.int .i64 cO) ∧ ce_ aH (at0 a 4) (.bool cN) ∧ ce_ aH (at0 b 11) (.int .i64 cM) ∧ ce_ aH (at0 a 3) (.int .u32 cL) ∧ ce_ aH (at0 m0 2) (.pointer cK) ∧ CallS prog 138 #[.pointer cK, Value.agg #[.int .i64 p6, .int .i64 p7, .int .u32 p8, .int .u64 p9, .int .i64 pa, .int .i64 pb, .int .u32 pc, .bool pd, .bool pe], .int .u32 cL, .int .i64 cM, .bool cN, .int .i64 cO] aH fun pg ph => AsI .i64 pg fun pI => T71_ ph a c Q)) (T71_ ak a c Q))))) (T71_ ao a c Q)))) (T71_ d a c Q)) (T71_ d a c Q))))) fun cP => ls_ aI (at0 m0 4) fun pJ pi pK => BIf (decide ((↑pi : Int) > 0)) (ls_ aI (at0 m0 4) fun pj pk pL => NilP pj fun pl => (0 : Int) ≤ 0 ∧ (0 : Int) < (↑pk : Int) ∧ Liiiubib aI (at0 pl 0) fun pm pn po pp pq pr ps => S_7 aI a (.int .i64 pm) (.int .i64 pn) (.int .i64 po) (.int .u32 pp) (.bool pq) (.int .i64 pr) (.bool ps) fun cQ => ls_ cQ (at0 m0 4) fun pt cR cS => (0 : Int) ≤ 1 ∧ (1 : Int) ≤ (↑cR : Int) ∧ St cQ (at0 m0 4) (Value.slice (slAddr pt (1 : Nat) cS (7 : Nat)) (cR - (1 : Nat)) (cS - (1 : Nat))) fun pu => cP [] pu) (cP [] aI)
theorem F71_of (m0 : Addr) (w : World) (Q : KQ) (h : F71 m0 w Q) : Ret prog 71 #[.pointer (some m0)] w Q := co Tryz.func71 (by kernel_rfl) h
def F78 (m0 : Addr) (kind1 addr2 value3 : Int) (w : World) (Q : KQ) : Prop :=
  lp_ w.drew (at0 m0 3) fun f => lp_ w.drew (at0 m0 0) fun g => CallS prog 134 #[.pointer (some m0)] w.drew fun j b => AsAgg j fun k => Ubbbibbvvuuui k fun l m n o p r t u v x y z a0 => UnN a0 (ce_ b (at0 m0 0) (.pointer g) ∧ ce_ b (at0 m0 3) (.pointer f) ∧ CallS prog 146 #[.pointer f, Value.iface 162 (.pointer g), Value.agg #[.bool l, .bool m, .bool n, .int .i64 o, .bool p, .bool r, .int .u64 t, .int .u64 u, .int .u32 v, .int .u32 x, .int .u32 y, .int .i64 z]] b fun a1 a => AsI .i64 a1 fun ah => ls_ a (at0 m0 5) fun ai a2 aj => BIf (decide ((↑a2 : Int) ≥ 65536)) (Q (Value.tuple #[]) a) (ls_ a.drew (at0 m0 5) fun c d e => lp_ a.drew (at0 m0 3) fun a3 => lp_ a.drew (at0 m0 0) fun a4 => CallS prog 147 #[.pointer a3, Value.iface 162 (.pointer a4)] a.drew fun a5 h => AsSl a5 fun ak a6 al => ce_ h (at0 m0 5) (Value.slice c d e) ∧ RunV prog (Instr.buildSlice 78 1 #[(0, Value.agg #[.int .i64 kind1, .int .u64 addr2, .int .u32 value3, .int .i64 (↑a6 : Int)])]) h fun a7 i => AsSl a7 fun a8 a9 aa => ce_ i (at0 m0 5) (Value.slice c d e) ∧ RunV prog (Builtin.append_ #[(78 : Nat), (78 : Nat)] (78 : Nat) #[Value.slice c d e, Value.slice a8 a9 aa]) i fun ab ac => AsSl ab fun ad ae af => St ac (at0 m0 5) (Value.slice ad ae af) fun ag => Q (Value.tuple #[]) ag))
theorem F78_of (m0 : Addr) (kind1 addr2 value3 : Int) (w : World) (Q : KQ) (h : F78 m0 kind1 addr2 value3 w Q) : Ret prog 78 #[.pointer (some m0), .int .i64 kind1, .int .u64 addr2, .int .u32 value3] w Q := co Tryz.func78 (by kernel_rfl) h
def F80 (m0 : Addr) (t1c0 t1c1 t1c2 t1c3 v2 : Int) (user3 : Bool) (w : World) (Q : KQ) : Prop :=
  New w #[.int .i64 t1c0, .int .i64 t1c1, .int .i64 t1c2, .int .i64 t1c3] 188 fun a u => Liiii u a fun a6 a7 a8 a9 => CallS prog 148 #[Value.agg #[.int .i64 a6, .int .i64 a7, .int .i64 a8, .int .i64 a9], .bool user3] u fun aa v => AsI .i64 aa fun x => BIf (x != 0) (Q (.int .i64 x) v) (CallS prog 71 #[.pointer (some m0)] v fun ab ac => AsAgg ab fun ad => Uiiiubib ad fun ae af ag ah ai aj ak al => UnN al (New ac #[.int .i64 0, .int .i64 0, .int .i64 0, .int .u32 0, .bool false, .int .i64 0, .bool false] 172 fun p am => S_7 am p (.int .i64 ae) (.int .i64 af) (.int .i64 ag) (.int .u32 ah) (.bool ai) (.int .i64 aj) (.bool ak) fun f => lp_ f.drew (at0 m0 1) fun g => Liiii f.drew a fun h i j k => (CallS prog 149 #[.pointer g, Value.agg #[.int .i64 h, .int .i64 i, .int .i64 j, .int .i64 k], .bool !user3, .int .u32 v2] f.drew fun an ao => AsTup an fun ap => UnC ap fun aq ar => AsAgg aq fun au => Uiiuiubb au fun av ax ay az aA aB aC aD => UnN aD (ui_ ar .i64 fun cn aE => UnN aE (New ao #[.int .i64 0, .int .i64 0, .int .u32 0, .int .i64 0, .int .u32 0, .bool false, .bool false] 264 fun d l => (C_4 l a (.int .i64 h) (.int .i64 i) (.int .i64 j) (.int .i64 k) <| tt l) ∧ ce_ l (at0 m0 1) (.pointer g) ∧ S_7 l d (.int .i64 av) (.int .i64 ax) (.int .u32 ay) (.int .i64 az) (.int .u32 aA) (.bool aB) (.bool aC) fun b => li_ b (at0 d 0) .i64 fun y => BIf (y == 2) (lp_ b.drew (at0 m0 2) fun aF => Liui b.drew (at0 d 1) fun aG aH aI => CallS prog 150 #[.pointer aF, Value.agg #[.int .i64 aG, .int .u32 aH, .int .i64 aI]] b.drew fun aJ r => AsI .i64 aJ fun co => lp_ r.drew (at0 m0 3) fun aK => Liui r.drew (at0 d 1) fun aL aM aN => CallS prog 151 #[.pointer aK, Value.agg #[.int .i64 aL, .int .u32 aM, .int .i64 aN]] r.drew fun aO m => AsI .i64 aO fun cp => li_ m (at0 (at0 d 1) 0) .i64 fun aP => li_ m (at0 (at0 d 1) 1) .u32 fun aQ => li_ m (at0 (at0 d 1) 2) .i64 fun aR => CallS prog 78 #[.pointer (some m0), .int .i64 3, .int .u64 (IntKind.u64.wrap aP), .int .u32 (IntKind.u32.wrap (aQ + IntKind.u32.wrap aR))] m fun aS aT => AsTup aS fun aU => UnN aU (Q (.int .i64 0) aT)) (BIf (y == 3) (Liiuiubb b d fun aV aW aX aY aZ b0 b1 => Liiiubib b p fun b2 b3 b4 b5 b6 b7 b8 => CallS prog 152 #[.pointer (some m0), Value.agg #[.int .i64 aV, .int .i64 aW, .int .u32 aX, .int .i64 aY, .int .u32 aZ, .bool b0, .bool b1], Value.agg #[.int .i64 b2, .int .i64 b3, .int .i64 b4, .int .u32 b5, .bool b6, .int .i64 b7, .bool b8]] b fun b9 z => AsI .u32 b9 fun a0 => lp_ z (at0 m0 1) fun ba => CallS prog 145 #[.pointer ba, .int .i64 9, .int .u32 a0] z fun bb a1 => AsI .i64 bb fun cq => li_ a1 (at0 d 4) .u32 fun bc => CallS prog 78 #[.pointer (some m0), .int .i64 6, .int .u64 (IntKind.u64.wrap bc), .int .u32 a0] a1 fun bd be => AsTup bd fun bf => UnN bf (Q (.int .i64 0) be)) (li_ b (at0 a 0) .i64 fun bg => li_ b (at0 a 1) .i64 fun bh => li_ b (at0 a 2) .i64 fun bi => li_ b (at0 a 3) .i64 fun bj => CallS prog 78 #[.pointer (some m0), .int .i64 2, .int .u64 (IntKind.u64.wrap (IntKind.i64.wrap (IntKind.i64.wrap (IntKind.i64.wrap (IntKind.i64.wrap ((4096 : Int) * bg) + IntKind.i64.wrap ((256 : Int) * bh)) + IntKind.i64.wrap ((16 : Int) * bi)) + bj))), .int .u32 v2] b fun bk bl => AsTup bk fun bm => UnN bm (Q (.int .i64 0) bl)))))) ∧ New f.drew #[.int .i64 0, .int .i64 0, .int .u32 0, .int .i64 0, .int .u32 0, .bool false, .bool false] 264 fun e n => (C_4 n a (.int .i64 h) (.int .i64 i) (.int .i64 j) (.int .i64 k) <| tt n) ∧ ce_ n (at0 m0 1) (.pointer g) ∧ CallS prog 149 #[.pointer g, Value.agg #[.int .i64 h, .int .i64 i, .int .i64 j, .int .i64 k], .bool !user3, .int .u32 v2] n fun bn bo => AsTup bn fun bp => UnC bp fun bq br => AsAgg bq fun bs => Uiiuiubb bs fun bt bu bv bx bz bA bB bC => UnN bC (ui_ br .i64 fun cr bD => UnN bD (S_7 bo e (.int .i64 bt) (.int .i64 bu) (.int .u32 bv) (.int .i64 bx) (.int .u32 bz) (.bool bA) (.bool bB) fun c => li_ c (at0 e 0) .i64 fun a2 => BIf (a2 == 2) (lp_ c.drew (at0 m0 2) fun bE => Liui c.drew (at0 e 1) fun bF bG bH => CallS prog 150 #[.pointer bE, Value.agg #[.int .i64 bF, .int .u32 bG, .int .i64 bH]] c.drew fun bI t => AsI .i64 bI fun cs => lp_ t.drew (at0 m0 3) fun bJ => Liui t.drew (at0 e 1) fun bK bL bM => CallS prog 151 #[.pointer bJ, Value.agg #[.int .i64 bK, .int .u32 bL, .int .i64 bM]] t.drew fun bN o => AsI .i64 bN fun ct => li_ o (at0 (at0 e 1) 0) .i64 fun bO => li_ o (at0 (at0 e 1) 1) .u32 fun bP => li_ o (at0 (at0 e 1) 2) .i64 fun bQ => CallS prog 78 #[.pointer (some m0), .int .i64 3, .int .u64 (IntKind.u64.wrap bO), .int .u32 (IntKind.u32.wrap (bP + IntKind.u32.wrap bQ))] o fun bR bS => AsTup bR fun bT => UnN bT (Q (.int .i64 0) bS)) (BIf (a2 == 3) (Liiuiubb c e fun bU bV bW bX bY bZ c0 => Liiiubib c p fun c1 c2 c3 c4 c5 c6 c7 => CallS prog 152 #[.pointer (some m0), Value.agg #[.int .i64 bU, .int .i64 bV, .int .u32 bW, .int .i64 bX, .int .u32 bY, .bool bZ, .bool c0], Value.agg #[.int .i64 c1, .int .i64 c2, .int .i64 c3, .int .u32 c4, .bool c5, .int .i64 c6, .bool c7]] c fun c8 a3 => AsI .u32 c8 fun a4 => lp_ a3 (at0 m0 1) fun c9 => CallS prog 145 #[.pointer c9, .int .i64 9, .int .u32 a4] a3 fun ca a5 => AsI .i64 ca fun cu => li_ a5 (at0 e 4) .u32 fun cb => CallS prog 78 #[.pointer (some m0), .int .i64 6, .int .u64 (IntKind.u64.wrap cb), .int .u32 a4] a5 fun cc cd => AsTup cc fun cf => UnN cf (Q (.int .i64 0) cd)) (li_ c (at0 a 0) .i64 fun cg => li_ c (at0 a 1) .i64 fun ch => li_ c (at0 a 2) .i64 fun ci => li_ c (at0 a 3) .i64 fun cj => CallS prog 78 #[.pointer (some m0), .int .i64 2, .int .u64 (IntKind.u64.wrap (IntKind.i64.wrap (IntKind.i64.wrap (IntKind.i64.wrap (IntKind.i64.wrap ((4096 : Int) * cg) + IntKind.i64.wrap ((256 : Int) * ch)) + IntKind.i64.wrap ((16 : Int) * ci)) + cj))), .int .u32 v2] c fun ck cl => AsTup ck fun cm => UnN cm (Q (.int .i64 0) cl)))))))
theorem F80_of (m0 : Addr) (t1c0 t1c1 t1c2 t1c3 v2 : Int) (user3 : Bool) (w : World) (Q : KQ) (h : F80 m0 t1c0 t1c1 t1c2 t1c3 v2 user3 w Q) : Ret prog 80 #[.pointer (some m0), .agg #[.int .i64 t1c0, .int .i64 t1c1, .int .i64 t1c2, .int .i64 t1c3], .int .u32 v2, .bool user3] w Q := co Tryz.func80 (by kernel_rfl) h
def F86 (m0 : Addr) (w : World) (Q : KQ) : Prop :=
  lp_ w (at0 m0 0) fun a => CallS prog 156 #[.pointer a] w fun b c => AsI .i64 b fun d => Q (.int .i64 d) c
theorem F86_of (m0 : Addr) (w : World) (Q : KQ) (h : F86 m0 w Q) : Ret prog 86 #[.pointer (some m0)] w Q := co Tryz.func86 (by kernel_rfl) h
def F123 (m0 : Addr) (frame1 count2 : Int) (w : World) (Q : KQ) : Prop :=
  BIf (decide (frame1 ≥ 0)) (CallS prog 86 #[.pointer (some m0)] w fun b a => AsI .i64 b fun c => BIf (decide (frame1 < c)) (CallS prog 86 #[.pointer (some m0)] a fun d e => AsI .i64 d fun f => Q (.bool (decide (count2 ≤ IntKind.i64.wrap (f - frame1)))) e) (Q (.bool false) a)) (Q (.bool false) w)
theorem F123_of (m0 : Addr) (frame1 count2 : Int) (w : World) (Q : KQ) (h : F123 m0 frame1 count2 w Q) : Ret prog 123 #[.pointer (some m0), .int .i64 frame1, .int .i64 count2] w Q := co Tryz.func123 (by kernel_rfl) h
def F127 (m0 : Addr) (pa1 v2 : Int) (w : World) (Q : KQ) : Prop :=
  lp_ w (at0 m0 0) fun d => CallS prog 81 #[.pointer d, .int .u64 pa1] w fun e a => AsTup e fun f => Uui f fun r b g => UnN g (BIf (b != 0) (Q (.int .i64 b) a) (CallS prog 71 #[.pointer (some m0)] a fun h c => AsAgg h fun i => Uiiiubib i fun t u v x y z a0 j => UnN j (lp_ c (at0 m0 0) fun k => CallS prog 184 #[.pointer k, .int .u64 pa1, .int .u32 v2] c fun l m => AsI .i64 l fun a1 => CallS prog 78 #[.pointer (some m0), .int .i64 1, .int .u64 pa1, .int .u32 v2] m fun n o => AsTup n fun p => UnN p (Q (.int .i64 0) o))))
theorem F127_of (m0 : Addr) (pa1 v2 : Int) (w : World) (Q : KQ) (h : F127 m0 pa1 v2 w Q) : Ret prog 127 #[.pointer (some m0), .int .u64 pa1, .int .u32 v2] w Q := co Tryz.func127 (by kernel_rfl) h
def F134 (m0 : Addr) (w : World) (Q : KQ) : Prop :=
  New w #[.bool false, .bool false, .bool false, .int .i64 0, .bool false, .bool false, .int .u64 0, .int .u64 0, .int .u32 0, .int .u32 0, .int .u32 0, .int .i64 0] 52 fun a b => lp_ b (at0 m0 1) fun d => CallS prog 186 #[.pointer d] b fun e f => AsAgg e fun g => Ubbbibbvvuuui g fun h i j k l m n o p r t u v => UnN v (S_12 f a (.bool h) (.bool i) (.bool j) (.int .i64 k) (.bool l) (.bool m) (.int .u64 n) (.int .u64 o) (.int .u32 p) (.int .u32 r) (.int .u32 t) (.int .i64 u) fun c => Lbbbibbvvuuui c a fun x y z a0 a1 a2 a3 a4 a5 a6 a7 a8 => Q (Value.agg #[.bool x, .bool y, .bool z, .int .i64 a0, .bool a1, .bool a2, .int .u64 a3, .int .u64 a4, .int .u32 a5, .int .u32 a6, .int .u32 a7, .int .i64 a8]) c)
theorem F134_of (m0 : Addr) (w : World) (Q : KQ) (h : F134 m0 w Q) : Ret prog 134 #[.pointer (some m0)] w Q := co Tryz.func134 (by kernel_rfl) h
end Go.Proofs.YtmgjicnipgdjhaaGreatDoor
namespace Go.Sh
variable {P : Program}
theorem makeN_sl {t e : TypeId} {z : Value} {size bytes : Nat} (E : ElemT P t e z size bytes) {w : World} {K : Value → World → Prop} (n : Nat) (hc : n ≤ maxLen) (hbytes : bytes * n ≤ 281474976710656)
    (k : ∀ w', Has w' w.heap.size (madeCells z.cells (n * size)).toList → Fr0 w w' → w'.heap.size = w.heap.size + 1 → K (.slice (some ⟨w.heap.size, 0, none⟩) n n) w') :
    RunV P (Instr.makeSlice t (.int .i64 (n : Int)) (.int .i64 (n : Int))) w K := by
  have hi := E.info
  cases hinf : P.info? e with
  | none => rw [hinf] at hi; cases hi
  | some i =>
    rw [hinf] at hi
    simp only [Option.map_some, Option.some.injEq, Prod.mk.injEq] at hi
    obtain ⟨hz, hs, hb⟩ := hi
    have hr := run_make w t e i z E.und hinf hz .i64 .i64 n n (by omega) (Int.le_refl _) (by
      rw [hb]
      have h : ((bytes * n : Nat) : Int) ≤ 281474976710656 := by omega
      rwa [Int.natCast_mul] at h) (by simp only [maxLen] at hc; omega)
    simp only [Int.toNat_natCast, hs] at hr
    exact ⟨_, _, hr, k _ (Has.made w _ e) (Fr.made w _) (by simp)⟩
theorem madeCells_get {z : Array Value} {n i : Nat} (h : i < n) : (madeCells z n).toList[i]? = some z[i % z.size]! := by
  simp [madeCells, h]
theorem Fr.new {w w1 w2 : World} {b : Nat} (h : Fr0 w w1) (k : Fr (· = b) w1 w2) (hb : w.heap.size ≤ b) : Fr0 w w2 :=
  ((h.mono (S' := fun x => w.heap.size ≤ x) fun _ _ h => h.elim).trans (k.mono fun x _ h => by have : x = b := h; show w.heap.size ≤ x; omega)).mono fun x hx h => by have : w.heap.size ≤ x := h; omega
end Go.Sh
set_option maxRecDepth 10000
namespace Go.Proofs.YtmgjicnipgdjhaaGreatDoor
open Go Go.Sh
def slotZ : Array Value := #[.bool false, .int .i64 0, .int .i64 0, .int .u32 0, .int .u64 0, .int .i64 0, .int .i64 0, .int .u32 0, .bool false, .bool false]
def slots (n : Nat) : List Value := (madeCells slotZ (n * 10)).toList
theorem E348 : ElemT prog 348 379 (.agg slotZ) 10 64 := ⟨by kernel_rfl, by kernel_rfl, rfl, by decide⟩
theorem slots_get {n i j : Nat} (hi : i < n) (hj : j < 10) : (slots n)[i * 10 + j]? = some slotZ[j]! := by
  unfold slots
  rw [madeCells_get (by omega)]
  have : (i * 10 + j) % slotZ.size = j := by
    show (i * 10 + j) % 10 = j; omega
  rw [this]
structure TlbAt (w : World) (t s n : Nat) : Prop where
  st : Has w t [.slice (some ⟨s, 0, none⟩) n n]
  sl : Has w s (slots n)
theorem TlbAt.fr {S : Nat → Prop} {w w' : World} {t s n : Nat} (h : TlbAt w t s n) (f : Fr S w w') (h1 : ¬ S t) (h2 : ¬ S s) : TlbAt w' t s n := ⟨h.st.fr f h1, h.sl.fr f h2⟩
theorem TlbAt.fr0 {w w' : World} {t s n : Nat} (h : TlbAt w t s n) (f : Fr0 w w') : TlbAt w' t s n := h.fr f (fun h => h) fun h => h
theorem f155 {w : World} (n : Nat) (h1 : 1 ≤ n) (h2 : n ≤ 64) : Ret prog 155 #[.int .i64 (n : Int)] w fun v w' => ∃ t s, v = .tuple #[.pointer (some ⟨t, 0, none⟩), .int .i64 0] ∧ w.heap.size ≤ t ∧ w.heap.size ≤ s ∧ TlbAt w' t s n ∧ Fr0 w w' := by
  refine F155_of _ _ _ ?_
  unfold F155
  refine BIf_neg (by omega) (BIf_neg (by omega) ?_)
  refine makeN_sl E348 n (by simp only [maxLen]; omega) (by omega) fun w1 n1 f1 s1 => ?_
  rw [AsSl_slice]
  refine New.mk fun w2 n2 f2 s2 => ?_
  exact ⟨_, _, rfl, by omega, Nat.le_refl _, ⟨n2, n1.fr0 f2⟩, f1.trans f2⟩
theorem f208 {w : World} {t s n : Nat} (hT : TlbAt w t s n) (hn : n ≤ 64) (k va as_ : Int) : Ret prog 208 #[.pointer (some ⟨t, 0, none⟩), .agg #[.int .i64 k, .int .u32 va, .int .i64 as_]] w fun v w' => v = .int .i64 0 ∧ Fr0 w w' := by
  refine F208_of _ _ _ _ _ _ ?_
  unfold F208; try dsimp only [Lbiiuviiubb, Liiuviiubb, Liui, S_10, Uii, lb_, li_, ls_, ui_]
  refine New.mk fun w1 n1 f1 s1 => ?_
  have hT1 := hT.fr0 f1
  simp only [at0_mk, Nat.zero_add]
  refine hT1.st.ld rfl (AsSl_slice.2 ?_)
  refine Loop.by (fun s' w' => ∃ i : Nat, s' = [.int .i64 (i : Int), .int .i64 0] ∧ i ≤ n ∧ Fr0 w w') (fun s _ => match s with | [.int _ i, _] => n - i.toNat | _ => 0) ⟨0, rfl, by omega, f1⟩ ?_
  rintro _ w2 ⟨i, rfl, hi, f2⟩
  simp only [UnC_cons, UnN_nil, AsI_int]
  refine BIf_cases (fun hlt => ?_) (fun hge => ⟨by trivial, f2⟩)
  have hin : i < n := by omega
  refine Join.triv ?_
  have hS := (hT.fr0 f2).sl
  simp only [NilP_some, at0_mk, Nat.zero_add, Int.toNat_natCast, UnC_cons, UnN_nil, AsI_int]
  refine ⟨by omega, by omega, ?_⟩
  have g0 := slots_get (n := n) hin (j := 0) (by decide)
  rw [Nat.add_zero] at g0
  refine hS.ld g0 (AsB_bool.2 ?_)
  refine hS.ld (slots_get hin (j := 1) (by decide)) (AsI_int.2 ?_)
  refine hS.ld (slots_get hin (j := 2) (by decide)) (AsI_int.2 ?_)
  refine hS.ld (slots_get hin (j := 3) (by decide)) (AsI_int.2 ?_)
  refine hS.ld (slots_get hin (j := 4) (by decide)) (AsI_int.2 ?_)
  refine hS.ld (slots_get hin (j := 5) (by decide)) (AsI_int.2 ?_)
  refine hS.ld (slots_get hin (j := 6) (by decide)) (AsI_int.2 ?_)
  refine hS.ld (slots_get hin (j := 7) (by decide)) (AsI_int.2 ?_)
  refine hS.ld (slots_get hin (j := 8) (by decide)) (AsB_bool.2 ?_)
  refine hS.ld (slots_get hin (j := 9) (by decide)) (AsB_bool.2 ?_)
  refine New10 fun w3 n3 f3 s3 => ?_
  refine n3.ld rfl (AsB_bool.2 ?_)
  rw [BIf_false, w64 (n := (i : Int) + 1) (by omega) (by omega)]
  exact ⟨⟨i + 1, rfl, by omega, f2.trans f3⟩, by show n - ((i : Int) + 1).toNat < n - (i : Int).toNat; omega⟩
structure HierAt (w : World) (h t1 s1 t2 s2 t3 s3 n1 n2 n3 : Nat) : Prop where
  st : Has w h [.pointer (some ⟨t1, 0, none⟩), .pointer (some ⟨t2, 0, none⟩), .pointer (some ⟨t3, 0, none⟩)]
  a : TlbAt w t1 s1 n1
  b : TlbAt w t2 s2 n2
  c : TlbAt w t3 s3 n3
  la : n1 ≤ 64
  lb : n2 ≤ 64
  lc : n3 ≤ 64
theorem HierAt.fr0 {w w' : World} {h t1 s1 t2 s2 t3 s3 n1 n2 n3 : Nat} (H : HierAt w h t1 s1 t2 s2 t3 s3 n1 n2 n3) (f : Fr0 w w') : HierAt w' h t1 s1 t2 s2 t3 s3 n1 n2 n3 :=
  ⟨H.st.fr0 f, H.a.fr0 f, H.b.fr0 f, H.c.fr0 f, H.la, H.lb, H.lc⟩
theorem f150 {w : World} {h t1 s1 t2 s2 t3 s3 n1 n2 n3 : Nat} (H : HierAt w h t1 s1 t2 s2 t3 s3 n1 n2 n3) (k va as_ : Int) : Ret prog 150 #[.pointer (some ⟨h, 0, none⟩), .agg #[.int .i64 k, .int .u32 va, .int .i64 as_]] w fun v w' => v = .int .i64 0 ∧ Fr0 w w' := by
  refine F150_of _ _ _ _ _ _ ?_
  unfold F150; try dsimp only [C_3, Liui, ce_, li_, lp_]
  refine New.mk fun w1 n1 f1 z1 => ?_
  have H1 := H.fr0 f1
  have hs := H1.st
  try simp only [n1.ld_iff, hs.ld_iff, sb_, Nat.reduceAdd]
  have H1 := H1.fr0 (Qt.refl w1).drew.fr
  have n1 := n1.drew
  have f1 := f1.drew
  generalize w1.drew = w1' at *
  refine Ret.use (f208 H1.a H1.la k va as_) ?_
  rintro _ w2 ⟨rfl, f2⟩
  have H2 := H1.fr0 f2
  have m2 := n1.fr0 f2
  rw [AsI_int]
  refine ⟨⟨m2.cell, m2.cell, m2.cell, trivial⟩, H2.st.cell, ⟨m2.cell, m2.cell, m2.cell, trivial⟩, H2.st.cell, ?_⟩
  refine Ret.use (f208 H2.b H2.lb k va as_) ?_
  rintro _ w3 ⟨rfl, f3⟩
  have H3 := H2.fr0 f3
  have m3 := m2.fr0 f3
  rw [AsI_int]
  refine ⟨⟨m3.cell, m3.cell, m3.cell, trivial⟩, H3.st.cell, ?_⟩
  refine Ret.use (f208 H3.c H3.lc k va as_) ?_
  rintro _ w4 ⟨rfl, f4⟩
  rw [AsI_int]
  exact ⟨rfl, ((f1.trans f2).trans f3).trans f4⟩
theorem f82 {w : World} (i d m : Nat) (h1 : 1 ≤ i ∧ i ≤ 64) (h2 : 1 ≤ d ∧ d ≤ 64) (h3 : 1 ≤ m ∧ m ≤ 64) : Ret prog 82 #[.int .i64 (i : Int), .int .i64 (d : Int), .int .i64 (m : Int)] w fun v w' => ∃ h t1 s1 t2 s2 t3 s3, v = .tuple #[.pointer (some ⟨h, 0, none⟩), .int .i64 0] ∧
    HierAt w' h t1 s1 t2 s2 t3 s3 i d m ∧ Fr0 w w' ∧ ∀ x, x = h ∨ x = t1 ∨ x = s1 ∨ x = t2 ∨ x = s2 ∨ x = t3 ∨ x = s3 → w.heap.size ≤ x := by
  refine F82_of _ _ _ _ _ ?_
  unfold F82; try dsimp only [Uiip, Upi, lp_, ui_, up_]
  refine New.mk fun w1 n1 f1 z1 => ?_
  refine Loop.by (fun s w' => ∃ k : Nat, s = [.int .i64 (k : Int), .int .i64 0, .pointer none] ∧ Fr0 w w' ∧
      ((k = 0 ∧ Has w' w.heap.size [.pointer none, .pointer none, .pointer none]) ∨
       (k = 1 ∧ ∃ t1 s1, Has w' w.heap.size [.pointer (some ⟨t1, 0, none⟩), .pointer none, .pointer none] ∧ TlbAt w' t1 s1 i ∧ w.heap.size ≤ t1 ∧ w.heap.size ≤ s1 ∧ t1 ≠ w.heap.size ∧ s1 ≠ w.heap.size) ∨
       (k = 2 ∧ ∃ t1 s1 t2 s2, Has w' w.heap.size [.pointer (some ⟨t1, 0, none⟩), .pointer (some ⟨t2, 0, none⟩), .pointer none] ∧ TlbAt w' t1 s1 i ∧ TlbAt w' t2 s2 d ∧ (∀ x, x = t1 ∨ x = s1 ∨ x = t2 ∨ x = s2 → w.heap.size < x)) ∨
       (k = 3 ∧ ∃ t1 s1 t2 s2 t3 s3, Has w' w.heap.size [.pointer (some ⟨t1, 0, none⟩), .pointer (some ⟨t2, 0, none⟩), .pointer (some ⟨t3, 0, none⟩)] ∧ TlbAt w' t1 s1 i ∧ TlbAt w' t2 s2 d ∧ TlbAt w' t3 s3 m ∧ (∀ x, x = t1 ∨ x = s1 ∨ x = t2 ∨ x = s2 ∨ x = t3 ∨ x = s3 → w.heap.size < x))))
    (fun s _ => match s with | [.int _ i, _, _] => 3 - i.toNat | _ => 0) ⟨0, rfl, f1, .inl ⟨rfl, n1⟩⟩ ?_
  rintro _ w2 ⟨k, rfl, f2, hk⟩
  simp only [UnC_cons, UnN_nil, AsI_int, AsP_pointer]
  rcases hk with ⟨rfl, hh⟩ | ⟨rfl, t1, s1, hh, hT1, a1, a2, a3, a4⟩ | ⟨rfl, t1, s1, t2, s2, hh, hT1, hT2, hx⟩ | ⟨rfl, t1, s1, t2, s2, t3, s3, hh, hT1, hT2, hT3, hx⟩
  · refine BIf_pos (by decide) ⟨by decide, by decide, _, rfl, AsI_int.2 ?_⟩
    refine Ret.use (f155 i h1.1 h1.2) ?_
    rintro _ w3 ⟨t1, s1, rfl, b1, b2, hT1, f3⟩
    have hl := hh.lt
    simp only [sb_, Nat.reduceAdd]
    refine BIf_ne (fun h => absurd rfl h) fun _ => ⟨by decide, by decide, ?_⟩
    refine (hh.fr0 f3).st (by simp) rfl fun w4 n4 f4 z4 => ?_
    refine ⟨⟨1, rfl, Fr.new (f2.trans f3) f4 (Nat.le_refl _), .inr (.inl ⟨rfl, t1, s1, by simpa using n4, hT1.fr f4 (by omega) (by omega), by omega, by omega, by omega, by omega⟩)⟩, by decide⟩
  · refine BIf_pos (by decide) ⟨by decide, by decide, _, rfl, AsI_int.2 ?_⟩
    refine Ret.use (f155 d h2.1 h2.2) ?_
    rintro _ w3 ⟨t2, s2, rfl, b1, b2, hT2, f3⟩
    have hl := hh.lt
    simp only [sb_, Nat.reduceAdd]
    refine BIf_ne (fun h => absurd rfl h) fun _ => ⟨by decide, by decide, ?_⟩
    refine (hh.fr0 f3).st (by simp) rfl fun w4 n4 f4 z4 => ?_
    refine ⟨⟨2, rfl, Fr.new (f2.trans f3) f4 (Nat.le_refl _), .inr (.inr (.inl ⟨rfl, t1, s1, t2, s2, by simpa using n4, (hT1.fr0 f3).fr f4 (by omega) (by omega), hT2.fr f4 (by omega) (by omega), fun x hx => by omega⟩))⟩, by decide⟩
  · have q := hx t1 (by simp); have q2 := hx s1 (by simp); have q3 := hx t2 (by simp); have q4 := hx s2 (by simp)
    refine BIf_pos (by decide) ⟨by decide, by decide, _, rfl, AsI_int.2 ?_⟩
    refine Ret.use (f155 m h3.1 h3.2) ?_
    rintro _ w3 ⟨t3, s3, rfl, b1, b2, hT3, f3⟩
    have hl := hh.lt
    simp only [sb_, Nat.reduceAdd]
    refine BIf_ne (fun h => absurd rfl h) fun _ => ⟨by decide, by decide, ?_⟩
    refine (hh.fr0 f3).st (by simp) rfl fun w4 n4 f4 z4 => ?_
    refine ⟨⟨3, rfl, Fr.new (f2.trans f3) f4 (Nat.le_refl _), .inr (.inr (.inr ⟨rfl, t1, s1, t2, s2, t3, s3, by simpa using n4, (hT1.fr0 f3).fr f4 (by omega) (by omega), (hT2.fr0 f3).fr f4 (by omega) (by omega), hT3.fr f4 (by omega) (by omega), fun x hx => by omega⟩))⟩, by decide⟩
  · refine BIf_neg (by decide) ⟨by decide, by decide, ?_⟩
    simp only [at0_mk, Nat.zero_add]
    refine hh.ld rfl (AsP_pointer.2 ⟨by decide, by decide, ?_⟩)
    refine hh.ld rfl (AsP_pointer.2 ⟨by decide, by decide, ?_⟩)
    refine hh.ld rfl (AsP_pointer.2 ?_)
    refine New.mk fun w3 n3 f3 z3 => ?_
    have q := hx t1 (by simp); have q2 := hx s1 (by simp); have q3 := hx t2 (by simp); have q4 := hx s2 (by simp); have q5 := hx t3 (by simp); have q6 := hx s3 (by simp)
    have hz := f2.size
    exact ⟨_, t1, s1, t2, s2, t3, s3, rfl, ⟨n3, hT1.fr0 f3, hT2.fr0 f3, hT3.fr0 f3, h1.2, h2.2, h3.2⟩, f2.trans f3, fun x hx => by omega⟩
structure TrkAt (w : World) (t km jm : Nat) : Prop where
  st : Has w t [.map (some km), .map (some jm)]
  kn : MapNil w km
  jn : MapNil w jm
theorem mapNil_fr {S : Nat → Prop} {w w' : World} {b : Nat} (h : MapNil w b) (f : Fr S w w') (hS : ¬ S b) : MapNil w' b := by
  obtain ⟨c, h⟩ := h
  exact ⟨c, by rw [f.block b (Array.getElem?_eq_some_iff.1 h).1 hS]; exact h⟩
theorem mapNil_lt {w : World} {b : Nat} (h : MapNil w b) : b < w.heap.size := by
  obtain ⟨c, h⟩ := h; exact (Array.getElem?_eq_some_iff.1 h).1
theorem TrkAt.fr {S : Nat → Prop} {w w' : World} {t km jm : Nat} (h : TrkAt w t km jm) (f : Fr S w w') (h1 : ¬ S t) (h2 : ¬ S km) (h3 : ¬ S jm) : TrkAt w' t km jm := ⟨h.st.fr f h1, mapNil_fr h.kn f h2, mapNil_fr h.jn f h3⟩
theorem TrkAt.fr0 {w w' : World} {t km jm : Nat} (h : TrkAt w t km jm) (f : Fr0 w w') : TrkAt w' t km jm := h.fr f (fun h => h) (fun h => h) fun h => h
theorem makeMap_nil {t : TypeId} {w : World} {K : Value → World → Prop} (hK : ∀ w', MapNil w' w.heap.size → Fr0 w w' → w'.heap.size = w.heap.size + 1 → K (.map (some w.heap.size)) w') : RunV prog (Instr.makeMap t none) w K := by
  refine ⟨_, w.alloc (.map #[] 0), rfl, hK _ ⟨0, ?_⟩ ⟨rfl, rfl, rfl, by simp, fun b hb _ => ?_⟩ (by simp)⟩
  · show (w.heap.push _)[w.heap.size]? = _; simp
  · show (w.heap.push _)[b]? = _
    rw [Array.getElem?_push, if_neg (by omega)]
theorem f85 {w : World} : Ret prog 85 #[] w fun v w' => ∃ t km jm, v = .pointer (some ⟨t, 0, none⟩) ∧ TrkAt w' t km jm ∧ Fr0 w w' ∧ ∀ x, x = t ∨ x = km ∨ x = jm → w.heap.size ≤ x := by
  refine F85_of _ _ ?_
  unfold F85
  refine makeMap_nil fun w1 n1 f1 s1 => ?_
  rw [AsM_map]
  refine makeMap_nil fun w2 n2 f2 s2 => ?_
  rw [AsM_map]
  refine New.mk fun w3 n3 f3 s3 => ?_
  exact ⟨_, _, _, rfl, ⟨n3, mapNil_fr (mapNil_fr n1 f2 fun h => h) f3 fun h => h, mapNil_fr n2 f3 fun h => h⟩, (f1.trans f2).trans f3, fun x hx => by omega⟩
theorem u292 : prog.underlying 292 = some (.map 242 334) := by kernel_rfl
theorem u293 : prog.underlying 293 = some (.map 3 52) := by kernel_rfl
theorem f151 {w : World} {t km jm : Nat} (hT : TrkAt w t km jm) (k va as_ : Int) : Ret prog 151 #[.pointer (some ⟨t, 0, none⟩), .agg #[.int .i64 k, .int .u32 va, .int .i64 as_]] w fun v w' => v = .int .i64 0 ∧ Fr0 w w' := by
  refine F151_of _ _ _ _ _ _ ?_
  unfold F151; try dsimp only [Liiuviiubb, Liui, S_9, Uiiuviiubb, lb_, li_, lm_, ub_, ui_]
  refine New.mk fun w1 n1 f1 s1 => ?_
  have hT1 := hT.fr0 f1
  simp only [at0_mk, Nat.zero_add]
  refine hT1.st.ld rfl (AsM_map.2 ?_)
  refine range_nil u292 hT1.kn fun w2 c hr hk f2 => ⟨_, rfl, ?_⟩
  refine Loop.by (fun s' w' => s' = [.int .i64 0] ∧ w' = w2) (fun _ _ => 0) ⟨rfl, rfl⟩ ?_
  rintro _ _ ⟨rfl, rfl⟩
  simp only [UnC_cons, UnN_nil, AsI_int]
  refine next_nil hk hr fun w3 q3 => .inl ⟨rfl, by trivial, ?_⟩
  exact (f1.trans f2).trans q3.fr
theorem bytes_get {t : ByteArray} (ht : t.size = 256) (x : Int) : ∃ J, t[(IntKind.u8.wrap x).toNat]? = some J := by
  have h : (IntKind.u8.wrap x).toNat < t.size := by rw [ht, IntKind.wrap_u8]; omega
  exact ⟨_, getElem?_pos t _ h⟩
theorem f222 {w : World} (x : Nat) (hx : x < 2 ^ 64) : Ret prog 222 #[.int .u64 (x : Int)] w fun v w' => (∃ n : Int, v = .int .i64 n) ∧ w' = w := by
  refine F222_of _ _ _ ?_
  unfold F222; try dsimp only [Uiv, ui_]
  refine Join.at (fun s w' => (∃ n y : Int, s = [.int .i64 n, .int .u64 y]) ∧ w' = w) ?_ ?_
  · refine BIf_cases (fun h => ?_) (fun h => ?_)
    · first | exact ⟨⟨_, _, rfl⟩, rfl⟩ | exact NN.mk (by decide) ⟨⟨_, _, rfl⟩, rfl⟩
    · exact ⟨⟨_, _, rfl⟩, rfl⟩
  · rintro _ _ ⟨⟨n, y, rfl⟩, hw⟩
    obtain rfl := hw.symm
    simp only [UnC_cons, UnN_nil, AsI_int]
    refine Join.at (fun s w' => (∃ n y : Int, s = [.int .i64 n, .int .u64 y]) ∧ w' = w) ?_ ?_
    · refine BIf_cases (fun h => ?_) (fun h => ?_)
      · first | exact ⟨⟨_, _, rfl⟩, rfl⟩ | exact NN.mk (by decide) ⟨⟨_, _, rfl⟩, rfl⟩
      · exact ⟨⟨_, _, rfl⟩, rfl⟩
    · rintro _ _ ⟨⟨n, y, rfl⟩, hw⟩
      obtain rfl := hw.symm
      simp only [UnC_cons, UnN_nil, AsI_int]
      refine BIf_cases (fun h => ?_) (fun h => ?_)
      · obtain ⟨J, hJ⟩ := bytes_get (t := _) (by kernel_rfl) (shrI .u64 y 8)
        refine ⟨?_, J, hJ, ⟨_, rfl⟩, by trivial⟩
        rw [IntKind.wrap_u8]; omega
      · obtain ⟨J, hJ⟩ := bytes_get (t := _) (by kernel_rfl) y
        refine ⟨?_, J, hJ, ⟨_, rfl⟩, by trivial⟩
        rw [IntKind.wrap_u8]; omega
theorem f163 {w : World} (x : Nat) (hx : x < 2 ^ 64) : Ret prog 163 #[.int .u64 (x : Int)] w fun v w' => (∃ n : Int, v = .int .i64 n) ∧ w' = w := by
  refine F163_of _ _ _ ?_
  unfold F163
  refine Ret.use (f222 x hx) ?_
  rintro _ _ ⟨⟨n, rfl⟩, hw⟩
  obtain rfl := hw.symm
  rw [AsI_int]
  exact ⟨⟨n, rfl⟩, by trivial⟩
theorem f270e {w : World} : Ret prog 270 #[.slice none 0 0, .int .i64 0, .int .i64 0, .func (.func 204) #[] #[]] w fun v w' => v = .tuple #[] ∧ w' = w := by
  refine F270e_of _ _ ?_
  unfold F270e; try dsimp only [Liiiuviiubb, S_10, lb_, li_, ui_]
  refine Loop.by (fun s w' => s = [.int .i64 1] ∧ w' = w) (fun _ _ => 0) ⟨rfl, rfl⟩ ?_
  rintro _ _ ⟨rfl, hw⟩
  obtain rfl := hw.symm
  simp only [UnC_cons, UnN_nil, AsI_int]
  exact BIf_neg (by decide) ⟨by trivial, by trivial⟩
theorem f252e {w : World} (l : Int) : Ret prog 252 #[.slice none 0 0, .int .i64 0, .int .i64 0, .int .i64 l, .func (.func 204) #[] #[]] w fun v w' => v = .tuple #[] ∧ w' = w := by
  refine F252e_of _ _ _ ?_
  unfold F252e; try dsimp only [Liiiuviiubb, Ubbiii, Uib, Uii, lb_, li_, ub_, ui_]
  refine Loop.by (fun s w' => s = [.bool true, .bool true, .int .i64 0, .int .i64 0, .int .i64 l] ∧ w' = w) (fun _ _ => 0) ⟨rfl, rfl⟩ ?_
  rintro _ _ ⟨rfl, hw⟩
  obtain rfl := hw.symm
  simp only [UnC_cons, UnN_nil, AsI_int, AsB_bool]
  refine BIf_pos (by decide) ?_
  refine Ret.use f270e ?_
  rintro _ _ ⟨rfl, hw⟩
  obtain rfl := hw.symm
  simp only [AsTup_tuple, UnN_nil]
  exact ⟨by trivial, by trivial⟩
theorem f203e {w : World} : Ret prog 203 #[.slice none 0 0, .func (.func 204) #[] #[]] w fun v w' => v = .tuple #[] ∧ Fr0 w w' := by
  refine F203e_of _ _ ?_
  unfold F203e
  refine Ret.use (f163 0 (by decide)) ?_
  rintro _ _ ⟨⟨n, rfl⟩, hw⟩
  obtain rfl := hw.symm
  rw [AsI_int]
  refine Ret.use (f252e n) ?_
  rintro _ _ ⟨rfl, hw⟩
  obtain rfl := hw.symm
  simp only [AsTup_tuple, UnN_nil]
  exact ⟨by trivial, Fr.refl _ _⟩
theorem f147 {w : World} {t km jm : Nat} (hT : TrkAt w t km jm) (m : Value) : Ret prog 147 #[.pointer (some ⟨t, 0, none⟩), m] w fun v w' => v = .slice none 0 0 ∧ Fr0 w w' := by
  refine F147_of _ _ _ _ ?_
  unfold F147; try dsimp only [Lbbbibbvvuuui, Liiuviiubb, Liuviiubb, S_12, S_9, Ubbbibbvvuuui, Uiiuviiubb, lb_, li_, lm_, ub_, ui_, us_]
  simp only [at0_mk, Nat.zero_add]
  refine hT.st.ld rfl (AsM_map.2 ?_)
  refine range_nil u293 hT.jn fun w2 c hr hk f2 => ⟨_, rfl, ?_⟩
  refine Loop.by (fun s' w' => s' = [.slice none 0 0] ∧ w' = w2) (fun _ _ => 0) ⟨rfl, rfl⟩ ?_
  rintro _ _ ⟨rfl, rfl⟩
  simp only [UnC_cons, UnN_nil, AsSl_slice]
  refine next_nil hk hr fun w3 q3 => .inl ⟨rfl, ?_⟩
  refine Ret.use f203e ?_
  rintro _ w4 ⟨rfl, f4⟩
  simp only [sb_, Nat.reduceAdd]
  exact ⟨by trivial, (f2.trans q3.fr).trans f4⟩
def ctxArr : Array Value := #[.bool false, .bool false, .bool false, .int .i64 0, .bool false, .bool false, .int .u64 0, .int .u64 0, .int .u32 0, .int .u32 625316, .int .u32 1155549408, .int .i64 0]
theorem regs0_eq : regs0 = [.int .u32 0, .int .u32 0, .int .u32 0, .int .u32 0, .int .u32 0, .int .u32 0, .int .u32 0, .int .u32 0, .int .u32 0, .int .u32 0, .int .u32 625316, .int .u32 1155549408, .int .u32 0] := by kernel_rfl
theorem f248c {w : World} {f a : Nat} (hf : Has w f regs0) (ha : Has w a [.pointer (some ⟨f, 0, none⟩)]) (reg i : Nat) (hr : reg = 0 ∨ reg = 3) (hi : i < 32) :
    Ret prog 248 #[.int .i64 (reg : Int), .int .i64 (i : Int), .pointer (some ⟨a, 0, none⟩)] w fun v w' => v = .bool false ∧ w' = w := by
  refine F248c_of _ _ _ _ _ ?_
  unfold F248c; try dsimp only [li_, lp_]
  rw [regs0_eq] at hf
  refine ha.ld rfl (AsP_pointer.2 ?_)
  simp only [NilP_some, at0_mk, Nat.zero_add, Int.toNat_natCast]
  refine ⟨by omega, by omega, ?_⟩
  have z : shrI .u32 0 (i : Int) = 0 := by
    have := shrI_nat (k := .u32) (a := 0) (n := i) (by show i ≤ 32; omega)
    simpa using this
  rcases hr with rfl | rfl
  · refine hf.ld rfl (AsI_int.2 (NN.mk (by omega) ?_))
    rw [z]; exact ⟨rfl, by trivial⟩
  · refine hf.ld rfl (AsI_int.2 (NN.mk (by omega) ?_))
    rw [z]; exact ⟨rfl, by trivial⟩
theorem f186 {w : World} {f : Nat} (hf : Has w f regs0) : Ret prog 186 #[.pointer (some ⟨f, 0, none⟩)] w fun v w' => v = .agg ctxArr ∧ Fr0 w w' := by
  refine F186_of _ _ _ ?_
  unfold F186; try dsimp only [Lbbbibbvvuuui, S_6, ce_, lb_, li_, lp_]
  refine New.mk fun w1 a1 f1 s1 => New.mk fun w2 c2 f2 s2 => ?_
  have a2 := a1.fr0 f2
  have h2 := (hf.fr0 f1).fr0 f2
  have hl := hf.lt
  have h3 := h2
  rw [regs0_eq] at h3
  try simp only [a2.ld_iff, h3.ld_iff, sb_, Nat.reduceAdd]
  refine ⟨by decide, by decide, by decide, by decide, NN.mk (by decide) ⟨by decide, by decide, by decide, by decide, by decide, by decide, by decide, by decide, by decide, by decide, ?_⟩⟩
  have a2 := a2.drew
  have h2 := h2.drew
  have h3 := h3.drew
  have c2 := c2.drew
  have f2 := f2.drew
  generalize w2.drew = w2' at *
  refine ⟨248, _, _, rfl, by kernel_rfl, ?_⟩
  refine Ret.use (f248c h2 a2 0 0 (by decide) (by decide)) ?_
  rintro _ _ ⟨rfl, hw⟩
  obtain rfl := hw.symm
  simp only [AsB_bool, h3.cell, a2.cell, List.getElem?_cons_zero, List.getElem?_cons_succ, true_and]
  refine ⟨248, _, _, rfl, by kernel_rfl, ?_⟩
  refine Ret.use (f248c h2 a2 0 28 (by decide) (by decide)) ?_
  rintro _ _ ⟨rfl, hw⟩
  obtain rfl := hw.symm
  simp only [AsB_bool, h3.cell, a2.cell, List.getElem?_cons_zero, List.getElem?_cons_succ, true_and]
  refine ⟨248, _, _, rfl, by kernel_rfl, ?_⟩
  refine Ret.use (f248c h2 a2 0 29 (by decide) (by decide)) ?_
  rintro _ _ ⟨rfl, hw⟩
  obtain rfl := hw.symm
  simp only [AsB_bool, h3.cell, a2.cell, List.getElem?_cons_zero, List.getElem?_cons_succ, true_and]
  refine ⟨248, _, _, rfl, by kernel_rfl, ?_⟩
  refine Ret.use (f248c h2 a2 3 4 (by decide) (by decide)) ?_
  rintro _ _ ⟨rfl, hw⟩
  obtain rfl := hw.symm
  simp only [AsB_bool, h3.cell, a2.cell, List.getElem?_cons_zero, List.getElem?_cons_succ, true_and]
  refine ⟨248, _, _, rfl, by kernel_rfl, ?_⟩
  refine Ret.use (f248c h2 a2 3 5 (by decide) (by decide)) ?_
  rintro _ _ ⟨rfl, hw⟩
  obtain rfl := hw.symm
  simp only [AsB_bool, h3.cell, a2.cell, List.getElem?_cons_zero, List.getElem?_cons_succ, true_and]
  refine Set12 c2 fun w3 c3 f3 s3 => ?_
  try simp only [c3.ld_iff, sb_, Nat.reduceAdd]
  exact ⟨by kernel_rfl, Fr.new (f1.trans f2) f3 (by omega)⟩
theorem f134 {w : World} {m f : Nat} {rest : List Value} {a0 : Value} (hm : Has w m (a0 :: .pointer (some ⟨f, 0, none⟩) :: rest)) (hf : Has w f regs0) : Ret prog 134 #[.pointer (some ⟨m, 0, none⟩)] w fun v w' => v = .agg ctxArr ∧ Fr0 w w' := by
  refine F134_of _ _ _ ?_
  unfold F134; try dsimp only [Lbbbibbvvuuui, S_12, Ubbbibbvvuuui, lb_, li_, lp_, ub_, ui_]
  refine New.mk fun w1 c1 f1 s1 => ?_
  have m1 := hm.fr0 f1
  have h1 := hf.fr0 f1
  have hlt := hf.lt
  have hlm := hm.lt
  try simp only [m1.ld_iff, sb_, Nat.reduceAdd]
  refine Ret.use (f186 h1) ?_
  rintro _ w2 ⟨rfl, f2⟩
  have c2 := c1.fr0 f2
  simp only [ctxArr]
  simp only [sb_, Nat.reduceAdd]
  refine Set12 c2 fun w3 c3 f3 s3 => ?_
  try simp only [c3.ld_iff, sb_, Nat.reduceAdd]
  exact ⟨by trivial, Fr.new (f1.trans f2) f3 (Nat.le_refl _)⟩
theorem f184 {w : World} {ro : Ro} {m h fr : Nat} {L : List (Int × Value)} {mem : Nat → Nat} (H : RamL w ro m h fr L mem) (pa v : Nat) (hp : wErr fr pa = 0) (hv : v < 2 ^ 32) :
    Ret prog 184 #[.pointer (some ⟨m, 0, none⟩), .int .u64 (pa : Int), .int .u32 (v : Int)] w fun r w' => r = .int .i64 0 ∧ ∃ ro' L', RExt w ro ro' ∧ RamL w' ro' m h fr L' (setW mem pa v) ∧ FrK ramK ro w w' := by
  refine F184_of _ _ _ _ _ ?_
  unfold F184
  refine Ret.use (f153 H.st H.small pa) ?_
  rintro _ _ ⟨rfl, hw⟩
  obtain rfl := hw.symm
  rw [AsI_int, hp]
  refine BIf_eq (fun _ => ?_) (fun h => absurd rfl h)
  refine Ret.use (f246 H pa v hp hv) ?_
  rintro _ w1 ⟨rfl, ro', L', h1, h2, h3⟩
  simp only [sb_, Nat.reduceAdd]
  exact ⟨by trivial, ro', L', h1, h2, h3⟩
def wipeM (mem : Nat → Nat) (f : Nat) : Nat → Nat := fun x => if x / 4096 = f then 0 else mem x
theorem at_filter_ne {L : List (Int × Value)} {x y : Int} : at? (L.filter fun p => p.1 != x) y = if y = x then none else at? L y := by
  unfold at?
  rw [List.find?_filter]
  split
  · rename_i h; subst h
    rw [List.find?_eq_none.2 (fun p _ => by simp)]; rfl
  · rename_i h
    congr 1
    congr 1
    funext p
    by_cases e : p.1 = y
    · simp [e, h]
    · simp [e]
theorem f124 {w : World} {ro : Ro} {m h fr : Nat} {L : List (Int × Value)} {mem : Nat → Nat} (H : RamL w ro m h fr L mem) (f : Nat) (hf : f < fr) :
    Ret prog 124 #[.pointer (some ⟨m, 0, none⟩), .int .i64 (f : Int)] w fun r w' => r = .int .i64 0 ∧ ∃ L', RamL w' ro m h fr L' (wipeM mem f) ∧ FrK ramK ro w w' ∧ w'.heap.size = w.heap.size := by
  have hst := H.st
  have hmh : m ≠ h := fun e => by have h1 := H.rm; have h2 := H.rh; rw [e, h2] at h1; cases h1
  refine F124_of _ _ _ _ ?_
  unfold F124; try dsimp only [li_, lm_]
  refine BIf_neg (by omega) ?_
  simp only [at0_mk, Nat.zero_add]
  refine hst.ld rfl (AsI_int.2 ?_)
  refine BIf_neg (by omega) ?_
  refine hst.ld rfl (AsM_map.2 ?_)
  refine delete_ok T283 H.held _ fun w1 m1 f1 s1 => ?_
  simp only [sb_, Nat.reduceAdd]
  refine ⟨by trivial, _, ⟨hst.fr f1 hmh, H.rm, m1, H.rh, fun x v hx => ?_, fun g hg i hi => ?_, fun a => ?_, H.small⟩, f1.mono fun x _ e => by subst e; rw [H.rh]; simp, s1⟩
  · rw [at_filter_ne] at hx
    split at hx
    · cases hx
    · rename_i hne
      obtain ⟨fb, g, h1, h2, h3, h4, h5⟩ := H.has x v hx
      refine ⟨fb, g, h1, h2, h3, h4, ?_⟩
      have e : byteCells (wipeM mem f) g = byteCells mem g := by
        unfold byteCells
        apply List.map_congr_left
        intro j hj
        rw [List.mem_range] at hj
        unfold wipeM
        rw [if_neg (by omega)]
      rw [e]
      exact h5.fr f1 (fun e => by rw [e, H.rh] at h4; cases h4)
  · rw [at_filter_ne] at hg
    unfold wipeM
    split at hg
    · rw [if_pos (by omega)]
    · split
      · rfl
      · exact H.zero g hg i hi
  · unfold wipeM
    split
    · omega
    · exact H.byte a
theorem f83 {w : World} (ro : Ro) (fr : Nat) (h1 : 1 ≤ fr) (h2 : fr ≤ 65536) :
    Ret prog 83 #[.int .i64 (fr : Int)] w fun r w' => ∃ m h ro', r = .tuple #[.pointer (some ⟨m, 0, none⟩), .int .i64 0] ∧ RExt w ro ro' ∧ RamL w' ro' m h fr [] (fun _ => 0) ∧ Fr0 w w' := by
  refine F83_of _ _ _ ?_
  unfold F83
  refine BIf_neg (by omega) (BIf_neg (by omega) ?_)
  refine makeMap_ok .i64 fun w1 n1 f1 s1 => ?_
  rw [AsM_map]
  refine New.mk fun w2 n2 f2 s2 => ?_
  refine ⟨_, _, (ro.put w1.heap.size (1, 0)).put w.heap.size (2, 0), rfl, (RExt.put (by omega)).trans (RExt.put (Nat.le_refl _)) (Nat.le_refl _), ⟨n2, ?_, n1.fr f2 (fun h => h), Ro.put_same _ _ _, fun x v h => (by cases h), fun _ _ _ _ => rfl, fun _ => by omega, h2⟩, f1.trans f2⟩
  rw [Ro.put_ne (by omega), Ro.put_same]
structure Ev where
  kind : Int
  addr : Int
  val : Int
def Ev.cells (e : Ev) : List Value := [.int .i64 e.kind, .int .u64 e.addr, .int .u32 e.val, .int .i64 0]
def evCells (l : List Ev) : List Value := l.flatMap Ev.cells
structure MIds where
  m : Nat
  r : Nat
  hh : Nat
  rg : Nat
  hi : Nat
  t1 : Nat
  s1 : Nat
  t2 : Nat
  s2 : Nat
  t3 : Nat
  s3 : Nat
  tk : Nat
  km : Nat
  jm : Nat
  n1 : Nat
  n2 : Nat
  n3 : Nat
structure Mst where
  mem : Nat → Nat
  evs : List Ev
def MIds.still (I : MIds) (x : Nat) : Prop := x = I.rg ∨ x = I.hi ∨ x = I.t1 ∨ x = I.s1 ∨ x = I.t2 ∨ x = I.s2 ∨ x = I.t3 ∨ x = I.s3 ∨ x = I.tk ∨ x = I.km ∨ x = I.jm
structure MachAt (w : World) (ro : Ro) (I : MIds) (fr : Nat) (M : Mst) : Prop where
  st : ∃ p c, Has w I.m [.pointer (some ⟨I.r, 0, none⟩), .pointer (some ⟨I.rg, 0, none⟩), .pointer (some ⟨I.hi, 0, none⟩), .pointer (some ⟨I.tk, 0, none⟩), .slice none 0 0, .slice p M.evs.length c] ∧
    Sl w 0 112 4 p M.evs.length c (evCells M.evs) ∧ ∀ b, On p b → (ro b).1 = 5
  rm : ro I.m = (4, 0)
  ram : ∃ L, RamL w ro I.r I.hh fr L M.mem
  regs : Has w I.rg regs0
  hier : HierAt w I.hi I.t1 I.s1 I.t2 I.s2 I.t3 I.s3 I.n1 I.n2 I.n3
  trk : TrkAt w I.tk I.km I.jm
  rs : ∀ x, I.still x → (ro x).1 = 6
  le : M.evs.length ≤ 65536
abbrev machK : List Nat := [2, 3, 4, 5]
theorem HierAt.fr {S : Nat → Prop} {w w' : World} {h t1 s1 t2 s2 t3 s3 n1 n2 n3 : Nat} (H : HierAt w h t1 s1 t2 s2 t3 s3 n1 n2 n3) (f : Fr S w w') (hS : ∀ x, x = h ∨ x = t1 ∨ x = s1 ∨ x = t2 ∨ x = s2 ∨ x = t3 ∨ x = s3 → ¬ S x) : HierAt w' h t1 s1 t2 s2 t3 s3 n1 n2 n3 :=
  ⟨H.st.fr f (hS _ (by simp)), H.a.fr f (hS _ (by simp)) (hS _ (by simp)), H.b.fr f (hS _ (by simp)) (hS _ (by simp)), H.c.fr f (hS _ (by simp)) (hS _ (by simp)), H.la, H.lb, H.lc⟩
theorem MachAt.lts {w : World} {ro : Ro} {I : MIds} {fr : Nat} {M : Mst} (H : MachAt w ro I fr M) : ∀ x, I.still x → x < w.heap.size := by
  have h1 := H.hier
  rintro x (rfl | rfl | rfl | rfl | rfl | rfl | rfl | rfl | rfl | rfl | rfl)
  · exact H.regs.lt
  · exact h1.st.lt
  · exact h1.a.st.lt
  · exact h1.a.sl.lt
  · exact h1.b.st.lt
  · exact h1.b.sl.lt
  · exact h1.c.st.lt
  · exact h1.c.sl.lt
  · exact H.trk.st.lt
  · exact mapNil_lt H.trk.kn
  · exact mapNil_lt H.trk.jn
theorem MachAt.ext {w : World} {ro ro' : Ro} {I : MIds} {fr : Nat} {M : Mst} (H : MachAt w ro I fr M) (e : RExt w ro ro') : MachAt w ro' I fr M := by
  obtain ⟨p, c, h1, h2, h3⟩ := H.st
  obtain ⟨L, hL⟩ := H.ram
  exact ⟨⟨p, c, h1, h2, fun b hb => by rw [e b (h2.lt b hb).2]; exact h3 b hb⟩, (e _ h1.lt).trans H.rm, ⟨L, hL.ext e⟩, H.regs, H.hier, H.trk, fun x hx => by rw [e x (H.lts x hx)]; exact H.rs x hx, H.le⟩
theorem MachAt.fr {w w' : World} {ro : Ro} {I : MIds} {fr : Nat} {M : Mst} (H : MachAt w ro I fr M) {S : Nat → Prop} (f : Fr S w w') (hS : ∀ b, 1 ≤ (ro b).1 → (ro b).1 ≤ 6 → ¬ S b) : MachAt w' ro I fr M := by
  obtain ⟨p, c, h1, h2, h3⟩ := H.st
  obtain ⟨L, hL⟩ := H.ram
  have hs : ∀ x, I.still x → ¬ S x := fun x hx => hS x (by rw [H.rs x hx]; decide) (by rw [H.rs x hx]; decide)
  exact ⟨⟨p, c, h1.fr f (hS _ (by rw [H.rm]; decide) (by rw [H.rm]; decide)), h2.fr f (fun b hb => hS b (by rw [h3 b hb]; decide) (by rw [h3 b hb]; decide)), h3⟩, H.rm,
    ⟨L, hL.fr f fun b hb => hS b (by omega) (by omega)⟩, H.regs.fr f (hs _ (by simp [MIds.still])), H.hier.fr f (fun x hx => hs x (by simp only [MIds.still]; omega)),
    H.trk.fr f (hs _ (by simp [MIds.still])) (hs _ (by simp [MIds.still])) (hs _ (by simp [MIds.still])), H.rs, H.le⟩
theorem MachAt.fr0 {w w' : World} {ro : Ro} {I : MIds} {fr : Nat} {M : Mst} (H : MachAt w ro I fr M) (f : Fr0 w w') : MachAt w' ro I fr M := H.fr f fun _ _ _ h => h
theorem f156 {w : World} {m h fr : Nat} (hs : Has w m [.int .i64 (fr : Int), .map (some h)]) : Ret prog 156 #[.pointer (some ⟨m, 0, none⟩)] w fun v w' => v = .int .i64 (fr : Int) ∧ w' = w := by
  refine F156_of _ _ _ ?_
  unfold F156; try dsimp only [li_]
  simp only [at0_mk, Nat.zero_add]
  exact hs.ld rfl (AsI_int.2 ⟨by trivial, by trivial⟩)
theorem f86 {w : World} {ro : Ro} {I : MIds} {fr : Nat} {M : Mst} (H : MachAt w ro I fr M) : Ret prog 86 #[.pointer (some ⟨I.m, 0, none⟩)] w fun v w' => v = .int .i64 (fr : Int) ∧ w' = w := by
  obtain ⟨p, c, h1, h2, h3⟩ := H.st
  obtain ⟨L, hL⟩ := H.ram
  refine F86_of _ _ _ ?_
  unfold F86; try dsimp only [lp_]
  simp only [at0_mk, Nat.zero_add]
  refine h1.ld rfl (AsP_pointer.2 ?_)
  refine Ret.use (f156 hL.st) ?_
  rintro _ _ ⟨rfl, hw⟩
  obtain rfl := hw.symm
  rw [AsI_int]
  exact ⟨rfl, by trivial⟩
theorem f123 {w : World} {ro : Ro} {I : MIds} {fr : Nat} {M : Mst} (H : MachAt w ro I fr M) (f n : Nat) (hn : f + n ≤ fr) (h1 : 1 ≤ n) : Ret prog 123 #[.pointer (some ⟨I.m, 0, none⟩), .int .i64 (f : Int), .int .i64 (n : Int)] w fun v w' => v = .bool true ∧ w' = w := by
  obtain ⟨L, hL⟩ := H.ram
  have hs := hL.small
  refine F123_of _ _ _ _ _ ?_
  unfold F123
  refine BIf_pos (by omega) ?_
  refine Ret.use (f86 H) ?_
  rintro _ _ ⟨rfl, hw⟩
  obtain rfl := hw.symm
  rw [AsI_int]
  refine BIf_pos (by omega) ?_
  refine Ret.use (f86 H) ?_
  rintro _ _ ⟨rfl, hw⟩
  obtain rfl := hw.symm
  rw [AsI_int, w64 (n := (fr : Int) - (f : Int)) (by omega) (by omega), decide_eq_true (show (n : Int) ≤ (fr : Int) - (f : Int) by omega)]
  exact ⟨rfl, by trivial⟩
theorem f36 {w : World} {ro : Ro} {I : MIds} {fr : Nat} {M : Mst} (H : MachAt w ro I fr M) (pa : Nat) : Ret prog 36 #[.pointer (some ⟨I.m, 0, none⟩), .int .u64 (pa : Int)] w fun v w' =>
    v = .tuple #[.int .u32 ((if wErr fr pa = 0 then getW M.mem pa else 0 : Nat) : Int), .int .i64 (wErr fr pa : Nat)] ∧ w' = w := by
  obtain ⟨p, c, h1, h2, h3⟩ := H.st
  obtain ⟨L, hL⟩ := H.ram
  refine F36_of _ _ _ _ ?_
  unfold F36; try dsimp only [Uui, lp_, ui_]
  simp only [at0_mk, Nat.zero_add]
  refine h1.ld rfl (AsP_pointer.2 ?_)
  refine Ret.use (f81 hL pa) ?_
  rintro _ _ ⟨rfl, hw⟩
  obtain rfl := hw.symm
  simp only [sb_, Nat.reduceAdd]
  exact ⟨by trivial, by trivial⟩
theorem f38 {w : World} (ro : Ro) (hG : Gr w) (fr i d n : Nat) (h1 : 256 ≤ fr) (h2 : fr ≤ 65536) (h3 : fr % 256 = 0) (hi : 1 ≤ i ∧ i ≤ 64) (hd : 1 ≤ d ∧ d ≤ 64) (hn : 1 ≤ n ∧ n ≤ 64) (x y : Int) :
    Ret prog 38 #[.agg #[.int .i64 (fr : Int), .int .i64 (i : Int), .int .i64 (d : Int), .int .i64 (n : Int), .int .i64 x, .int .i64 y]] w fun r w' =>
      ∃ I ro', r = .tuple #[.pointer (some ⟨I.m, 0, none⟩), .int .i64 0] ∧ RExt w ro ro' ∧ MachAt w' ro' I fr ⟨fun _ => 0, []⟩ ∧ Fr0 w w' := by
  refine F38_of _ _ _ _ _ _ _ _ ?_
  unfold F38; try dsimp only [Upi, li_, ui_, up_]
  refine New.mk fun w1 n1 f1 s1 => ?_
  have hG1 := hG.fr0 f1
  try simp only [n1.ld_iff, sb_, Nat.reduceAdd]
  refine BIf_neg (by omega) (BIf_neg (by omega) ?_)
  refine BIf_ne (fun h => absurd (by rw [show (256 : Int) = ((256 : Nat) : Int) from rfl, ← Int.ofNat_tmod, h3]; rfl) h) (fun _ => ?_)
  refine Ret.use (f82 i d n hi hd hn) ?_
  rintro _ w2 ⟨hh, t1, s1', t2, s2', t3, s3', rfl, hH, f2, l2⟩
  simp only [sb_, Nat.reduceAdd]
  refine BIf_ne (fun h => absurd rfl h) (fun _ => ?_)
  have n2 := n1.fr0 f2
  try simp only [n2.ld_iff, sb_, Nat.reduceAdd]
  refine Ret.use (f83 (fun b => if b < w.heap.size then ro b else (6, 0)) fr (by omega) h2) ?_
  rintro _ w3 ⟨m, hb, ro3, rfl, e3, hL, f3⟩
  simp only [sb_, Nat.reduceAdd]
  refine BIf_ne (fun h => absurd rfl h) (fun _ => ?_)
  refine Ret.use (f84 ((hG1.fr0 f2).fr0 f3)) ?_
  rintro _ w4 ⟨rfl, hr, f4⟩
  rw [AsP_pointer]
  refine Ret.use f85 ?_
  rintro _ w5 ⟨t, km, jm, rfl, hT, f5, l5⟩
  rw [AsP_pointer]
  refine New.mk fun w6 n6 f6 s6 => ?_
  have z1 := f1.size
  have z2 := f2.size
  have z3 := f3.size
  have z4 := f4.size
  have z5 := f5.size
  have lr := hr.lt
  have lm := hL.st.lt
  have lh := mapIs_lt hL.held
  have z6 := f6.size
  have hH6 := ((((hH.fr0 f3).fr0 f4).fr0 f5).fr0 f6)
  have hT6 := hT.fr0 f6
  have hk := fun x (hx : x = hh ∨ x = t1 ∨ x = s1' ∨ x = t2 ∨ x = s2' ∨ x = t3 ∨ x = s3') => l2 x hx
  have hlt : ∀ x, x = hh ∨ x = t1 ∨ x = s1' ∨ x = t2 ∨ x = s2' ∨ x = t3 ∨ x = s3' → x < w2.heap.size := by
    rintro x (rfl | rfl | rfl | rfl | rfl | rfl | rfl)
    · exact hH.st.lt
    · exact hH.a.st.lt
    · exact hH.a.sl.lt
    · exact hH.b.st.lt
    · exact hH.b.sl.lt
    · exact hH.c.st.lt
    · exact hH.c.sl.lt
  have htk : ∀ x, x = t ∨ x = km ∨ x = jm → x < w5.heap.size := by
    rintro x (rfl | rfl | rfl)
    · exact hT.st.lt
    · exact mapNil_lt hT.kn
    · exact mapNil_lt hT.jn
  obtain ⟨ro6, hro⟩ : ∃ ro6 : Ro, ro6 = fun x => if x < w3.heap.size then ro3 x else if x = w5.heap.size then (4, 0) else (6, 0) := ⟨_, rfl⟩
  have hro6 : RExt w3 ro3 ro6 := fun x hx => by rw [hro]; simp only [if_pos hx]
  have h6 : ∀ x, w.heap.size ≤ x → x < w2.heap.size → (ro6 x).1 = 6 := fun x h1 h2 => by
    rw [hro6 x (by omega), e3 x h2]; simp only [if_neg (show ¬ x < w.heap.size by omega)]
  have h6' : ∀ x, w3.heap.size ≤ x → x ≠ w5.heap.size → (ro6 x).1 = 6 := fun x h1 h2 => by
    rw [hro]; simp only [if_neg (show ¬ x < w3.heap.size by omega), if_neg h2]
  refine ⟨⟨w5.heap.size, m, hb, w3.heap.size, hh, t1, s1', t2, s2', t3, s3', t, km, jm, i, d, n⟩, ro6, rfl, fun x hx => ?_, ⟨⟨none, 0, n6, Sl.nil _ _ _ _, fun b hb => ?_⟩, ?_, ⟨[], ?_⟩, (hr.fr0 f5).fr0 f6, hH6, hT6, ?_, by simp⟩, ?_⟩
  · rw [hro6 x (by omega), e3 x (by omega)]; simp only [if_pos hx]
  · obtain ⟨a, h, _⟩ := hb; cases h
  · rw [hro]; simp only [if_neg (show ¬ w5.heap.size < w3.heap.size by omega), if_true]
  · exact ((((hL.ext hro6).fr0 f4).fr0 f5).fr0 f6)
  · rintro x (rfl | rfl | rfl | rfl | rfl | rfl | rfl | rfl | rfl | rfl | rfl)
    · exact h6' _ (Nat.le_refl _) (Nat.ne_of_lt (Nat.lt_of_lt_of_le lr z5))
    · exact h6 _ (Nat.le_trans z1 (hk _ (by simp))) (hlt _ (by simp))
    · exact h6 _ (Nat.le_trans z1 (hk _ (by simp))) (hlt _ (by simp))
    · exact h6 _ (Nat.le_trans z1 (hk _ (by simp))) (hlt _ (by simp))
    · exact h6 _ (Nat.le_trans z1 (hk _ (by simp))) (hlt _ (by simp))
    · exact h6 _ (Nat.le_trans z1 (hk _ (by simp))) (hlt _ (by simp))
    · exact h6 _ (Nat.le_trans z1 (hk _ (by simp))) (hlt _ (by simp))
    · exact h6 _ (Nat.le_trans z1 (hk _ (by simp))) (hlt _ (by simp))
    · exact h6' _ (Nat.le_trans z4 (l5 _ (by simp))) (Nat.ne_of_lt (htk _ (by simp)))
    · exact h6' _ (Nat.le_trans z4 (l5 _ (by simp))) (Nat.ne_of_lt (htk _ (by simp)))
    · exact h6' _ (Nat.le_trans z4 (l5 _ (by simp))) (Nat.ne_of_lt (htk _ (by simp)))
  · exact ((((f1.trans f2).trans f3).trans f4).trans f5).trans f6
theorem E112 : ElemT prog 78 112 (.agg #[.int .i64 0, .int .u64 0, .int .u32 0, .int .i64 0]) 4 32 := ⟨by kernel_rfl, by kernel_rfl, rfl, by decide⟩
theorem f146 {w : World} (t : Addr) (m : Value) : Ret prog 146 #[.pointer (some t), m, .agg ctxArr] w fun v w' => v = .int .i64 0 ∧ Fr0 w w' := by
  refine F146_of _ _ _ _ _ _ _ _ _ _ _ _ _ _ _ _ ?_
  unfold F146; try dsimp only [Lbbbibbvvuuui, Liuviiubb, S_8, S_9, Uiuviiubb, lb_, li_, lm_, lp_, ub_, ui_]
  refine New.mk fun w1 n1 f1 s1 => New.mk fun w2 n2 f2 s2 => ?_
  simp only [at0_mk, Nat.zero_add]
  refine n2.ld rfl (AsB_bool.2 ?_)
  exact ⟨by trivial, f1.trans f2⟩
theorem f71 {w : World} {ro : Ro} {I : MIds} {fr : Nat} {M : Mst} (H : MachAt w ro I fr M) : Ret prog 71 #[.pointer (some ⟨I.m, 0, none⟩)] w fun v w' =>
    v = .agg #[.int .i64 0, .int .i64 0, .int .i64 0, .int .u32 0, .bool false, .int .i64 0, .bool false] ∧ Fr0 w w' := by
  refine F71_of _ _ _ ?_
  unfold F71; try dsimp only [C_12, Lbbbibbvvuuui, Liii, Liiiubib, Liuviiubb, S_12, S_3, S_7, S_8, S_9, T71_, Ubbbibbvvuuui, Uiii, Uiiuviiubb, Uiuviiubb, ce_, lb_, li_, lm_, lp_, ls_, ub_, ui_]
  refine New.mk fun w1 n1 f1 s1 => New.mk fun w2 n2 f2 s2 => ?_
  have H2 := (H.fr0 f1).fr0 f2
  refine Join.at (fun s w' => s = [] ∧ w' = w2) ?_ ?_
  · obtain ⟨p, c, h1, _, _⟩ := H2.st
    rw [at0_mk]
    refine h1.ld rfl (AsSl_slice.2 ?_)
    exact ⟨rfl, rfl⟩
  · rintro _ _ ⟨rfl, hw⟩
    obtain rfl := hw.symm
    refine UnN_nil.2 ?_
    obtain ⟨p, c, h1, _, _⟩ := H2.st
    refine Ret.use (f134 h1 H2.regs) ?_
    rintro _ w3 ⟨rfl, f3⟩
    unfold ctxArr
    refine AsAgg_agg.2 (UnC_cons.2 (AsB_bool.2 (UnC_cons.2 (AsB_bool.2 (UnC_cons.2 (AsB_bool.2 (UnC_cons.2 (AsI_int.2 (UnC_cons.2 (AsB_bool.2 (UnC_cons.2 (AsB_bool.2 (UnC_cons.2 (AsI_int.2 (UnC_cons.2 (AsI_int.2 (UnC_cons.2 (AsI_int.2 (UnC_cons.2 (AsI_int.2 (UnC_cons.2 (AsI_int.2 (UnC_cons.2 (AsI_int.2 (UnN_nil.2 ?_)))))))))))))))))))))))))
    refine New12 (fun w4 n4 f4 s4 => ?_)
    have n24 := (n2.fr0 f3).fr0 f4
    have n14 := ((n1.fr0 f2).fr0 f3).fr0 f4
    refine n24.ld rfl (AsI_int.2 ?_)
    refine BIf_eq (fun h => absurd h (by decide)) (fun _ => ?_)
    refine n24.ld rfl (AsI_int.2 ?_)
    refine BIf_eq (fun h => absurd h (by decide)) (fun _ => ?_)
    try simp only [n24.ld_iff, sb_, Nat.reduceAdd]
    refine Set7 n14 fun w5 n5 f5 s5 => ?_
    try simp only [n5.ld_iff, sb_, Nat.reduceAdd]
    exact ⟨by trivial, (((f1.trans f2).trans f3).trans f4).new f5 (Nat.le_refl _)⟩
def pushEv (l : List Ev) (e : Ev) : List Ev := if 65536 ≤ l.length then l else l ++ [e]
theorem MachAt.turn {w w' : World} {ro : Ro} {I : MIds} {fr : Nat} {M : Mst} (H : MachAt w ro I fr M) {evs : List Ev} (f : Fr (fun b => b = I.m ∨ (ro b).1 = 5) w w')
    (st : ∃ p c, Has w' I.m [.pointer (some ⟨I.r, 0, none⟩), .pointer (some ⟨I.rg, 0, none⟩), .pointer (some ⟨I.hi, 0, none⟩), .pointer (some ⟨I.tk, 0, none⟩), .slice none 0 0, .slice p evs.length c] ∧
      Sl w' 0 112 4 p evs.length c (evCells evs) ∧ ∀ b, On p b → (ro b).1 = 5) (le : evs.length ≤ 65536) : MachAt w' ro I fr ⟨M.mem, evs⟩ := by
  obtain ⟨L, hL⟩ := H.ram
  have hs : ∀ x, I.still x → ¬ (x = I.m ∨ (ro x).1 = 5) := fun x hx => by
    have := H.rs x hx
    rintro (rfl | h)
    · rw [H.rm] at this; cases this
    · omega
  exact ⟨st, H.rm, ⟨L, hL.fr f fun b hb => by
      rintro (rfl | h)
      · rw [H.rm] at hb; omega
      · omega⟩, H.regs.fr f (hs _ (by simp [MIds.still])), H.hier.fr f (fun x hx => hs x (by simp only [MIds.still]; omega)),
    H.trk.fr f (hs _ (by simp [MIds.still])) (hs _ (by simp [MIds.still])) (hs _ (by simp [MIds.still])), H.rs, le⟩
theorem f78 {w : World} {ro : Ro} {I : MIds} {fr : Nat} {M : Mst} (H : MachAt w ro I fr M) (k a v : Int) : Ret prog 78 #[.pointer (some ⟨I.m, 0, none⟩), .int .i64 k, .int .u64 a, .int .u32 v] w fun r w' =>
    r = .tuple #[] ∧ ∃ ro', RExt w ro ro' ∧ MachAt w' ro' I fr ⟨M.mem, pushEv M.evs ⟨k, a, v⟩⟩ ∧ FrK machK ro w w' := by
  refine F78_of _ _ _ _ _ _ ?_
  unfold F78; try dsimp only [Ubbbibbvvuuui, ce_, lp_, ls_, ub_, ui_]
  obtain ⟨p, c, h1, h2, h3⟩ := H.st
  simp only [at0_mk, Nat.zero_add]
  refine h1.ld rfl (AsP_pointer.2 ?_)
  refine h1.ld rfl (AsP_pointer.2 ?_)
  refine Ret.use (f134 h1.drew H.regs.drew) ?_
  rintro _ w1 ⟨rfl, f1⟩
  replace f1 := f1.of_drew
  have h11 := h1.fr0 f1
  unfold ctxArr
  simp only [AsAgg_agg, UnC_cons, UnN_nil, AsB_bool, AsI_int]
  refine ⟨h11.cell.trans rfl, h11.cell.trans rfl, ?_⟩
  refine Ret.use (f146 _ _) ?_
  rintro _ w2 ⟨rfl, f2⟩
  rw [AsI_int]
  have h12 := h11.fr0 f2
  refine h12.ld rfl (AsSl_slice.2 ?_)
  refine BIf_cases (fun h => ?_) (fun h => ?_)
  · refine ⟨by trivial, ro, RExt.refl _ _, ?_, ((f1.trans f2).mono fun _ _ h => h.elim)⟩
    have e : pushEv M.evs ⟨k, a, v⟩ = M.evs := if_pos (by omega)
    rw [e]
    exact (H.fr0 f1).fr0 f2
  · refine h12.drew.ld rfl (AsSl_slice.2 ?_)
    refine h12.drew.ld rfl (AsP_pointer.2 ?_)
    refine h12.drew.ld rfl (AsP_pointer.2 ?_)
    have H2 := (H.fr0 f1).fr0 f2
    refine Ret.use (f147 (H2.trk.fr0 (Qt.refl w2).drew.fr) _) ?_
    rintro _ w3 ⟨rfl, f3⟩
    replace f3 := f3.of_drew
    rw [AsSl_slice]
    have h13 := h12.fr0 f3
    refine ⟨h13.cell.trans rfl, ?_⟩
    have e : pushEv M.evs ⟨k, a, v⟩ = M.evs ++ [⟨k, a, v⟩] := if_neg (by omega)
    rw [e]
    have h23 := ((h2.fr0 f1).fr0 f2).fr0 f3
    refine RunV.build1 E112 (by decide) rfl fun w4 n4 f4 s4 => ?_
    rw [AsSl_slice]
    have h14 := h13.fr0 f4
    refine ⟨h14.cell.trans rfl, ?_⟩
    refine append_sl E112 (h23.fr0 f4) (Nat.zero_le _) (news := (Ev.mk k a v).cells) (fun j u hj => by rw [Nat.zero_add, n4.cell]; exact hj) rfl (by simp [Ev.cells, Value.oneCell']) (by simp [maxLen]; omega) (by omega) fun p' c' w5 h25 f5 hon => ?_
    rw [AsSl_slice]
    have h15 := h14.fr f5 (S := On p) (fun hb => by have := h3 _ hb; rw [H.rm] at this; cases this)
    refine h15.st (by simp) rfl fun w6 n6 f6 s6 => ?_
    have z1 := f1.size
    have z2 := f2.size
    have z3 := f3.size
    have lm := h1.lt
    obtain ⟨ro', hro⟩ : ∃ ro' : Ro, ro' = fun x => if x < w.heap.size then ro x else (5, 0) := ⟨_, rfl⟩
    have hr : RExt w ro ro' := fun x hx => by rw [hro]; simp only [if_pos hx]
    have hfar : ∀ x, w.heap.size ≤ x → (ro' x).1 = 5 := fun x hx => by rw [hro]; simp only [if_neg (show ¬ x < w.heap.size by omega)]
    have hon' : ∀ b, On p' b → (ro' b).1 = 5 := fun b hb => by
      by_cases hx : b < w.heap.size
      · rw [hr b hx]
        rcases hon b hb with h | h
        · exact h3 b h
        · omega
      · exact hfar b (by omega)
    have h04 := (((H.ext hr).fr0 f1).fr0 f2).fr0 f3 |>.fr0 f4
    have hm' : ∀ b, On p' b → b ≠ I.m := fun b hb e => by
      have := hon' b hb
      rw [e, hr _ lm, H.rm] at this
      cases this
    have g1 : Fr (fun b => b = I.m ∨ (ro' b).1 = 5) w4 w6 := (f5.mono fun b _ hb => .inr (by rw [hr b ((h2.lt b hb).2)]; exact h3 b hb)).trans (f6.mono fun b _ hb => .inl hb)
    have g2 : Sl w6 0 112 4 p' (M.evs ++ [Ev.mk k a v]).length c' (evCells (M.evs ++ [Ev.mk k a v])) := by
      have := h25.fr f6 (fun b hb e => hm' b hb e)
      simpa [evCells, Ev.cells] using this
    have g3 : Has w6 I.m [.pointer (some ⟨I.r, 0, none⟩), .pointer (some ⟨I.rg, 0, none⟩), .pointer (some ⟨I.hi, 0, none⟩), .pointer (some ⟨I.tk, 0, none⟩), .slice none 0 0, .slice p' (M.evs ++ [Ev.mk k a v]).length c'] := by simpa using n6
    refine ⟨by trivial, ro', hr, h04.turn g1 ⟨p', c', g3, g2, hon'⟩ (by simp; omega), ?_⟩
    refine ((((f1.trans f2).trans f3).trans f4).mono (fun _ _ h => h.elim)).trans ((f5.mono fun b _ hb => by rw [h3 b hb]; decide).trans (f6.mono fun b _ hb => ?_))
    have e : b = I.m := hb
    rw [e, H.rm]; decide
theorem MachAt.ramTurn {w w' : World} {ro ro' : Ro} {I : MIds} {fr : Nat} {M : Mst} {L : List (Int × Value)} {mem : Nat → Nat} (H : MachAt w ro I fr M) (e : RExt w ro ro') (R : RamL w' ro' I.r I.hh fr L mem) (f : FrK ramK ro w w') : MachAt w' ro' I fr ⟨mem, M.evs⟩ := by
  have H' := H.ext e
  obtain ⟨p, c, h1, h2, h3⟩ := H.st
  obtain ⟨_, _, _, _, h3'⟩ := H'.st
  have hs : ∀ x, I.still x → ¬ (ro x).1 ∈ ramK := fun x hx => by rw [H.rs x hx]; decide
  exact ⟨⟨p, c, h1.fr f (by rw [H.rm]; decide), h2.fr f (fun b hb => by rw [h3 b hb]; decide), fun b hb => by rw [e b (h2.lt b hb).2]; exact h3 b hb⟩, H'.rm, ⟨L, R⟩, H.regs.fr f (hs _ (by simp [MIds.still])), H.hier.fr f (fun x hx => hs x (by simp only [MIds.still]; omega)),
    H.trk.fr f (hs _ (by simp [MIds.still])) (hs _ (by simp [MIds.still])) (hs _ (by simp [MIds.still])), H'.rs, H.le⟩
theorem FrK.le {l l' : List Nat} {ro : Ro} {w w' : World} (h : FrK l ro w w') (hl : ∀ x ∈ l, x ∈ l') : FrK l' ro w w' := h.mono fun _ _ hb => hl _ hb
theorem f127 {w : World} {ro : Ro} {I : MIds} {fr : Nat} {M : Mst} (H : MachAt w ro I fr M) (pa v : Nat) (hp : wErr fr pa = 0) (hv : v < 2 ^ 32) : Ret prog 127 #[.pointer (some ⟨I.m, 0, none⟩), .int .u64 (pa : Int), .int .u32 (v : Int)] w fun r w' =>
    r = .int .i64 0 ∧ ∃ ro', RExt w ro ro' ∧ MachAt w' ro' I fr ⟨setW M.mem pa v, pushEv M.evs ⟨1, pa, v⟩⟩ ∧ FrK machK ro w w' := by
  obtain ⟨p, c, h1, h2, h3⟩ := H.st
  obtain ⟨L, hL⟩ := H.ram
  refine F127_of _ _ _ _ _ ?_
  unfold F127; try dsimp only [Uiiiubib, Uui, lp_, ub_, ui_]
  simp only [at0_mk, Nat.zero_add]
  refine h1.ld rfl (AsP_pointer.2 ?_)
  refine Ret.use (f81 hL pa) ?_
  rintro _ _ ⟨rfl, hw⟩
  obtain rfl := hw.symm
  simp only [sb_, Nat.reduceAdd]
  rw [hp]
  refine BIf_ne (fun h => absurd rfl h) (fun _ => ?_)
  refine Ret.use (f71 H) ?_
  rintro _ w1 ⟨rfl, f1⟩
  simp only [sb_, Nat.reduceAdd]
  refine (h1.fr0 f1).ld rfl (AsP_pointer.2 ?_)
  refine Ret.use (f184 (hL.fr0 f1) pa v hp hv) ?_
  rintro _ w2 ⟨rfl, ro2, L2, e2, hL2, f2⟩
  rw [AsI_int]
  have H2 := (H.fr0 f1).ramTurn e2 hL2 f2
  have f2' : FrK machK ro w w2 := (f1.mono (fun _ _ h => h.elim)).trans (f2.le (by decide))
  have e2' : RExt w ro ro2 := fun x hx => e2 x (Nat.lt_of_lt_of_le hx f1.size)
  refine Ret.use (f78 H2 1 pa v) ?_
  rintro _ w3 ⟨rfl, ro3, e3, H3, f3⟩
  simp only [sb_, Nat.reduceAdd]
  exact ⟨by trivial, ro3, e2'.trans e3 f2'.size, H3, f2'.then e2' f3⟩
def wipeN (mem : Nat → Nat) (f : Nat) : Nat → (Nat → Nat)
  | 0 => mem
  | i + 1 => wipeM (wipeN mem f i) (f + i)
theorem f62 {w : World} {ro : Ro} {I : MIds} {fr : Nat} {M : Mst} (H : MachAt w ro I fr M) (f n : Nat) (hn : f + n ≤ fr) (h1n : 1 ≤ n) : Ret prog 62 #[.pointer (some ⟨I.m, 0, none⟩), .int .i64 (f : Int), .int .i64 (n : Int)] w fun r w' =>
    r = .int .i64 0 ∧ ∃ ro', RExt w ro ro' ∧ MachAt w' ro' I fr ⟨wipeN M.mem f n, pushEv M.evs ⟨5, f, n⟩⟩ ∧ FrK machK ro w w' := by
  have hsm : fr ≤ 65536 := by obtain ⟨L, hL⟩ := H.ram; exact hL.small
  refine F62_of _ _ _ _ _ ?_
  unfold F62; try dsimp only [Uiiiubib, lp_, ub_, ui_]
  refine BIf_neg (by omega) ?_
  refine Ret.use (f123 H f n hn h1n) ?_
  rintro _ _ ⟨rfl, hw⟩
  obtain rfl := hw.symm
  rw [AsB_bool]
  refine Ret.use (f71 H) ?_
  rintro _ w1 ⟨rfl, f1⟩
  simp only [sb_, Nat.reduceAdd]
  refine Loop.by (fun s w' => ∃ i : Nat, i ≤ n ∧ s = [.int .i64 (i : Int)] ∧ MachAt w' ro I fr ⟨wipeN M.mem f i, M.evs⟩ ∧ FrK machK ro w w') (fun s _ => match s with | [.int _ i] => n - i.toNat | _ => 0) ⟨0, by omega, rfl, H.fr0 f1, f1.mono (fun _ _ h => h.elim)⟩ ?_
  rintro _ w2 ⟨i, hi, rfl, H2, f2⟩
  simp only [UnC_cons, UnN_nil, AsI_int]
  refine BIf_cases (fun h => ?_) (fun h => ?_)
  · obtain ⟨p, c, h1, h2, h3⟩ := H2.st
    obtain ⟨L, hL⟩ := H2.ram
    try simp only [at0_mk, Nat.zero_add]
    refine h1.ld rfl (AsP_pointer.2 ?_)
    rw [w64 (n := (f : Int) + (i : Int)) (by omega) (by omega), show (f : Int) + (i : Int) = ((f + i : Nat) : Int) by omega]
    refine Ret.use (f124 hL (f + i) (by omega)) ?_
    rintro _ w3 ⟨rfl, L3, hL3, f3, z3⟩
    rw [AsI_int, w64 (n := (i : Int) + 1) (by omega) (by omega)]
    exact ⟨⟨i + 1, by omega, rfl, H2.ramTurn (RExt.refl _ _) hL3 f3, f2.trans (f3.le (by decide))⟩, by simp only [Int.toNat_natCast]; omega⟩
  · obtain rfl : i = n := by omega
    rw [wu64 (n := (f : Int)) (by omega) (by omega), wu32 (n := (i : Int)) (by omega) (by omega)]
    refine Ret.use (f78 H2 5 f i) ?_
    rintro _ w3 ⟨rfl, ro3, e3, H3, f3⟩
    simp only [sb_, Nat.reduceAdd]
    have e3' : RExt w ro ro3 := fun x hx => e3 x (Nat.lt_of_lt_of_le hx f2.size)
    exact ⟨by trivial, ro3, e3', H3, f2.trans f3⟩
theorem f27 {w : World} {ro : Ro} {I : MIds} {fr : Nat} {M : Mst} (H : MachAt w ro I fr M) : Ret prog 27 #[.pointer (some ⟨I.m, 0, none⟩)] w fun r w' =>
    (∃ p c, r = .slice p M.evs.length c ∧ Rd w' p (evCells M.evs)) ∧ MachAt w' ro I fr ⟨M.mem, []⟩ ∧ FrK machK ro w w' := by
  obtain ⟨p, c, h1, h2, h3⟩ := H.st
  have hle := H.le
  have hc := h2.le
  refine F27_of _ _ _ ?_
  unfold F27; try dsimp only [ls_]
  simp only [at0_mk, Nat.zero_add]
  refine h1.drew.ld rfl (AsSl_slice.2 ?_)
  refine h1.drew.ld rfl (AsSl_slice.2 ?_)
  rw [if_neg (by omega)]
  refine ⟨by omega, by omega, ?_⟩
  refine h1.drew.st (by simp) rfl fun w1 n1 f1 s1 => ?_
  replace f1 := f1.of_drew
  have hp : ∀ b, On p b → b ≠ I.m := fun b hb e => by have := h3 b hb; rw [e, H.rm] at this; cases this
  refine ⟨⟨p, c, ?_, (h2.fr f1 (fun b hb e => hp b hb e)).rd⟩, H.turn (f1.mono fun b _ hb => .inl hb) ⟨none, 0, by simpa using n1, Sl.nil _ _ _ _, fun b hb => ?_⟩ (by simp), f1.mono fun b _ hb => ?_⟩
  · rw [slAddr_zero]; simp
  · obtain ⟨a, h, _⟩ := hb; cases h
  · have e : b = I.m := hb
    rw [e, H.rm]; decide
theorem f80d1 {w : World} {ro : Ro} {I : MIds} {fr : Nat} {M : Mst} (hG : Gr w) (H : MachAt w ro I fr M) (word : Int) : Ret prog 80 #[.pointer (some ⟨I.m, 0, none⟩), .agg #[.int .i64 8, .int .i64 0, .int .i64 7, .int .i64 1], .int .u32 word, .bool false] w fun r w' =>
    r = .int .i64 0 ∧ ∃ ro', RExt w ro ro' ∧ MachAt w' ro' I fr ⟨M.mem, pushEv M.evs ⟨3, 2, IntKind.u32.wrap (dropVa 2 word + IntKind.u32.wrap (dropAs word))⟩⟩ ∧ FrK machK ro w w' := by
  obtain ⟨p, c, h1, h2, h3⟩ := H.st
  refine F80_of _ 8 0 7 1 _ false _ _ ?_
  unfold F80; try dsimp only [C_4, Liiii, Liiiubib, Liiuiubb, Liui, S_7, Uiiiubib, Uiiuiubb, ce_, lb_, li_, lp_, ub_, ui_]
  refine New.mk fun w1 n1 f1 s1 => ?_
  have hG1 := hG.fr0 f1
  try simp only [n1.ld_iff, sb_, Nat.reduceAdd]
  refine Ret.use (f148d1 hG1) ?_
  rintro _ w2 ⟨rfl, f2⟩
  simp only [sb_, Nat.reduceAdd]
  refine BIf_ne (fun h => absurd rfl h) (fun _ => ?_)
  have H2 := (H.fr0 f1).fr0 f2
  refine Ret.use (f71 H2) ?_
  rintro _ w3 ⟨rfl, f3⟩
  simp only [sb_, Nat.reduceAdd]
  refine New7 (fun w4 n4 f4 s4 => ?_)
  have n14 := ((n1.fr0 f2).fr0 f3).fr0 f4
  have h14 := (((h1.fr0 f1).fr0 f2).fr0 f3).fr0 f4
  try simp only [n14.ld_iff, h14.ld_iff, sb_, Nat.reduceAdd]
  have hG4 := ((hG1.fr0 f2).fr0 f3).fr0 f4
  have H4 := (H2.fr0 f3).fr0 f4
  have g4 := ((f1.trans f2).trans f3).trans f4
  refine ⟨?_, ?_⟩
  · refine Ret.use (f149d1 hG4.drew I.rg word) ?_
    rintro _ w5 ⟨rfl, f5⟩
    replace f5 := f5.of_drew
    simp only [sb_, Nat.reduceAdd]
    refine New.mk fun w6 n6 f6 s6 => ?_
    have n16 := (n14.fr0 f5).fr0 f6
    have h16 := (h14.fr0 f5).fr0 f6
    simp only [at0_mk, Nat.zero_add]
    refine ⟨⟨n16.cell.trans rfl, n16.cell.trans rfl, n16.cell.trans rfl, n16.cell.trans rfl, trivial⟩, h16.cell.trans rfl, ?_⟩
    refine Set7 n6 fun w7 n7 f7 s7 => ?_
    have f57 := (f5.trans f6).new f7 f5.size
    have h17 := h14.fr0 f57
    have H7 := H4.fr0 f57
    have g7 := g4.trans f57
    try simp only [n7.ld_iff, sb_, Nat.reduceAdd]
    refine BIf_eq (fun _ => ?_) (fun h => absurd rfl h)
    try simp only [h17.ld_iff, n7.ld_iff, sb_, Nat.reduceAdd]
    refine Ret.use (f150 (H7.hier.fr0 (Qt.refl w7).drew.fr) _ _ _) ?_
    rintro _ w8 ⟨rfl, f8⟩
    replace f8 := f8.of_drew
    rw [AsI_int]
    have n8 := n7.fr0 f8
    have h18 := h17.fr0 f8
    have H8 := H7.fr0 f8
    try simp only [h18.ld_iff, n8.ld_iff, sb_, Nat.reduceAdd]
    refine Ret.use (f151 (H8.trk.fr0 (Qt.refl w8).drew.fr) _ _ _) ?_
    rintro _ w9 ⟨rfl, f9⟩
    replace f9 := f9.of_drew
    rw [AsI_int]
    have n9 := n8.fr0 f9
    have h19 := h18.fr0 f9
    have H9 := H8.fr0 f9
    try simp only [h19.ld_iff, n9.ld_iff, sb_, Nat.reduceAdd]
    rw [show IntKind.u64.wrap 2 = 2 from by kernel_rfl]
    refine Ret.use (f78 H9 3 2 _) ?_
    rintro _ w10 ⟨rfl, ro10, e10, H10, f10⟩
    simp only [sb_, Nat.reduceAdd]
    have g9 := (g7.trans f8).trans f9
    exact ⟨by trivial, ro10, fun x hx => e10 x (Nat.lt_of_lt_of_le hx g9.size), H10, (g9.mono fun _ _ h => h.elim).trans f10⟩
  · refine New.mk fun w5 n5 f5 s5 => ?_
    have n15 := n14.fr0 f5.of_drew
    have h15 := h14.fr0 f5.of_drew
    simp only [at0_mk, Nat.zero_add]
    refine ⟨⟨n15.cell.trans rfl, n15.cell.trans rfl, n15.cell.trans rfl, n15.cell.trans rfl, trivial⟩, h15.cell.trans rfl, ?_⟩
    refine Ret.use (f149d1 (hG4.fr0 f5.of_drew) I.rg word) ?_
    rintro _ w6 ⟨rfl, f6⟩
    simp only [sb_, Nat.reduceAdd]
    refine Set7 (n5.fr0 f6) fun w7 n7 f7 s7 => ?_
    have f57 := (f5.of_drew.trans f6).new f7 (Nat.le_refl _)
    have h17 := h14.fr0 f57
    have H7 := H4.fr0 f57
    have g7 := g4.trans f57
    try simp only [n7.ld_iff, sb_, Nat.reduceAdd]
    refine BIf_eq (fun _ => ?_) (fun h => absurd rfl h)
    try simp only [h17.ld_iff, n7.ld_iff, sb_, Nat.reduceAdd]
    refine Ret.use (f150 (H7.hier.fr0 (Qt.refl w7).drew.fr) _ _ _) ?_
    rintro _ w8 ⟨rfl, f8⟩
    replace f8 := f8.of_drew
    rw [AsI_int]
    have n8 := n7.fr0 f8
    have h18 := h17.fr0 f8
    have H8 := H7.fr0 f8
    try simp only [h18.ld_iff, n8.ld_iff, sb_, Nat.reduceAdd]
    refine Ret.use (f151 (H8.trk.fr0 (Qt.refl w8).drew.fr) _ _ _) ?_
    rintro _ w9 ⟨rfl, f9⟩
    replace f9 := f9.of_drew
    rw [AsI_int]
    have n9 := n8.fr0 f9
    have h19 := h18.fr0 f9
    have H9 := H8.fr0 f9
    try simp only [h19.ld_iff, n9.ld_iff, sb_, Nat.reduceAdd]
    rw [show IntKind.u64.wrap 2 = 2 from by kernel_rfl]
    refine Ret.use (f78 H9 3 2 _) ?_
    rintro _ w10 ⟨rfl, ro10, e10, H10, f10⟩
    simp only [sb_, Nat.reduceAdd]
    have g9 := (g7.trans f8).trans f9
    exact ⟨by trivial, ro10, fun x hx => e10 x (Nat.lt_of_lt_of_le hx g9.size), H10, (g9.mono fun _ _ h => h.elim).trans f10⟩
theorem f80d2 {w : World} {ro : Ro} {I : MIds} {fr : Nat} {M : Mst} (hG : Gr w) (H : MachAt w ro I fr M) (word : Int) : Ret prog 80 #[.pointer (some ⟨I.m, 0, none⟩), .agg #[.int .i64 8, .int .i64 0, .int .i64 7, .int .i64 2], .int .u32 word, .bool false] w fun r w' =>
    r = .int .i64 0 ∧ ∃ ro', RExt w ro ro' ∧ MachAt w' ro' I fr ⟨M.mem, pushEv M.evs ⟨3, 3, IntKind.u32.wrap (dropVa 3 word + IntKind.u32.wrap (dropAs word))⟩⟩ ∧ FrK machK ro w w' := by
  obtain ⟨p, c, h1, h2, h3⟩ := H.st
  refine F80_of _ 8 0 7 2 _ false _ _ ?_
  unfold F80; try dsimp only [C_4, Liiii, Liiiubib, Liiuiubb, Liui, S_7, Uiiiubib, Uiiuiubb, ce_, lb_, li_, lp_, ub_, ui_]
  refine New.mk fun w1 n1 f1 s1 => ?_
  have hG1 := hG.fr0 f1
  try simp only [n1.ld_iff, sb_, Nat.reduceAdd]
  refine Ret.use (f148d2 hG1) ?_
  rintro _ w2 ⟨rfl, f2⟩
  simp only [sb_, Nat.reduceAdd]
  refine BIf_ne (fun h => absurd rfl h) (fun _ => ?_)
  have H2 := (H.fr0 f1).fr0 f2
  refine Ret.use (f71 H2) ?_
  rintro _ w3 ⟨rfl, f3⟩
  simp only [sb_, Nat.reduceAdd]
  refine New7 (fun w4 n4 f4 s4 => ?_)
  have n14 := ((n1.fr0 f2).fr0 f3).fr0 f4
  have h14 := (((h1.fr0 f1).fr0 f2).fr0 f3).fr0 f4
  try simp only [n14.ld_iff, h14.ld_iff, sb_, Nat.reduceAdd]
  have hG4 := ((hG1.fr0 f2).fr0 f3).fr0 f4
  have H4 := (H2.fr0 f3).fr0 f4
  have g4 := ((f1.trans f2).trans f3).trans f4
  refine ⟨?_, ?_⟩
  · refine Ret.use (f149d2 hG4.drew I.rg word) ?_
    rintro _ w5 ⟨rfl, f5⟩
    replace f5 := f5.of_drew
    simp only [sb_, Nat.reduceAdd]
    refine New.mk fun w6 n6 f6 s6 => ?_
    have n16 := (n14.fr0 f5).fr0 f6
    have h16 := (h14.fr0 f5).fr0 f6
    simp only [at0_mk, Nat.zero_add]
    refine ⟨⟨n16.cell.trans rfl, n16.cell.trans rfl, n16.cell.trans rfl, n16.cell.trans rfl, trivial⟩, h16.cell.trans rfl, ?_⟩
    refine Set7 n6 fun w7 n7 f7 s7 => ?_
    have f57 := (f5.trans f6).new f7 f5.size
    have h17 := h14.fr0 f57
    have H7 := H4.fr0 f57
    have g7 := g4.trans f57
    try simp only [n7.ld_iff, sb_, Nat.reduceAdd]
    refine BIf_eq (fun _ => ?_) (fun h => absurd rfl h)
    try simp only [h17.ld_iff, n7.ld_iff, sb_, Nat.reduceAdd]
    refine Ret.use (f150 (H7.hier.fr0 (Qt.refl w7).drew.fr) _ _ _) ?_
    rintro _ w8 ⟨rfl, f8⟩
    replace f8 := f8.of_drew
    rw [AsI_int]
    have n8 := n7.fr0 f8
    have h18 := h17.fr0 f8
    have H8 := H7.fr0 f8
    try simp only [h18.ld_iff, n8.ld_iff, sb_, Nat.reduceAdd]
    refine Ret.use (f151 (H8.trk.fr0 (Qt.refl w8).drew.fr) _ _ _) ?_
    rintro _ w9 ⟨rfl, f9⟩
    replace f9 := f9.of_drew
    rw [AsI_int]
    have n9 := n8.fr0 f9
    have h19 := h18.fr0 f9
    have H9 := H8.fr0 f9
    try simp only [h19.ld_iff, n9.ld_iff, sb_, Nat.reduceAdd]
    rw [show IntKind.u64.wrap 3 = 3 from by kernel_rfl]
    refine Ret.use (f78 H9 3 3 _) ?_
    rintro _ w10 ⟨rfl, ro10, e10, H10, f10⟩
    simp only [sb_, Nat.reduceAdd]
    have g9 := (g7.trans f8).trans f9
    exact ⟨by trivial, ro10, fun x hx => e10 x (Nat.lt_of_lt_of_le hx g9.size), H10, (g9.mono fun _ _ h => h.elim).trans f10⟩
  · refine New.mk fun w5 n5 f5 s5 => ?_
    have n15 := n14.fr0 f5.of_drew
    have h15 := h14.fr0 f5.of_drew
    simp only [at0_mk, Nat.zero_add]
    refine ⟨⟨n15.cell.trans rfl, n15.cell.trans rfl, n15.cell.trans rfl, n15.cell.trans rfl, trivial⟩, h15.cell.trans rfl, ?_⟩
    refine Ret.use (f149d2 (hG4.fr0 f5.of_drew) I.rg word) ?_
    rintro _ w6 ⟨rfl, f6⟩
    simp only [sb_, Nat.reduceAdd]
    refine Set7 (n5.fr0 f6) fun w7 n7 f7 s7 => ?_
    have f57 := (f5.of_drew.trans f6).new f7 (Nat.le_refl _)
    have h17 := h14.fr0 f57
    have H7 := H4.fr0 f57
    have g7 := g4.trans f57
    try simp only [n7.ld_iff, sb_, Nat.reduceAdd]
    refine BIf_eq (fun _ => ?_) (fun h => absurd rfl h)
    try simp only [h17.ld_iff, n7.ld_iff, sb_, Nat.reduceAdd]
    refine Ret.use (f150 (H7.hier.fr0 (Qt.refl w7).drew.fr) _ _ _) ?_
    rintro _ w8 ⟨rfl, f8⟩
    replace f8 := f8.of_drew
    rw [AsI_int]
    have n8 := n7.fr0 f8
    have h18 := h17.fr0 f8
    have H8 := H7.fr0 f8
    try simp only [h18.ld_iff, n8.ld_iff, sb_, Nat.reduceAdd]
    refine Ret.use (f151 (H8.trk.fr0 (Qt.refl w8).drew.fr) _ _ _) ?_
    rintro _ w9 ⟨rfl, f9⟩
    replace f9 := f9.of_drew
    rw [AsI_int]
    have n9 := n8.fr0 f9
    have h19 := h18.fr0 f9
    have H9 := H8.fr0 f9
    try simp only [h19.ld_iff, n9.ld_iff, sb_, Nat.reduceAdd]
    rw [show IntKind.u64.wrap 3 = 3 from by kernel_rfl]
    refine Ret.use (f78 H9 3 3 _) ?_
    rintro _ w10 ⟨rfl, ro10, e10, H10, f10⟩
    simp only [sb_, Nat.reduceAdd]
    have g9 := (g7.trans f8).trans f9
    exact ⟨by trivial, ro10, fun x hx => e10 x (Nat.lt_of_lt_of_le hx g9.size), H10, (g9.mono fun _ _ h => h.elim).trans f10⟩
end Go.Proofs.YtmgjicnipgdjhaaGreatDoor
set_option maxRecDepth 100000
set_option maxHeartbeats 4000000
namespace Go.Proofs.YtmgjicnipgdjhaaGreatDoor
open Go Go.Sh Go.Proofs
def F52 (s0 : Option Addr) (s0n s0c : Nat) (w : World) (Q : KQ) : Prop :=
  BIf s0.isNone (Q (Value.slice none (0 : Nat) (0 : Nat)) w) (RunV prog (Instr.buildSlice 33 0 #[]) w fun a b => AsSl a fun c d e => RunV prog (Builtin.append_ #[(33 : Nat), (33 : Nat)] (33 : Nat) #[Value.slice c d e, Value.slice s0 s0n s0c]) b fun f g => AsSl f fun h i j => Q (Value.slice h i j) g)
theorem F52_of (s0 : Option Addr) (s0n s0c : Nat) (w : World) (Q : KQ) (h : F52 s0 s0n s0c w Q) : Ret prog 52 #[.slice s0 s0n s0c] w Q := co Tryz.func52 (by kernel_rfl) h
def F67 (s0 : Option Addr) (s0n s0c : Nat) (i1 : Int) (v2 : Option Addr) (v2n v2c : Nat) (w : World) (Q : KQ) : Prop :=
  0 ≤ i1 ∧ i1 ≤ (↑s0n : Int) ∧ BIf ((↑v2n : Int) == 0) (Q (Value.slice s0 s0n s0c) w) (BIf (i1 == (↑s0n : Int)) (RunV prog (Builtin.append_ #[(33 : Nat), (33 : Nat)] (33 : Nat) #[Value.slice s0 s0n s0c, Value.slice v2 v2n v2c]) w fun e f => AsSl e fun g h i => Q (Value.slice g h i) f) (BIf (decide (IntKind.i64.wrap ((↑s0n : Int) + (↑v2n : Int)) > (↑s0c : Int))) (0 ≤ i1 ∧ i1 ≤ (↑s0c : Int) ∧ RunV prog (Builtin.append_ #[(33 : Nat), (3 : Nat)] (33 : Nat) #[Value.slice (slAddr s0 (0 : Nat) s0c (8 : Nat)) (i1.toNat - (0 : Nat)) (s0c - (0 : Nat)), .int .i64 (IntKind.i64.wrap (IntKind.i64.wrap ((↑s0n : Int) + (↑v2n : Int)) - i1))]) w fun j k => AsSl j fun c a b => 0 ≤ i1 ∧ i1 ≤ (↑a : Int) ∧ RunV prog (Builtin.copy_ #[(33 : Nat), (33 : Nat)] (3 : Nat) #[Value.slice (slAddr c i1.toNat b (8 : Nat)) (a - i1.toNat) (b - i1.toNat), Value.slice v2 v2n v2c]) k fun l m => AsI .i64 l fun a3 => 0 ≤ IntKind.i64.wrap (i1 + (↑v2n : Int)) ∧ IntKind.i64.wrap (i1 + (↑v2n : Int)) ≤ (↑a : Int) ∧ 0 ≤ i1 ∧ i1 ≤ (↑s0n : Int) ∧ RunV prog (Builtin.copy_ #[(33 : Nat), (33 : Nat)] (3 : Nat) #[Value.slice (slAddr c (IntKind.i64.wrap (i1 + (↑v2n : Int))).toNat b (8 : Nat)) (a - (IntKind.i64.wrap (i1 + (↑v2n : Int))).toNat) (b - (IntKind.i64.wrap (i1 + (↑v2n : Int))).toNat), Value.slice (slAddr s0 i1.toNat s0c (8 : Nat)) (s0n - i1.toNat) (s0c - i1.toNat)]) m.drew fun n o => AsI .i64 n fun a4 => Q (Value.slice c a b) o) (0 ≤ IntKind.i64.wrap ((↑s0n : Int) + (↑v2n : Int)) ∧ IntKind.i64.wrap ((↑s0n : Int) + (↑v2n : Int)) ≤ (↑s0c : Int) ∧ 0 ≤ IntKind.i64.wrap (i1 + (↑v2n : Int)) ∧ IntKind.i64.wrap (i1 + (↑v2n : Int)) ≤ (↑((IntKind.i64.wrap ((↑s0n : Int) + (↑v2n : Int))).toNat - (0 : Nat)) : Int) ∧ ExtV prog (132 : Nat) #[Value.slice v2 v2n v2c, Value.slice (slAddr (slAddr s0 (0 : Nat) s0c (8 : Nat)) (IntKind.i64.wrap (i1 + (↑v2n : Int))).toNat (s0c - (0 : Nat)) (8 : Nat)) ((IntKind.i64.wrap ((↑s0n : Int) + (↑v2n : Int))).toNat - (0 : Nat) - (IntKind.i64.wrap (i1 + (↑v2n : Int))).toNat) (s0c - (0 : Nat) - (IntKind.i64.wrap (i1 + (↑v2n : Int))).toNat)] w fun p d => AsB p fun r => BIf (!r) (0 ≤ IntKind.i64.wrap (i1 + (↑v2n : Int)) ∧ IntKind.i64.wrap (i1 + (↑v2n : Int)) ≤ (↑((IntKind.i64.wrap ((↑s0n : Int) + (↑v2n : Int))).toNat - (0 : Nat)) : Int) ∧ 0 ≤ i1 ∧ i1 ≤ (↑((IntKind.i64.wrap ((↑s0n : Int) + (↑v2n : Int))).toNat - (0 : Nat)) : Int) ∧ RunV prog (Builtin.copy_ #[(33 : Nat), (33 : Nat)] (3 : Nat) #[Value.slice (slAddr (slAddr s0 (0 : Nat) s0c (8 : Nat)) (IntKind.i64.wrap (i1 + (↑v2n : Int))).toNat (s0c - (0 : Nat)) (8 : Nat)) ((IntKind.i64.wrap ((↑s0n : Int) + (↑v2n : Int))).toNat - (0 : Nat) - (IntKind.i64.wrap (i1 + (↑v2n : Int))).toNat) (s0c - (0 : Nat) - (IntKind.i64.wrap (i1 + (↑v2n : Int))).toNat), Value.slice (slAddr (slAddr s0 (0 : Nat) s0c (8 : Nat)) i1.toNat (s0c - (0 : Nat)) (8 : Nat)) ((IntKind.i64.wrap ((↑s0n : Int) + (↑v2n : Int))).toNat - (0 : Nat) - i1.toNat) (s0c - (0 : Nat) - i1.toNat)]) d.drew fun t u => AsI .i64 t fun a5 => 0 ≤ i1 ∧ i1 ≤ (↑((IntKind.i64.wrap ((↑s0n : Int) + (↑v2n : Int))).toNat - (0 : Nat)) : Int) ∧ RunV prog (Builtin.copy_ #[(33 : Nat), (33 : Nat)] (3 : Nat) #[Value.slice (slAddr (slAddr s0 (0 : Nat) s0c (8 : Nat)) i1.toNat (s0c - (0 : Nat)) (8 : Nat)) ((IntKind.i64.wrap ((↑s0n : Int) + (↑v2n : Int))).toNat - (0 : Nat) - i1.toNat) (s0c - (0 : Nat) - i1.toNat), Value.slice v2 v2n v2c]) u fun v x => AsI .i64 v fun a6 => Q (Value.slice (slAddr s0 (0 : Nat) s0c (8 : Nat)) ((IntKind.i64.wrap ((↑s0n : Int) + (↑v2n : Int))).toNat - (0 : Nat)) (s0c - (0 : Nat))) x) ((0 : Int) ≤ (↑s0n : Int) ∧ (↑s0n : Int) ≤ (↑((IntKind.i64.wrap ((↑s0n : Int) + (↑v2n : Int))).toNat - (0 : Nat)) : Int) ∧ RunV prog (Builtin.copy_ #[(33 : Nat), (33 : Nat)] (3 : Nat) #[Value.slice (slAddr (slAddr s0 (0 : Nat) s0c (8 : Nat)) (↑s0n : Int).toNat (s0c - (0 : Nat)) (8 : Nat)) ((IntKind.i64.wrap ((↑s0n : Int) + (↑v2n : Int))).toNat - (0 : Nat) - (↑s0n : Int).toNat) (s0c - (0 : Nat) - (↑s0n : Int).toNat), Value.slice v2 v2n v2c]) d fun y z => AsI .i64 y fun a7 => 0 ≤ i1 ∧ i1 ≤ (↑((IntKind.i64.wrap ((↑s0n : Int) + (↑v2n : Int))).toNat - (0 : Nat)) : Int) ∧ CallS prog 133 #[Value.slice (slAddr (slAddr s0 (0 : Nat) s0c (8 : Nat)) i1.toNat (s0c - (0 : Nat)) (8 : Nat)) ((IntKind.i64.wrap ((↑s0n : Int) + (↑v2n : Int))).toNat - (0 : Nat) - i1.toNat) (s0c - (0 : Nat) - i1.toNat), .int .i64 (↑v2n : Int)] z fun a0 a1 => AsTup a0 fun a2 => UnN a2 (Q (Value.slice (slAddr s0 (0 : Nat) s0c (8 : Nat)) ((IntKind.i64.wrap ((↑s0n : Int) + (↑v2n : Int))).toNat - (0 : Nat)) (s0c - (0 : Nat))) a1)))))
theorem F67_of (s0 : Option Addr) (s0n s0c : Nat) (i1 : Int) (v2 : Option Addr) (v2n v2c : Nat) (w : World) (Q : KQ) (h : F67 s0 s0n s0c i1 v2 v2n v2c w Q) : Ret prog 67 #[.slice s0 s0n s0c, .int .i64 i1, .slice v2 v2n v2c] w Q := co Tryz.func67 (by kernel_rfl) h
def F88 (s0 : Option Addr) (s0n s0c : Nat) (i1 j2 : Int) (w : World) (Q : KQ) : Prop :=
  RunR prog (Instr.sliceAt 33 (Value.slice s0 s0n s0c) (some (.int .i64 i1)) (some (.int .i64 j2)) (some (.int .i64 (↑s0n : Int)))) w fun d => AsSl d fun j k l => BIf (i1 == j2) (Q (Value.slice s0 s0n s0c) w) (0 ≤ i1 ∧ i1 ≤ (↑s0c : Int) ∧ 0 ≤ j2 ∧ j2 ≤ (↑s0n : Int) ∧ RunV prog (Builtin.append_ #[(33 : Nat), (33 : Nat)] (33 : Nat) #[Value.slice (slAddr s0 (0 : Nat) s0c (8 : Nat)) (i1.toNat - (0 : Nat)) (s0c - (0 : Nat)), Value.slice (slAddr s0 j2.toNat s0c (8 : Nat)) (s0n - j2.toNat) (s0c - j2.toNat)]) w.drew fun e f => AsSl e fun c a b => (0 : Int) ≤ (↑s0n : Int) ∧ (↑s0n : Int) ≤ (↑b : Int) ∧ (0 : Int) ≤ (↑a : Int) ∧ (↑a : Int) ≤ (↑(↑s0n : Int).toNat : Int) ∧ RunV prog (Builtin.clear_ #[(33 : Nat)] (0 : Nat) #[Value.slice (slAddr c (↑a : Int).toNat b (8 : Nat)) ((↑s0n : Int).toNat - (↑a : Int).toNat) (b - (↑a : Int).toNat)]) f fun g h => AsTup g fun i => UnN i (Q (Value.slice c a b) h))
theorem F88_of (s0 : Option Addr) (s0n s0c : Nat) (i1 j2 : Int) (w : World) (Q : KQ) (h : F88 s0 s0n s0c i1 j2 w Q) : Ret prog 88 #[.slice s0 s0n s0c, .int .i64 i1, .int .i64 j2] w Q := co Tryz.func88 (by kernel_rfl) h
def F90 (s0 : Option Addr) (s0n s0c : Nat) (f1 : Value) (w : World) (Q : KQ) : Prop :=
  CallS prog 157 #[Value.slice s0 s0n s0c, f1] w fun a b => AsI .i64 a fun c => Q (.bool (decide (c ≥ 0))) b
theorem F90_of (s0 : Option Addr) (s0n s0c : Nat) (f1 : Value) (w : World) (Q : KQ) (h : F90 s0 s0n s0c f1 w Q) : Ret prog 90 #[.slice s0 s0n s0c, f1] w Q := co Tryz.func90 (by kernel_rfl) h
def F91c (t0c0 t0c1 t0c2 t0c3 t0c4 t0c5 : Int) (t0c6 t0c7 : Bool) (q1 : Addr) (w : World) (Q : KQ) : Prop :=
  New w #[.int .i64 t0c0, .int .u32 t0c1, .int .u64 t0c2, .int .i64 t0c3, .int .i64 t0c4, .int .u32 t0c5, .bool t0c6, .bool t0c7] 57 fun b c => Liuviiubb c b fun d e f g h i j k => CallS prog 89 #[Value.agg #[.int .i64 d, .int .u32 e, .int .u64 f, .int .i64 g, .int .i64 h, .int .u32 i, .bool j, .bool k]] c fun l a => AsB l fun m => BIf m (li_ a (at0 b 1) .u32 fun n => li_ a (at0 q1 1) .u32 fun o => Q (.bool (IntKind.u32.wrap (n.tdiv (1048576 : Int)) == IntKind.u32.wrap (o.tdiv (1048576 : Int)))) a) (Q (.bool false) a)
theorem F91c_of (t0c0 t0c1 t0c2 t0c3 t0c4 t0c5 : Int) (t0c6 t0c7 : Bool) (q1 : Addr) (w : World) (Q : KQ) (h : F91c t0c0 t0c1 t0c2 t0c3 t0c4 t0c5 t0c6 t0c7 q1 w Q) : Ret prog 91 #[.agg #[.int .i64 t0c0, .int .u32 t0c1, .int .u64 t0c2, .int .i64 t0c3, .int .i64 t0c4, .int .u32 t0c5, .bool t0c6, .bool t0c7], .pointer (some q1)] w Q := co Tryz.func91 (by kernel_rfl) h
def F108 (x0 : Option Addr) (x0n x0c : Nat) (count1 : Int) (w : World) (Q : KQ) : Prop :=
  Join (fun g h => UnN g (CallS prog 174 #[.int .u64 (IntKind.u64.wrap (↑x0n : Int)), .int .u64 (IntKind.u64.wrap count1)] h fun i j => AsTup i fun k => Uvv k fun l e m => UnN m (Join (fun n o => UnN n (RunV prog (Instr.makeSlice 34 (.int .i64 (IntKind.i64.wrap e)) (.int .i64 (IntKind.i64.wrap e))) o fun p r => AsSl p fun d c b => RunV prog (Builtin.copy_ #[(34 : Nat), (34 : Nat)] (3 : Nat) #[Value.slice d c b, Value.slice x0 x0n x0c]) r fun t u => AsI .i64 t fun v => Sh.Loop [.int .i64 v] u fun x y f => ui_ y .i64 fun a z => UnN z (BIf (decide (a < (↑c : Int))) (0 ≤ a ∧ a ≤ (↑c : Int) ∧ 0 ≤ a ∧ a ≤ (↑b : Int) ∧ RunV prog (Builtin.copy_ #[(34 : Nat), (34 : Nat)] (3 : Nat) #[Value.slice (slAddr d a.toNat b (1 : Nat)) (c - a.toNat) (b - a.toNat), Value.slice (slAddr d (0 : Nat) b (1 : Nat)) (a.toNat - (0 : Nat)) (b - (0 : Nat))]) f.drew fun a0 a1 => AsI .i64 a0 fun a2 => x [.int .i64 (IntKind.i64.wrap (a + a2))] a1) (Q (Value.slice d c b) f)))) fun a3 => BIf (decide (l > 0)) False (BIf (decide (e > 9223372036854775807)) False (a3 [] j))))) fun a4 => BIf (decide (count1 < 0)) False (a4 [] w)
theorem F108_of (x0 : Option Addr) (x0n x0c : Nat) (count1 : Int) (w : World) (Q : KQ) (h : F108 x0 x0n x0c count1 w Q) : Ret prog 108 #[.slice x0 x0n x0c, .int .i64 count1] w Q := co Tryz.func108 (by kernel_rfl) h
def F122 (s0 : Option Addr) (s0n s0c : Nat) (v1 : Int) (w : World) (Q : KQ) : Prop :=
  CallS prog 183 #[Value.slice s0 s0n s0c, .int .i64 v1] w fun v1 a => AsI .i64 v1 fun b => Q (.bool (decide (b ≥ 0))) a
theorem F122_of (s0 : Option Addr) (s0n s0c : Nat) (v1 : Int) (w : World) (Q : KQ) (h : F122 s0 s0n s0c v1 w Q) : Ret prog 122 #[.slice s0 s0n s0c, .int .i64 v1] w Q := co Tryz.func122 (by kernel_rfl) h
def F130 (x0 : Option Addr) (x0n x0c : Nat) (target1 : Int) (cmp2 : Value) (w : World) (Q : KQ) : Prop :=
  Sh.Loop [.int .i64 (↑x0n : Int), .int .i64 0] w fun e g c => Uii g fun b a h => UnN h (BIf (decide (a < b)) (NilP x0 fun d => 0 ≤ IntKind.i64.wrap (shrI IntKind.u64 (IntKind.u64.wrap (IntKind.i64.wrap (a + b))) (1 : Int)) ∧ IntKind.i64.wrap (shrI IntKind.u64 (IntKind.u64.wrap (IntKind.i64.wrap (a + b))) (1 : Int)) < (↑x0n : Int) ∧ Ld c (at0 d ((IntKind.i64.wrap (shrI IntKind.u64 (IntKind.u64.wrap (IntKind.i64.wrap (a + b))) (1 : Int))).toNat * 8)) fun i => AsI .i64 i fun j => Ld c (at0 (at0 d ((IntKind.i64.wrap (shrI IntKind.u64 (IntKind.u64.wrap (IntKind.i64.wrap (a + b))) (1 : Int))).toNat * 8)) (1 : Nat)) fun k => AsI .u32 k fun l => Ld c (at0 (at0 d ((IntKind.i64.wrap (shrI IntKind.u64 (IntKind.u64.wrap (IntKind.i64.wrap (a + b))) (1 : Int))).toNat * 8)) (2 : Nat)) fun m => AsI .u64 m fun n => Ld c (at0 (at0 d ((IntKind.i64.wrap (shrI IntKind.u64 (IntKind.u64.wrap (IntKind.i64.wrap (a + b))) (1 : Int))).toNat * 8)) (3 : Nat)) fun o => AsI .i64 o fun p => Ld c (at0 (at0 d ((IntKind.i64.wrap (shrI IntKind.u64 (IntKind.u64.wrap (IntKind.i64.wrap (a + b))) (1 : Int))).toNat * 8)) (4 : Nat)) fun r => AsI .i64 r fun t => Ld c (at0 (at0 d ((IntKind.i64.wrap (shrI IntKind.u64 (IntKind.u64.wrap (IntKind.i64.wrap (a + b))) (1 : Int))).toNat * 8)) (5 : Nat)) fun u => AsI .u32 u fun v => Ld c (at0 (at0 d ((IntKind.i64.wrap (shrI IntKind.u64 (IntKind.u64.wrap (IntKind.i64.wrap (a + b))) (1 : Int))).toNat * 8)) (6 : Nat)) fun x => AsB x fun y => Ld c (at0 (at0 d ((IntKind.i64.wrap (shrI IntKind.u64 (IntKind.u64.wrap (IntKind.i64.wrap (a + b))) (1 : Int))).toNat * 8)) (7 : Nat)) fun z => AsB z fun a0 => FnY prog cmp2 [Value.agg #[.int .i64 j, .int .u32 l, .int .u64 n, .int .i64 p, .int .i64 t, .int .u32 v, .bool y, .bool a0], .int .u32 target1] c fun a1 f => AsI .i64 a1 fun a2 => BIf (decide (a2 < 0)) (e [.int .i64 b, .int .i64 (IntKind.i64.wrap (IntKind.i64.wrap (shrI IntKind.u64 (IntKind.u64.wrap (IntKind.i64.wrap (a + b))) (1 : Int)) + 1))] f) (e [.int .i64 (IntKind.i64.wrap (shrI IntKind.u64 (IntKind.u64.wrap (IntKind.i64.wrap (a + b))) (1 : Int))), .int .i64 a] f)) (BIf (decide (a < (↑x0n : Int))) (NilP x0 fun a3 => 0 ≤ a ∧ a < (↑x0n : Int) ∧ Liuviiubb c (at0 a3 (a.toNat * 8)) fun a4 a5 a6 a7 a8 a9 aa ab => FnY prog cmp2 [Value.agg #[.int .i64 a4, .int .u32 a5, .int .u64 a6, .int .i64 a7, .int .i64 a8, .int .u32 a9, .bool aa, .bool ab], .int .u32 target1] c fun ac ad => AsI .i64 ac fun ae => Q (Value.tuple #[.int .i64 a, .bool (ae == 0)]) ad) (Q (Value.tuple #[.int .i64 a, .bool false]) c)))
theorem F130_of (x0 : Option Addr) (x0n x0c : Nat) (target1 : Int) (cmp2 : Value) (w : World) (Q : KQ) (h : F130 x0 x0n x0c target1 cmp2 w Q) : Ret prog 130 #[.slice x0 x0n x0c, .int .u32 target1, cmp2] w Q := co Tryz.func130 (by kernel_rfl) h
def F131 (t0c0 t0c1 t0c2 t0c3 t0c4 t0c5 : Int) (t0c6 t0c7 : Bool) (va1 : Int) (w : World) (Q : KQ) : Prop :=
  New w #[.int .i64 t0c0, .int .u32 t0c1, .int .u64 t0c2, .int .i64 t0c3, .int .i64 t0c4, .int .u32 t0c5, .bool t0c6, .bool t0c7] 57 fun b a => li_ a (at0 b 1) .u32 fun c => BIf (decide (c < va1)) (Q (.int .i64 (-1 : Int)) a) (li_ a (at0 b 1) .u32 fun d => BIf (decide (d > va1)) (Q (.int .i64 1) a) (Q (.int .i64 0) a))
theorem F131_of (t0c0 t0c1 t0c2 t0c3 t0c4 t0c5 : Int) (t0c6 t0c7 : Bool) (va1 : Int) (w : World) (Q : KQ) (h : F131 t0c0 t0c1 t0c2 t0c3 t0c4 t0c5 t0c6 t0c7 va1 w Q) : Ret prog 131 #[.agg #[.int .i64 t0c0, .int .u32 t0c1, .int .u64 t0c2, .int .i64 t0c3, .int .i64 t0c4, .int .u32 t0c5, .bool t0c6, .bool t0c7], .int .u32 va1] w Q := co Tryz.func131 (by kernel_rfl) h
def F157 (s0 : Option Addr) (s0n s0c : Nat) (f1 : Value) (w : World) (Q : KQ) : Prop :=
  Sh.Loop [.int .i64 0, .int .i64 0] w fun d e b => Uii e fun a f g => UnN g (BIf (decide (a < (↑s0n : Int))) (NilP s0 fun h => 0 ≤ a ∧ a < (↑s0n : Int) ∧ Liuviiubb b (at0 h (a.toNat * 8)) fun i j k l m n o p => FnY prog f1 [Value.agg #[.int .i64 i, .int .u32 j, .int .u64 k, .int .i64 l, .int .i64 m, .int .u32 n, .bool o, .bool p]] b fun r c => AsB r fun t => BIf t (Q (.int .i64 a) c) (d [.int .i64 (IntKind.i64.wrap (a + 1)), .int .i64 f] c)) (Q (.int .i64 (-1 : Int)) b))
theorem F157_of (s0 : Option Addr) (s0n s0c : Nat) (f1 : Value) (w : World) (Q : KQ) (h : F157 s0 s0n s0c f1 w Q) : Ret prog 157 #[.slice s0 s0n s0c, f1] w Q := co Tryz.func157 (by kernel_rfl) h
def F182c (y : Value) (s : Addr) (w : World) (Q : KQ) : Prop :=
  ls_ w s fun n d o => Sh.Loop [.int .i64 (IntKind.i64.wrap ((↑d : Int) - 1))] w fun e f b => ui_ f .i64 fun a g => UnN g (BIf (decide (a ≥ 0)) (ls_ b s fun h i p => NilP h fun j => 0 ≤ a ∧ a < (↑i : Int) ∧ Ld b (at0 j (a.toNat * 1)) fun k => FnY prog y [.int .i64 a, k] b fun l c => AsB l fun m => BIf (!m) (Q (Value.tuple #[]) c) (e [.int .i64 (IntKind.i64.wrap (a - 1))] c)) (Q (Value.tuple #[]) b))
theorem F182c_of (y : Value) (s : Addr) (w : World) (Q : KQ) (h : F182c y s w Q) : Ret prog 182 #[y, .pointer (some s)] w Q := co Tryz.func182 (by kernel_rfl) h
def F183 (s0 : Option Addr) (s0n s0c : Nat) (v1 : Int) (w : World) (Q : KQ) : Prop :=
  Sh.Loop [.int .i64 0, .int .i64 0] w fun c d b => Uii d fun a e f => UnN f (BIf (decide (a < (↑s0n : Int))) (NilP s0 fun g => 0 ≤ a ∧ a < (↑s0n : Int) ∧ li_ b (at0 g (a.toNat * 1)) .i64 fun h => BIf (v1 == h) (Q (.int .i64 a) b) (c [.int .i64 (IntKind.i64.wrap (a + 1)), .int .i64 e] b)) (Q (.int .i64 (-1 : Int)) b))
theorem F183_of (s0 : Option Addr) (s0n s0c : Nat) (v1 : Int) (w : World) (Q : KQ) (h : F183 s0 s0n s0c v1 w Q) : Ret prog 183 #[.slice s0 s0n s0c, .int .i64 v1] w Q := co Tryz.func183 (by kernel_rfl) h
def F118 (s0 : Option Addr) (s0n s0c : Nat) (w : World) (Q : KQ) : Prop :=
  New w #[Value.slice s0 s0n s0c] 225 fun a b => Q (Value.func (Fn.func 182) #[] #[.pointer (some a)]) b
theorem F118_of (s0 : Option Addr) (s0n s0c : Nat) (w : World) (Q : KQ) (h : F118 s0 s0n s0c w Q) : Ret prog 118 #[.slice s0 s0n s0c] w Q := co Tryz.func118 (by kernel_rfl) h
def F174 (x0 y1 : Int) (w : World) (Q : KQ) : Prop :=
  CallS prog 235 #[.int .u64 x0, .int .u64 y1] w fun a b => AsTup a fun c => Uvv c fun d e f => UnN f (Q (Value.tuple #[.int .u64 d, .int .u64 e]) b)
theorem F174_of (x0 y1 : Int) (w : World) (Q : KQ) (h : F174 x0 y1 w Q) : Ret prog 174 #[.int .u64 x0, .int .u64 y1] w Q := co Tryz.func174 (by kernel_rfl) h
def F235 (x0 y1 : Int) (w : World) (Q : KQ) : Prop :=
  Q (Value.tuple #[.int .u64 (IntKind.u64.wrap (IntKind.u64.wrap (IntKind.u64.wrap (shrI IntKind.u64 x0 (32 : Int) * shrI IntKind.u64 y1 (32 : Int)) + shrI IntKind.u64 (IntKind.u64.wrap (IntKind.u64.wrap (shrI IntKind.u64 x0 (32 : Int) * andI IntKind.u64 y1 (4294967295 : Int)) + shrI IntKind.u64 (IntKind.u64.wrap (andI IntKind.u64 x0 (4294967295 : Int) * andI IntKind.u64 y1 (4294967295 : Int))) (32 : Int))) (32 : Int)) + shrI IntKind.u64 (IntKind.u64.wrap (andI IntKind.u64 (IntKind.u64.wrap (IntKind.u64.wrap (shrI IntKind.u64 x0 (32 : Int) * andI IntKind.u64 y1 (4294967295 : Int)) + shrI IntKind.u64 (IntKind.u64.wrap (andI IntKind.u64 x0 (4294967295 : Int) * andI IntKind.u64 y1 (4294967295 : Int))) (32 : Int))) (4294967295 : Int) + IntKind.u64.wrap (andI IntKind.u64 x0 (4294967295 : Int) * shrI IntKind.u64 y1 (32 : Int)))) (32 : Int))), .int .u64 (IntKind.u64.wrap (x0 * y1))]) w
theorem F235_of (x0 y1 : Int) (w : World) (Q : KQ) (h : F235 x0 y1 w Q) : Ret prog 235 #[.int .u64 x0, .int .u64 y1] w Q := co Tryz.func235 (by kernel_rfl) h
end Go.Proofs.YtmgjicnipgdjhaaGreatDoor
namespace Go.Proofs.YtmgjicnipgdjhaaGreatDoor
open Go Go.Sh
def oneI (b : Bool) (i : Nat) : Int := if b = true then shlI .u32 1 i else 0
theorem f126 {w : World} (b : Bool) (i : Nat) : Ret prog 126 #[.bool b, .int .u64 (i : Int)] w fun v w' => v = .int .u32 (oneI b i) ∧ w' = w := by
  refine F126_of _ _ _ _ ?_
  unfold F126 oneI
  refine BIf_b (fun h => NN.mk (by omega) ?_) (fun h => ?_)
  · rw [if_pos h]; exact ⟨rfl, rfl⟩
  · rw [if_neg (by simp [h])]; exact ⟨rfl, rfl⟩
structure En where
  kind : Int
  base : Nat
  dom : Int
  ns : Bool
  ap : Int
  bits : Nat
  ng : Bool
  xn : Bool
def En.v (e : En) : Value := .agg #[.int .i64 e.kind, .int .u64 (e.base : Int), .int .i64 e.dom, .bool e.ns, .int .i64 e.ap, .int .u32 (e.bits : Int), .bool e.ng, .bool e.xn]
def En.blk1 (e : En) : Prop := (e.kind = 2 ∧ blkOk e.base e.ap e.bits 3 = true ∧ domOk e.dom = true) ∨ (e.kind = 3 ∧ blkOk e.base e.ap e.bits 4 = true ∧ e.dom = 0)
def En.tab (e : En) : Prop := e.kind = 1 ∧ place e.base 10 32 = true ∧ domOk e.dom = true ∧ e.ap = 0 ∧ e.bits = 0 ∧ e.ng = false ∧ e.xn = false
def En.blk2 (e : En) : Prop := (e.kind = 4 ∧ blkOk e.base e.ap e.bits 2 = true ∧ e.dom = 0 ∧ e.ns = false) ∨ (e.kind = 5 ∧ blkOk e.base e.ap e.bits 1 = true ∧ e.dom = 0 ∧ e.ns = false)
theorem f125 {w : World} (hG : Gd w) (e : En) (he : e.blk1 ∨ e.tab ∨ e.kind = 4 ∨ e.kind = 5) :
    Ret prog 125 #[e.v] w fun v w' => v = .bool (decide (e.kind = 1 ∨ e.kind = 2 ∨ e.kind = 3)) ∧ Fr0 w w' := by
  obtain ⟨kind, base, dom, ns, ap, bits, ng, xn⟩ := e
  refine F125_of _ _ _ _ _ _ _ _ _ _ ?_
  unfold F125; try dsimp only [Liubb, Livibiubb, lb_, li_]
  refine New.mk fun w1 n1 f1 s1 => ?_
  have hG1 := hG.fr0 f1
  simp only [n1.ld_iff, Ld_drew, at0_mk, List.getElem?_cons_zero, List.getElem?_cons_succ, Option.some.injEq, exists_eq_left', AsI_int, AsB_bool, AsP_pointer, AsSl_slice, AsM_map, AsTup_tuple, UnC_cons, UnN_nil, NilP_some, Nat.zero_add, Nat.reduceAdd, Nat.mul_one]
  rcases he with (⟨hk, h1, h2⟩ | ⟨hk, h1, h2⟩) | ⟨hk, h1, h2, h3, h4, h5, h6⟩ | hk | hk
  all_goals
    simp only at hk
    subst hk
  · simp only [BIf, Int.reduceBEq]
    refine Ret.use (f179 hG1 2 base dom ns ap bits ng xn 3 (by decide) (by decide)) ?_
    rintro _ w2 ⟨rfl, hf⟩
    have n2 := n1.fr0 hf
    simp only at h1 h2
    rw [h1]
    simp only [n2.ld_iff, Ld_drew, at0_mk, List.getElem?_cons_zero, List.getElem?_cons_succ, Option.some.injEq, exists_eq_left', AsI_int, AsB_bool, AsP_pointer, AsSl_slice, AsM_map, AsTup_tuple, UnC_cons, UnN_nil, NilP_some, Nat.zero_add, Nat.reduceAdd, Nat.mul_one]
    refine Ret.use (f167 dom) ?_
    rintro _ _ ⟨rfl, rfl⟩
    rw [AsB_bool, h2]
    exact ⟨rfl, f1.trans hf⟩
  · simp only [BIf, Int.reduceBEq]
    refine Ret.use (f179 hG1 3 base dom ns ap bits ng xn 4 (by decide) (by decide)) ?_
    rintro _ w2 ⟨rfl, hf⟩
    have n2 := n1.fr0 hf
    simp only at h1 h2
    subst h2
    rw [h1]
    simp only [n2.ld_iff, Ld_drew, at0_mk, List.getElem?_cons_zero, List.getElem?_cons_succ, Option.some.injEq, exists_eq_left', AsI_int, AsB_bool, AsP_pointer, AsSl_slice, AsM_map, AsTup_tuple, UnC_cons, UnN_nil, NilP_some, Nat.zero_add, Nat.reduceAdd, Nat.mul_one]
    exact ⟨rfl, f1.trans hf⟩
  · simp only [BIf, Int.reduceBEq]
    refine Ret.use (f178 base 10 32 (by decide) (by decide)) ?_
    rintro _ _ ⟨rfl, rfl⟩
    simp only at h1 h2 h3 h4 h5 h6
    subst h3 h4 h5 h6
    rw [h1]
    simp only [n1.ld_iff, Ld_drew, at0_mk, List.getElem?_cons_zero, List.getElem?_cons_succ, Option.some.injEq, exists_eq_left', AsI_int, AsB_bool, AsP_pointer, AsSl_slice, AsM_map, AsTup_tuple, UnC_cons, UnN_nil, NilP_some, Nat.zero_add, Nat.reduceAdd, Nat.mul_one]
    refine Ret.use (f167 dom) ?_
    rintro _ _ ⟨rfl, rfl⟩
    rw [AsB_bool, h2]
    simp only [n1.ld_iff, Ld_drew, at0_mk, List.getElem?_cons_zero, List.getElem?_cons_succ, Option.some.injEq, exists_eq_left', AsI_int, AsB_bool, AsP_pointer, AsSl_slice, AsM_map, AsTup_tuple, UnC_cons, UnN_nil, NilP_some, Nat.zero_add, Nat.reduceAdd, Nat.mul_one]
    refine RunP.eqlS S37 (fun w => eq37 9998 0 0 0 0 false false false false w) fun r hr => ?_
    rw [AsB_bool, hr.2 ⟨rfl, rfl, rfl, rfl⟩]
    exact ⟨rfl, f1⟩
  · exact ⟨rfl, f1⟩
  · exact ⟨rfl, f1⟩
theorem f166 {w : World} (hG : Gd w) (e : En) (he : e.blk2) : Ret prog 166 #[e.v] w fun v w' => v = .bool true ∧ Fr0 w w' := by
  obtain ⟨kind, base, dom, ns, ap, bits, ng, xn⟩ := e
  refine F166_of _ _ _ _ _ _ _ _ _ _ ?_
  unfold F166; try dsimp only [Livibiubb, lb_, li_]
  refine New.mk fun w1 n1 f1 s1 => ?_
  have hG1 := hG.fr0 f1
  simp only [n1.ld_iff, Ld_drew, at0_mk, List.getElem?_cons_zero, List.getElem?_cons_succ, Option.some.injEq, exists_eq_left', AsI_int, AsB_bool, AsP_pointer, AsSl_slice, AsM_map, AsTup_tuple, UnC_cons, UnN_nil, NilP_some, Nat.zero_add, Nat.reduceAdd, Nat.mul_one]
  rcases he with ⟨hk, h1, h2, h3⟩ | ⟨hk, h1, h2, h3⟩
  all_goals
    simp only at hk h1 h2 h3
    subst hk h2 h3
    simp only [BIf, Int.reduceBEq]
  · refine Ret.use (f179 hG1 4 base 0 false ap bits ng xn 2 (by decide) (by decide)) ?_
    rintro _ w2 ⟨rfl, hf⟩
    have n2 := n1.fr0 hf
    rw [h1]
    simp only [n2.ld_iff, Ld_drew, at0_mk, List.getElem?_cons_zero, List.getElem?_cons_succ, Option.some.injEq, exists_eq_left', AsI_int, AsB_bool, AsP_pointer, AsSl_slice, AsM_map, AsTup_tuple, UnC_cons, UnN_nil, NilP_some, Nat.zero_add, Nat.reduceAdd, Nat.mul_one]
    exact ⟨rfl, f1.trans hf⟩
  · refine Ret.use (f179 hG1 5 base 0 false ap bits ng xn 1 (by decide) (by decide)) ?_
    rintro _ w2 ⟨rfl, hf⟩
    have n2 := n1.fr0 hf
    rw [h1]
    simp only [n2.ld_iff, Ld_drew, at0_mk, List.getElem?_cons_zero, List.getElem?_cons_succ, Option.some.injEq, exists_eq_left', AsI_int, AsB_bool, AsP_pointer, AsSl_slice, AsM_map, AsTup_tuple, UnC_cons, UnN_nil, NilP_some, Nat.zero_add, Nat.reduceAdd, Nat.mul_one]
    exact ⟨rfl, f1.trans hf⟩
def encS (base dom : Int) (ns : Bool) (ap bits : Int) (ng xn : Bool) : Int := (orI IntKind.u32 (orI IntKind.u32 (orI IntKind.u32 (orI IntKind.u32 (orI IntKind.u32 (orI IntKind.u32 (orI IntKind.u32 (orI IntKind.u32 (orI IntKind.u32 (orI IntKind.u32 (shlI IntKind.u32 (shrI IntKind.u32 (IntKind.u32.wrap ap) (2 : Int)) (15 : Int)) (shlI IntKind.u32 (andI IntKind.u32 (IntKind.u32.wrap ap) (3 : Int)) (10 : Int))) (shlI IntKind.u32 (shrI IntKind.u32 bits (3 : Int)) (12 : Int))) (shlI IntKind.u32 (andI IntKind.u32 (shrI IntKind.u32 bits (1 : Int)) (3 : Int)) (2 : Int))) (shlI IntKind.u32 (andI IntKind.u32 bits (1 : Int)) (16 : Int))) (oneI ng 17)) (oneI xn 4)) (oneI ns 19)) (2 : Int)) (IntKind.u32.wrap base)) (shlI IntKind.u32 (IntKind.u32.wrap dom) (5 : Int)))
def encU (base dom : Int) (ns : Bool) (ap bits : Int) (ng xn : Bool) : Int := (orI IntKind.u32 (orI IntKind.u32 (orI IntKind.u32 (orI IntKind.u32 (orI IntKind.u32 (orI IntKind.u32 (orI IntKind.u32 (orI IntKind.u32 (orI IntKind.u32 (orI IntKind.u32 (orI IntKind.u32 (orI IntKind.u32 (shlI IntKind.u32 (shrI IntKind.u32 (IntKind.u32.wrap ap) (2 : Int)) (15 : Int)) (shlI IntKind.u32 (andI IntKind.u32 (IntKind.u32.wrap ap) (3 : Int)) (10 : Int))) (shlI IntKind.u32 (shrI IntKind.u32 bits (3 : Int)) (12 : Int))) (shlI IntKind.u32 (andI IntKind.u32 (shrI IntKind.u32 bits (1 : Int)) (3 : Int)) (2 : Int))) (shlI IntKind.u32 (andI IntKind.u32 bits (1 : Int)) (16 : Int))) (oneI ng 17)) (oneI xn 4)) (oneI ns 19)) (2 : Int)) (IntKind.u32.wrap (andI IntKind.u64 base (4278190080 : Int)))) (shlI IntKind.u32 (IntKind.u32.wrap (andI IntKind.u64 (shrI IntKind.u64 base (32 : Int)) (15 : Int))) (20 : Int))) (shlI IntKind.u32 (IntKind.u32.wrap (andI IntKind.u64 (shrI IntKind.u64 base (36 : Int)) (15 : Int))) (5 : Int))) (262144 : Int))
def encL (base ap bits : Int) (ng xn : Bool) : Int := (orI IntKind.u32 (orI IntKind.u32 (orI IntKind.u32 (orI IntKind.u32 (orI IntKind.u32 (orI IntKind.u32 (orI IntKind.u32 (orI IntKind.u32 (IntKind.u32.wrap base) (shlI IntKind.u32 (shrI IntKind.u32 (IntKind.u32.wrap ap) (2 : Int)) (9 : Int))) (shlI IntKind.u32 (andI IntKind.u32 (IntKind.u32.wrap ap) (3 : Int)) (4 : Int))) (shlI IntKind.u32 (andI IntKind.u32 (shrI IntKind.u32 bits (1 : Int)) (3 : Int)) (2 : Int))) (shlI IntKind.u32 (andI IntKind.u32 bits (1 : Int)) (10 : Int))) (oneI ng 11)) (shlI IntKind.u32 (shrI IntKind.u32 bits (3 : Int)) (12 : Int))) (oneI xn 15)) (1 : Int))
def encP (base ap bits : Int) (ng xn : Bool) : Int := (orI IntKind.u32 (orI IntKind.u32 (orI IntKind.u32 (orI IntKind.u32 (orI IntKind.u32 (orI IntKind.u32 (orI IntKind.u32 (orI IntKind.u32 (IntKind.u32.wrap base) (shlI IntKind.u32 (shrI IntKind.u32 (IntKind.u32.wrap ap) (2 : Int)) (9 : Int))) (shlI IntKind.u32 (andI IntKind.u32 (IntKind.u32.wrap ap) (3 : Int)) (4 : Int))) (shlI IntKind.u32 (andI IntKind.u32 (shrI IntKind.u32 bits (1 : Int)) (3 : Int)) (2 : Int))) (shlI IntKind.u32 (andI IntKind.u32 bits (1 : Int)) (10 : Int))) (oneI ng 11)) (shlI IntKind.u32 (shrI IntKind.u32 bits (3 : Int)) (6 : Int))) (oneI xn 0)) (2 : Int))
def encT (base dom : Int) (ns : Bool) : Int := (orI IntKind.u32 (orI IntKind.u32 (orI IntKind.u32 (IntKind.u32.wrap base) (shlI IntKind.u32 (IntKind.u32.wrap dom) (5 : Int))) (oneI ns 3)) (1 : Int))
theorem wrap32 (x : Int) : 0 ≤ IntKind.u32.wrap x ∧ IntKind.u32.wrap x < 4294967296 := by rw [IntKind.wrap_u32]; omega
theorem orI32 (a b : Int) : 0 ≤ orI .u32 a b ∧ orI .u32 a b < 4294967296 := wrap32 _
theorem encS_lt (base dom : Int) (ns : Bool) (ap bits : Int) (ng xn : Bool) : 0 ≤ encS base dom ns ap bits ng xn ∧ encS base dom ns ap bits ng xn < 4294967296 := orI32 _ _
theorem encU_lt (base dom : Int) (ns : Bool) (ap bits : Int) (ng xn : Bool) : 0 ≤ encU base dom ns ap bits ng xn ∧ encU base dom ns ap bits ng xn < 4294967296 := orI32 _ _
theorem encL_lt (base ap bits : Int) (ng xn : Bool) : 0 ≤ encL base ap bits ng xn ∧ encL base ap bits ng xn < 4294967296 := orI32 _ _
theorem encP_lt (base ap bits : Int) (ng xn : Bool) : 0 ≤ encP base ap bits ng xn ∧ encP base ap bits ng xn < 4294967296 := orI32 _ _
theorem encT_lt (base dom : Int) (ns : Bool) : 0 ≤ encT base dom ns ∧ encT base dom ns < 4294967296 := orI32 _ _
def En.enc1 (e : En) : Int := if e.kind = 1 then encT e.base e.dom e.ns else if e.kind = 2 then encS e.base e.dom e.ns e.ap e.bits e.ng e.xn else if e.kind = 3 then encU e.base e.dom e.ns e.ap e.bits e.ng e.xn else 0
def En.err1 (e : En) : Int := if e.kind = 4 ∨ e.kind = 5 then 50 else 0
theorem f63 {w : World} (hG : Gd w) (e : En) (he : e.blk1 ∨ e.tab ∨ e.kind = 4 ∨ e.kind = 5) : Ret prog 63 #[e.v] w fun v w' => v = .tuple #[.int .u32 e.enc1, .int .i64 e.err1] ∧ Fr0 w w' := by
  obtain ⟨kind, base, dom, ns, ap, bits, ng, xn⟩ := e
  refine F63_of _ _ _ _ _ _ _ _ _ _ ?_
  unfold F63; try dsimp only [Liubb, Livibiubb, S_4, ce_, lb_, li_]
  refine New.mk fun w1 n1 f1 s1 => ?_
  simp only [n1.ld_iff, Ld_drew, at0_mk, List.getElem?_cons_zero, List.getElem?_cons_succ, Option.some.injEq, exists_eq_left', AsI_int, AsB_bool, AsP_pointer, AsSl_slice, AsM_map, AsTup_tuple, UnC_cons, UnN_nil, NilP_some, Nat.zero_add, Nat.reduceAdd, Nat.mul_one]
  refine Ret.use (f125 (hG.fr0 f1) ⟨kind, base, dom, ns, ap, bits, ng, xn⟩ he) ?_
  rintro _ w2 ⟨rfl, hf⟩
  have n2 := n1.fr0 hf
  rw [AsB_bool]
  have hk : kind = 1 ∨ kind = 2 ∨ kind = 3 ∨ kind = 4 ∨ kind = 5 := by
    rcases he with (h | h) | h | h | h
    · exact .inr (.inl h.1)
    · exact .inr (.inr (.inl h.1))
    · exact .inl h.1
    · exact .inr (.inr (.inr (.inl h)))
    · exact .inr (.inr (.inr (.inr h)))
  clear he
  have fin : Fr0 w w2 := f1.trans hf
  rcases hk with hk | hk | hk | hk | hk
  all_goals
    subst hk
    simp only [Int.reduceEq, or_false, false_or, or_true, true_or, decide_true, decide_false, Bool.not_true, Bool.not_false, BIf_true, BIf_false]
  · simp only [n2.ld_iff, Ld_drew, at0_mk, List.getElem?_cons_zero, List.getElem?_cons_succ, Option.some.injEq, exists_eq_left', AsI_int, AsB_bool, AsP_pointer, AsSl_slice, AsM_map, AsTup_tuple, UnC_cons, UnN_nil, NilP_some, Nat.zero_add, Nat.reduceAdd, Nat.mul_one]
    simp only [Int.reduceBEq, BIf_false, BIf_true]
    refine Ret.use (f126 ns 3) ?_
    rintro _ w3 ⟨rfl, rfl⟩
    rw [AsI_int]
    have n3 := n2.drew
    exact ⟨n3.cell, n3.cell, rfl, fin.drew⟩
  · simp only [n2.ld_iff, Ld_drew, at0_mk, List.getElem?_cons_zero, List.getElem?_cons_succ, Option.some.injEq, exists_eq_left', AsI_int, AsB_bool, AsP_pointer, AsSl_slice, AsM_map, AsTup_tuple, UnC_cons, UnN_nil, NilP_some, Nat.zero_add, Nat.reduceAdd, Nat.mul_one]
    simp only [Int.reduceBEq, BIf_false, BIf_true]
    refine New4 fun w3 n3 f3 s3 => ?_
    have n2 := n2.fr0 f3
    simp only [n3.ld_iff, n2.ld_iff, Ld_drew, at0_mk, List.getElem?_cons_zero, List.getElem?_cons_succ, Option.some.injEq, exists_eq_left', AsI_int, AsB_bool, AsP_pointer, AsSl_slice, AsM_map, AsTup_tuple, UnC_cons, UnN_nil, NilP_some, Nat.zero_add, Nat.reduceAdd, Nat.mul_one]
    refine Ret.use (f126 ng 17) ?_
    rintro _ w4 ⟨rfl, hw⟩
    obtain rfl := hw.symm
    rw [AsI_int]
    have n3d := n3.drew
    have n2d := n2.drew
    refine ⟨n2d.cell, n3d.cell, n3d.cell, n3d.cell, n3d.cell, ?_⟩
    refine Ret.use (f126 xn 4) ?_
    rintro _ w4 ⟨rfl, hw⟩
    obtain rfl := hw.symm
    rw [AsI_int]
    refine ⟨n2d.cell, n3d.cell, n3d.cell, n3d.cell, ?_⟩
    refine Ret.use (f126 ns 19) ?_
    rintro _ w4 ⟨rfl, hw⟩
    obtain rfl := hw.symm
    rw [AsI_int]
    refine ⟨n3d.cell, n3d.cell, n3d.cell, ?_⟩
    simp only [n2d.ld_iff, n3d.ld_iff, Ld_drew, at0_mk, List.getElem?_cons_zero, List.getElem?_cons_succ, Option.some.injEq, exists_eq_left', AsI_int, AsB_bool, AsP_pointer, AsSl_slice, AsM_map, AsTup_tuple, UnC_cons, UnN_nil, NilP_some, Nat.zero_add, Nat.reduceAdd, Nat.mul_one]
    simp only [Int.reduceBEq, BIf_false, BIf_true]
    exact ⟨rfl, (fin.trans f3).drew⟩
  · simp only [n2.ld_iff, Ld_drew, at0_mk, List.getElem?_cons_zero, List.getElem?_cons_succ, Option.some.injEq, exists_eq_left', AsI_int, AsB_bool, AsP_pointer, AsSl_slice, AsM_map, AsTup_tuple, UnC_cons, UnN_nil, NilP_some, Nat.zero_add, Nat.reduceAdd, Nat.mul_one]
    simp only [Int.reduceBEq, BIf_false, BIf_true]
    refine New4 fun w3 n3 f3 s3 => ?_
    have n2 := n2.fr0 f3
    simp only [n3.ld_iff, n2.ld_iff, Ld_drew, at0_mk, List.getElem?_cons_zero, List.getElem?_cons_succ, Option.some.injEq, exists_eq_left', AsI_int, AsB_bool, AsP_pointer, AsSl_slice, AsM_map, AsTup_tuple, UnC_cons, UnN_nil, NilP_some, Nat.zero_add, Nat.reduceAdd, Nat.mul_one]
    refine Ret.use (f126 ng 17) ?_
    rintro _ w4 ⟨rfl, hw⟩
    obtain rfl := hw.symm
    rw [AsI_int]
    have n3d := n3.drew
    have n2d := n2.drew
    refine ⟨n2d.cell, n3d.cell, n3d.cell, n3d.cell, n3d.cell, ?_⟩
    refine Ret.use (f126 xn 4) ?_
    rintro _ w4 ⟨rfl, hw⟩
    obtain rfl := hw.symm
    rw [AsI_int]
    refine ⟨n2d.cell, n3d.cell, n3d.cell, n3d.cell, ?_⟩
    refine Ret.use (f126 ns 19) ?_
    rintro _ w4 ⟨rfl, hw⟩
    obtain rfl := hw.symm
    rw [AsI_int]
    refine ⟨n3d.cell, n3d.cell, n3d.cell, ?_⟩
    simp only [n2d.ld_iff, n3d.ld_iff, Ld_drew, at0_mk, List.getElem?_cons_zero, List.getElem?_cons_succ, Option.some.injEq, exists_eq_left', AsI_int, AsB_bool, AsP_pointer, AsSl_slice, AsM_map, AsTup_tuple, UnC_cons, UnN_nil, NilP_some, Nat.zero_add, Nat.reduceAdd, Nat.mul_one]
    simp only [Int.reduceBEq, BIf_false, BIf_true]
    exact ⟨rfl, (fin.trans f3).drew⟩
  · exact ⟨rfl, fin⟩
  · exact ⟨rfl, fin⟩
def En.enc2 (e : En) : Int := if e.kind = 4 then encL e.base e.ap e.bits e.ng e.xn else encP e.base e.ap e.bits e.ng e.xn
theorem f129 {w : World} (hG : Gd w) (e : En) (he : e.blk2) : Ret prog 129 #[e.v] w fun v w' => v = .tuple #[.int .u32 e.enc2, .int .i64 0] ∧ Fr0 w w' := by
  obtain ⟨kind, base, dom, ns, ap, bits, ng, xn⟩ := e
  refine F129_of _ _ _ _ _ _ _ _ _ _ ?_
  unfold F129; try dsimp only [Liubb, Livibiubb, S_4, ce_, lb_, li_]
  refine New.mk fun w1 n1 f1 s1 => ?_
  simp only [n1.ld_iff, Ld_drew, at0_mk, List.getElem?_cons_zero, List.getElem?_cons_succ, Option.some.injEq, exists_eq_left', AsI_int, AsB_bool, AsP_pointer, AsSl_slice, AsM_map, AsTup_tuple, UnC_cons, UnN_nil, NilP_some, Nat.zero_add, Nat.reduceAdd, Nat.mul_one]
  refine Ret.use (f166 (hG.fr0 f1) ⟨kind, base, dom, ns, ap, bits, ng, xn⟩ he) ?_
  rintro _ w2 ⟨rfl, hf⟩
  have n2 := n1.fr0 hf
  rw [AsB_bool]
  have hk : kind = 4 ∨ kind = 5 := by
    rcases he with h | h
    · exact .inl h.1
    · exact .inr h.1
  clear he
  have fin : Fr0 w w2 := f1.trans hf
  simp only [Bool.not_true, BIf_false]
  rcases hk with hk | hk
  all_goals
    subst hk
    simp only [n2.ld_iff, Ld_drew, at0_mk, List.getElem?_cons_zero, List.getElem?_cons_succ, Option.some.injEq, exists_eq_left', AsI_int, AsB_bool, AsP_pointer, AsSl_slice, AsM_map, AsTup_tuple, UnC_cons, UnN_nil, NilP_some, Nat.zero_add, Nat.reduceAdd, Nat.mul_one]
    simp only [Int.reduceBEq, BIf_false, BIf_true]
    refine New4 fun w3 n3 f3 s3 => ?_
    have n2 := n2.fr0 f3
    simp only [n3.ld_iff, n2.ld_iff, Ld_drew, at0_mk, List.getElem?_cons_zero, List.getElem?_cons_succ, Option.some.injEq, exists_eq_left', AsI_int, AsB_bool, AsP_pointer, AsSl_slice, AsM_map, AsTup_tuple, UnC_cons, UnN_nil, NilP_some, Nat.zero_add, Nat.reduceAdd, Nat.mul_one]
    refine Ret.use (f126 ng 11) ?_
    rintro _ w4 ⟨rfl, hw⟩
    obtain rfl := hw.symm
    rw [AsI_int]
    have n3d := n3.drew
    have n2d := n2.drew
    refine ⟨n3d.cell, n3d.cell, n2d.cell, ?_⟩
    simp only [n2d.ld_iff, n3d.ld_iff, Ld_drew, at0_mk, List.getElem?_cons_zero, List.getElem?_cons_succ, Option.some.injEq, exists_eq_left', AsI_int, AsB_bool, AsP_pointer, AsSl_slice, AsM_map, AsTup_tuple, UnC_cons, UnN_nil, NilP_some, Nat.zero_add, Nat.reduceAdd, Nat.mul_one]
    simp only [Int.reduceBEq, BIf_false, BIf_true]
  · refine Ret.use (f126 xn 15) ?_
    rintro _ w4 ⟨rfl, hw⟩
    obtain rfl := hw.symm
    rw [AsI_int]
    exact ⟨n3d.drew.cell, rfl, (fin.trans f3).drew.drew⟩
  · refine Ret.use (f126 xn 0) ?_
    rintro _ w4 ⟨rfl, hw⟩
    obtain rfl := hw.symm
    rw [AsI_int]
    exact ⟨n3d.drew.cell, rfl, (fin.trans f3).drew.drew⟩
end Go.Proofs.YtmgjicnipgdjhaaGreatDoor
set_option maxRecDepth 100000
set_option maxHeartbeats 4000000
namespace Go.Proofs.YtmgjicnipgdjhaaGreatDoor
open Go Go.Sh Go.Proofs
def F12 (e0 : Addr) (w : World) (Q : KQ) : Prop :=
  lm_ w (at0 e0 4) fun a => CallS prog 49 #[Value.map a] w fun b c => CallS prog 48 #[b] c fun d e => AsSl d fun f g h => Q (Value.slice f g h) e
theorem F12_of (e0 : Addr) (w : World) (Q : KQ) (h : F12 e0 w Q) : Ret prog 12 #[.pointer (some e0)] w Q := co Tryz.func12 (by kernel_rfl) h
def F16 (e0 : Addr) (at1 : Int) (w : World) (Q : KQ) : Prop :=
  lm_ w (at0 e0 4) fun a => RunR prog (Instr.lookup 120 (Value.map a) (.int .u64 at1) true) w fun b => AsTup b fun c => Upb c fun d e f => UnN f (BIf (!e) (Q (Value.slice none (0 : Nat) (0 : Nat)) w) (NilP d fun g => ls_ w (at0 g 2) fun h i j => CallS prog 52 #[Value.slice h i j] w fun k l => AsSl k fun m n o => Q (Value.slice m n o) l))
theorem F16_of (e0 : Addr) (at1 : Int) (w : World) (Q : KQ) (h : F16 e0 at1 w Q) : Ret prog 16 #[.pointer (some e0), .int .u64 at1] w Q := co Tryz.func16 (by kernel_rfl) h
def F18 (e0 : Addr) (at1 : Int) (w : World) (Q : KQ) : Prop :=
  lm_ w (at0 e0 4) fun c => RunR prog (Instr.lookup 120 (Value.map c) (.int .u64 at1) true) w fun d => AsTup d fun e => Upb e fun b f g => UnN g (BIf (!f) (Q (.int .i64 140) w) (NilP b fun h => ls_ w (at0 h 2) fun y i z => BIf (decide ((↑i : Int) > 0)) (Q (.int .i64 141) w) (lm_ w (at0 e0 4) fun j => RunV prog (Builtin.delete_ #[(120 : Nat), (30 : Nat)] (0 : Nat) #[Value.map j, .int .u64 at1]) w fun k a => AsTup k fun l => UnN l (lp_ a.drew (at0 e0 1) fun m => NilP b fun n => li_ a.drew (at0 n 0) .i64 fun o => NilP b fun p => li_ a.drew (at0 p 1) .i64 fun r => CallS prog 47 #[.pointer m, .int .i64 o, .int .i64 r] a.drew fun t u => AsTup t fun v => Uii v fun a0 a1 x => UnN x (Q (.int .i64 0) u)))))
theorem F18_of (e0 : Addr) (at1 : Int) (w : World) (Q : KQ) (h : F18 e0 at1 w Q) : Ret prog 18 #[.pointer (some e0), .int .u64 at1] w Q := co Tryz.func18 (by kernel_rfl) h
def F19 (e0 : Addr) (at1 asid2 : Int) (w : World) (Q : KQ) : Prop :=
  CallS prog 53 #[.pointer (some e0), .int .u64 at1, .int .i64 asid2, Value.agg #[.int .i64 0, .int .u32 0, .bool true, .bool false], Value.slice none (0 : Nat) (0 : Nat)] w fun m b => AsTup m fun n => Upsi n fun a aG aH aI e o => UnN o (BIf (e != 0) (Q (.int .i64 e) b) (NilP a fun p => ls_ b (at0 p 2) fun aJ r aK => BIf ((↑r : Int) == 0) (Q (.int .i64 e) b) (NilP a fun t => ls_ b (at0 t 2) fun u h aL => Sh.Loop [.int .i64 0] b fun v x f => ui_ x .i64 fun c y => UnN y (BIf (decide (c < (↑h : Int))) (NilP u fun z => 0 ≤ c ∧ c < (↑h : Int) ∧ Liuviiubb f (at0 z (c.toNat * 8)) fun a0 a1 a2 a3 a4 a5 a6 a7 => New f #[.int .i64 0, .int .u32 0, .int .u64 0, .int .i64 0, .int .i64 0, .int .u32 0, .bool false, .bool false] 57 fun i a8 => S_8 a8 i (.int .i64 a0) (.int .u32 a1) (.int .u64 a2) (.int .i64 a3) (.int .i64 a4) (.int .u32 a5) (.bool a6) (.bool a7) fun j => Liuviiubb j i fun a9 aa ab ac ad ae af ag => CallS prog 54 #[.pointer (some e0), .int .u64 at1, .pointer a, Value.agg #[.int .i64 a9, .int .u32 aa, .int .u64 ab, .int .i64 ac, .int .i64 ad, .int .u32 ae, .bool af, .bool ag], .int .u32 0] j fun ah ai => AsTup ah fun aj => UnN aj (v [.int .i64 (IntKind.i64.wrap (c + 1))] ai)) (CallS prog 55 #[.pointer (some e0), .int .i64 2, .int .u32 (IntKind.u32.wrap asid2)] f fun ak k => AsTup ak fun al => UnN al (NilP a fun am => lm_ k (at0 am 3) fun an => CallS prog 57 #[Value.map an] k fun ao ap => CallS prog 56 #[ao] ap fun aq ar => AsSl aq fun au l aM => Sh.Loop [.int .i64 0] ar fun av ax g => ui_ ax .i64 fun d ay => UnN ay (BIf (decide (d < (↑l : Int))) (NilP au fun az => 0 ≤ d ∧ d < (↑l : Int) ∧ li_ g (at0 az (d.toNat * 1)) .u32 fun aA => CallS prog 58 #[.pointer (some e0), .int .u64 at1, .pointer a, .int .u32 aA] g fun aB aC => AsTup aB fun aD => UnN aD (av [.int .i64 (IntKind.i64.wrap (d + 1))] aC)) (NilP a fun aE => St g (at0 aE 2) (Value.slice none (0 : Nat) (0 : Nat)) fun aF => Q (.int .i64 0) aF))))))))
theorem F19_of (e0 : Addr) (at1 asid2 : Int) (w : World) (Q : KQ) (h : F19 e0 at1 asid2 w Q) : Ret prog 19 #[.pointer (some e0), .int .u64 at1, .int .i64 asid2] w Q := co Tryz.func19 (by kernel_rfl) h
def F22 (e0 : Addr) (w : World) (Q : KQ) : Prop :=
  lp_ w (at0 e0 2) fun a => CallS prog 59 #[.pointer a] w fun b c => AsSl b fun d e f => Q (Value.slice d e f) c
theorem F22_of (e0 : Addr) (w : World) (Q : KQ) (h : F22 e0 w Q) : Ret prog 22 #[.pointer (some e0)] w Q := co Tryz.func22 (by kernel_rfl) h
def F24 (e0 : Addr) (at1 : Int) (l2 : Option Addr) (l2n l2c : Nat) (w : World) (Q : KQ) : Prop :=
  lm_ w (at0 e0 4) fun aa => RunR prog (Instr.lookup 120 (Value.map aa) (.int .u64 at1) true) w fun ab => AsTup ab fun ac => Upb ac fun b ad ae => UnN ae (BIf (!ad) (Q (.int .i64 140) w) (CallS prog 60 #[.pointer (some e0), .pointer b, Value.slice l2 l2n l2c] w fun af l => AsI .i64 af fun m => BIf (m != 0) (Q (.int .i64 m) l) (CallS prog 61 #[.pointer (some e0), .pointer b, Value.slice l2 l2n l2c] l fun ag n => AsTup ag fun ah => um_ ah fun ai aj => UnC aj fun bQ ak => ui_ ak .i64 fun o al => UnN al (BIf (o != 0) (Q (.int .i64 o) n) (Sh.Loop [.int .i64 0] n fun am an g => ui_ an .i64 fun c ao => UnN ao (BIf (decide (c < (↑l2n : Int))) (NilP l2 fun ap => 0 ≤ c ∧ c < (↑l2n : Int) ∧ Liuviiubb g (at0 ap (c.toNat * 8)) fun aq ar au av ax ay az aA => New g #[.int .i64 0, .int .u32 0, .int .u64 0, .int .i64 0, .int .i64 0, .int .u32 0, .bool false, .bool false] 57 fun a aB => S_8 aB a (.int .i64 aq) (.int .u32 ar) (.int .u64 au) (.int .i64 av) (.int .i64 ax) (.int .u32 ay) (.bool az) (.bool aA) fun p => Join (fun aC h => UnN aC (Liuviiubb h.drew a fun r t u v x y z a0 => Liuviiubb h.drew a fun aD aE aF aG aH aI aJ aK => CallS prog 65 #[Value.agg #[.int .i64 aD, .int .u32 aE, .int .u64 aF, .int .i64 aG, .int .i64 aH, .int .u32 aI, .bool aJ, .bool aK]] h.drew fun aL i => AsI .u32 aL fun aM => (C_8 i a (.int .i64 r) (.int .u32 t) (.int .u64 u) (.int .i64 v) (.int .i64 x) (.int .u32 y) (.bool z) (.bool a0) <| tt i) ∧ CallS prog 54 #[.pointer (some e0), .int .u64 at1, .pointer b, Value.agg #[.int .i64 r, .int .u32 t, .int .u64 u, .int .i64 v, .int .i64 x, .int .u32 y, .bool z, .bool a0], .int .u32 aM] i fun aN a1 => AsTup aN fun aO => UnN aO (li_ a1 (at0 a 1) .u32 fun aP => CallS prog 66 #[.pointer b, .int .u32 aP] a1 fun aQ j => AsTup aQ fun aR => Uib aR fun aS bR aT => UnN aT (NilP b fun a2 => ls_ j.drew (at0 a2 2) fun a3 a4 a5 => Liuviiubb j.drew a fun aU aV aW aX aY aZ b0 b1 => RunV prog (Instr.buildSlice 33 1 #[(0, Value.agg #[.int .i64 aU, .int .u32 aV, .int .u64 aW, .int .i64 aX, .int .i64 aY, .int .u32 aZ, .bool b0, .bool b1])]) j.drew fun b2 a6 => AsSl b2 fun b3 b4 b5 => ce_ a6 (at0 a2 2) (Value.slice a3 a4 a5) ∧ CallS prog 67 #[Value.slice a3 a4 a5, .int .i64 aS, Value.slice b3 b4 b5] a6 fun b6 b7 => AsSl b6 fun b8 b9 ba => NilP b fun bb => St b7 (at0 bb 2) (Value.slice b8 b9 ba) fun bc => am [.int .i64 (IntKind.i64.wrap (c + 1))] bc)))) fun a7 => RunR prog (Instr.lookup 147 (Value.map ai) (.int .i64 c) true) p fun bd => AsTup bd fun be => UnC be fun bf bg => AsAgg bf fun bh => Uib bh fun bi bj bk => UnN bk (ub_ bg fun bl bm => UnN bm (New p #[.int .i64 0, .bool false] 151 fun d bn => St bn d (.int .i64 bi) fun bo => St bo (at0 d 1) (.bool bj) fun e => BIf bl (Join (fun bp k => UnN bp (li_ k (at0 d 0) .i64 fun bq => li_ k (at0 a 3) .i64 fun br => CallS prog 63 #[Value.agg #[.int .i64 1, .int .u64 (IntKind.u64.wrap (IntKind.u64.wrap bq * 1024)), .int .i64 br, .bool false, .int .i64 0, .int .u32 0, .bool false, .bool false]] k fun bs a8 => AsTup bs fun bt => Uui bt fun bu bS bv => UnN bv (li_ a8 (at0 a 1) .u32 fun bx => RunV prog (Instr.buildSlice 34 1 #[(0, .int .u32 bu)]) a8 fun bz bA => AsSl bz fun bB bC bD => CallS prog 64 #[.pointer (some e0), .int .u64 (IntKind.u64.wrap (at1 + IntKind.u64.wrap (IntKind.u64.wrap (IntKind.u32.wrap (bx.tdiv (1048576 : Int))) * 4))), Value.slice bB bC bD] bA fun bE f => AsTup bE fun bF => UnN bF (NilP b fun bG => lm_ f.drew (at0 bG 3) fun bH => li_ f.drew (at0 a 1) .u32 fun bI => li_ f.drew (at0 d 0) .i64 fun bJ => RunU prog (Instr.mapUpdate 131 (Value.map bH) (.int .u32 (IntKind.u32.wrap (bI.tdiv (1048576 : Int)))) (.int .i64 bJ)) f.drew fun bK => a7 [] bK)))) fun a9 => lb_ e (at0 d 1) fun bL => BIf bL (lp_ e.drew (at0 e0 0) fun bM => li_ e.drew (at0 d 0) .i64 fun bN => CallS prog 62 #[.pointer bM, .int .i64 (IntKind.i64.wrap (bN.tdiv (4 : Int))), .int .i64 1] e.drew fun bO bP => AsI .i64 bO fun bT => a9 [] bP) (a9 [] e)) (a7 [] e)))) (Q (.int .i64 0) g)))))))
theorem F24_of (e0 : Addr) (at1 : Int) (l2 : Option Addr) (l2n l2c : Nat) (w : World) (Q : KQ) (h : F24 e0 at1 l2 l2n l2c w Q) : Ret prog 24 #[.pointer (some e0), .int .u64 at1, .slice l2 l2n l2c] w Q := co Tryz.func24 (by kernel_rfl) h
def F29 (e0 : Addr) (at1 : Int) (l2 : Option Addr) (l2n l2c : Nat) (w : World) (Q : KQ) : Prop :=
  lm_ w (at0 e0 4) fun f => RunR prog (Instr.lookup 120 (Value.map f) (.int .u64 at1) true) w fun g => AsTup g fun h => Upb h fun b i j => UnN j (BIf (!i) (Q (.int .i64 140) w) (CallS prog 60 #[.pointer (some e0), .pointer b, Value.slice l2 l2n l2c] w fun k c => AsI .i64 k fun d => BIf (d != 0) (Q (.int .i64 d) c) (CallS prog 61 #[.pointer (some e0), .pointer b, Value.slice l2 l2n l2c] c fun l e => AsTup l fun m => um_ m fun x n => UnC n fun o p => ui_ p .i64 fun a r => UnN r (BIf (a == 0) (FnY prog o [] e fun t u => AsTup t fun v => UnN v (Q (.int .i64 a) u)) (Q (.int .i64 a) e)))))
theorem F29_of (e0 : Addr) (at1 : Int) (l2 : Option Addr) (l2n l2c : Nat) (w : World) (Q : KQ) (h : F29 e0 at1 l2 l2n l2c w Q) : Ret prog 29 #[.pointer (some e0), .int .u64 at1, .slice l2 l2n l2c] w Q := co Tryz.func29 (by kernel_rfl) h
def F40 (m0 p1 : Addr) (n2 : Int) (w : World) (Q : KQ) : Prop :=
  CallS prog 21 #[.pointer (some p1)] w fun j k => AsAgg j fun l => Uii l fun m n o => UnN o (New k #[.int .i64 0, .int .i64 0] 68 fun a p => St p a (.int .i64 m) fun r => St r (at0 a 1) (.int .i64 n) fun b => BIf (decide (n2 < 1)) (Q (Value.tuple #[.pointer none, .int .i64 1]) b.drew) (BIf (decide (n2 > 7)) (Q (Value.tuple #[.pointer none, .int .i64 1]) b.drew) (li_ b.drew (at0 a 1) .i64 fun t => BIf (decide (t > 0)) (li_ b.drew (at0 a 0) .i64 fun d => li_ b.drew (at0 a 1) .i64 fun e => CallS prog 86 #[.pointer (some m0)] b.drew fun u c => AsI .i64 u fun v => ce_ c (at0 a 1) (.int .i64 e) ∧ ce_ c (at0 a 0) (.int .i64 d) ∧ BIf (decide (IntKind.i64.wrap (d + e) > v)) (Q (Value.tuple #[.pointer none, .int .i64 1]) c) (CallS prog 87 #[.pointer (some p1)] c fun x f => AsTup x fun y => Upi y fun z g a0 => UnN a0 (BIf (g != 0) (Q (Value.tuple #[.pointer none, .int .i64 g]) f) (RunV prog (Instr.makeMap 120 none) f fun a1 a2 => AsM a1 fun a3 => New a2 #[.pointer (some m0), .pointer (some p1), .pointer z, .int .i64 n2, Value.map a3] 124 fun a4 a5 => Q (Value.tuple #[.pointer (some a4), .int .i64 0]) a5)))) (CallS prog 87 #[.pointer (some p1)] b.drew fun a6 h => AsTup a6 fun a7 => Upi a7 fun a8 i a9 => UnN a9 (BIf (i != 0) (Q (Value.tuple #[.pointer none, .int .i64 i]) h) (RunV prog (Instr.makeMap 120 none) h fun aa ab => AsM aa fun ac => New ab #[.pointer (some m0), .pointer (some p1), .pointer a8, .int .i64 n2, Value.map ac] 124 fun ad ae => Q (Value.tuple #[.pointer (some ad), .int .i64 0]) ae))))))
theorem F40_of (m0 p1 : Addr) (n2 : Int) (w : World) (Q : KQ) (h : F40 m0 p1 n2 w Q) : Ret prog 40 #[.pointer (some m0), .pointer (some p1), .int .i64 n2] w Q := co Tryz.func40 (by kernel_rfl) h
def F41 (e0 : Addr) (w : World) (Q : KQ) : Prop :=
  Join (fun h d => ui_ h .i64 fun a i => UnN i (lp_ d (at0 e0 1) fun j => CallS prog 46 #[.pointer j, .int .i64 a, .int .i64 a] d fun k c => AsTup k fun l => Uii l fun b e m => UnN m (BIf (e != 0) (Q (Value.tuple #[.int .u64 0, .int .i64 e]) c) (lp_ c (at0 e0 0) fun n => CallS prog 62 #[.pointer n, .int .i64 b, .int .i64 a] c fun o f => AsI .i64 o fun a0 => lm_ f (at0 e0 4) fun p => RunV prog (Instr.makeMap 131 none) f fun r t => AsM r fun u => New t #[.int .i64 b, .int .i64 a, Value.slice none (0 : Nat) (0 : Nat), Value.map u] 133 fun v x => RunU prog (Instr.mapUpdate 120 (Value.map p) (.int .u64 (IntKind.u64.wrap (IntKind.u64.wrap b * 4096))) (.pointer (some v))) x fun y => Q (Value.tuple #[.int .u64 (IntKind.u64.wrap (IntKind.u64.wrap b * 4096)), .int .i64 0]) y)))) fun g => li_ w (at0 e0 3) .i64 fun z => BIf (z == 1) (g [.int .i64 2] w) (g [.int .i64 1] w)
theorem F41_of (e0 : Addr) (w : World) (Q : KQ) (h : F41 e0 w Q) : Ret prog 41 #[.pointer (some e0)] w Q := co Tryz.func41 (by kernel_rfl) h
def F43 (e0 : Addr) (at1 va2 : Int) (w : World) (Q : KQ) : Prop :=
  New w #[.int .i64 0, .int .u32 0, .int .u64 0, .int .i64 0, .int .i64 0, .int .u32 0, .bool false, .bool false] 57 fun a b => lm_ b (at0 e0 4) fun i => RunR prog (Instr.lookup 120 (Value.map i) (.int .u64 at1) true) b fun j => AsTup j fun k => Upb k fun e l m => UnN m (BIf (!l) (S_8 b a (.int .i64 0) (.int .u32 0) (.int .u64 0) (.int .i64 0) (.int .i64 0) (.int .u32 0) (.bool false) (.bool false) fun f => Liuviiubb f a fun n o p r t u v x => Q (Value.tuple #[Value.agg #[.int .i64 n, .int .u32 o, .int .u64 p, .int .i64 r, .int .i64 t, .int .u32 u, .bool v, .bool x], .bool false]) f) (CallS prog 66 #[.pointer e, .int .u32 va2] b fun y c => AsTup y fun z => Uib z fun d a0 a1 => UnN a1 (BIf (!a0) (S_8 c a (.int .i64 0) (.int .u32 0) (.int .u64 0) (.int .i64 0) (.int .i64 0) (.int .u32 0) (.bool false) (.bool false) fun g => Liuviiubb g a fun a2 a3 a4 a5 a6 a7 a8 a9 => Q (Value.tuple #[Value.agg #[.int .i64 a2, .int .u32 a3, .int .u64 a4, .int .i64 a5, .int .i64 a6, .int .u32 a7, .bool a8, .bool a9], .bool false]) g) (NilP e fun aa => ls_ c (at0 aa 2) fun ab ac ax => NilP ab fun ad => 0 ≤ d ∧ d < (↑ac : Int) ∧ Liuviiubb c (at0 ad (d.toNat * 8)) fun ae af ag ah ai aj ak al => S_8 c a (.int .i64 ae) (.int .u32 af) (.int .u64 ag) (.int .i64 ah) (.int .i64 ai) (.int .u32 aj) (.bool ak) (.bool al) fun h => Liuviiubb h a fun am an ao ap aq ar au av => Q (Value.tuple #[Value.agg #[.int .i64 am, .int .u32 an, .int .u64 ao, .int .i64 ap, .int .i64 aq, .int .u32 ar, .bool au, .bool av], .bool true]) h))))
theorem F43_of (e0 : Addr) (at1 va2 : Int) (w : World) (Q : KQ) (h : F43 e0 at1 va2 w Q) : Ret prog 43 #[.pointer (some e0), .int .u64 at1, .int .u32 va2] w Q := co Tryz.func43 (by kernel_rfl) h
def F44 (e0 : Addr) (at1 asid2 : Int) (vas3 : Option Addr) (vas3n vas3c : Nat) (w : World) (Q : KQ) : Prop :=
  CallS prog 53 #[.pointer (some e0), .int .u64 at1, .int .i64 asid2, Value.agg #[.int .i64 0, .int .u32 0, .bool true, .bool false], Value.slice vas3 vas3n vas3c] w fun r h => AsTup r fun t => Upsi t fun b u i b0 j v => UnN v (BIf (j != 0) (Q (.int .i64 j) h) (Sh.Loop [.int .i64 0] h fun x y d => ui_ y .i64 fun c z => UnN z (BIf (decide (c < (↑i : Int))) (Join (fun a0 a1 => UnN a0 (x [.int .i64 (IntKind.i64.wrap (c + 1))] a1)) fun e => NilP u fun a2 => 0 ≤ c ∧ c < (↑i : Int) ∧ Liuviiubb d (at0 a2 (c.toNat * 8)) fun a3 a4 a5 a6 a7 a8 a9 aa => New d #[.int .i64 0, .int .u32 0, .int .u64 0, .int .i64 0, .int .i64 0, .int .u32 0, .bool false, .bool false] 57 fun a ab => S_8 ab a (.int .i64 a3) (.int .u32 a4) (.int .u64 a5) (.int .i64 a6) (.int .i64 a7) (.int .u32 a8) (.bool a9) (.bool aa) fun k => Liuviiubb k a fun ac ad ae af ag ah ai aj => CallS prog 54 #[.pointer (some e0), .int .u64 at1, .pointer b, Value.agg #[.int .i64 ac, .int .u32 ad, .int .u64 ae, .int .i64 af, .int .i64 ag, .int .u32 ah, .bool ai, .bool aj], .int .u32 0] k fun ak l => AsTup ak fun al => UnN al (li_ l (at0 a 1) .u32 fun am => CallS prog 55 #[.pointer (some e0), .int .i64 1, .int .u32 (IntKind.u32.wrap (am + IntKind.u32.wrap asid2))] l fun an m => AsTup an fun ao => UnN ao (li_ m (at0 a 1) .u32 fun ap => CallS prog 66 #[.pointer b, .int .u32 ap] m fun aq n => AsTup aq fun ar => Uib ar fun o b1 au => UnN au (NilP b fun av => ls_ n (at0 av 2) fun ax ay az => CallS prog 88 #[Value.slice ax ay az, .int .i64 o, .int .i64 (IntKind.i64.wrap (o + 1))] n fun aA aB => AsSl aA fun aC aD aE => NilP b fun aF => St aB (at0 aF 2) (Value.slice aC aD aE) fun p => Liuviiubb p a fun aG aH aI aJ aK aL aM aN => CallS prog 89 #[Value.agg #[.int .i64 aG, .int .u32 aH, .int .u64 aI, .int .i64 aJ, .int .i64 aK, .int .u32 aL, .bool aM, .bool aN]] p fun aO f => AsB aO fun aP => BIf aP (NilP b fun aQ => ls_ f (at0 aQ 2) fun aR aS aT => CallS prog 90 #[Value.slice aR aS aT, Value.func (Fn.func 91) #[] #[.pointer (some a)]] f fun aU g => AsB aU fun aV => BIf (!aV) (li_ g (at0 a 1) .u32 fun aW => CallS prog 58 #[.pointer (some e0), .int .u64 at1, .pointer b, .int .u32 (IntKind.u32.wrap (aW.tdiv (1048576 : Int)))] g fun aX aY => AsTup aX fun aZ => UnN aZ (e [] aY)) (e [] g)) (e [] f))))) (Q (.int .i64 0) d))))
theorem F44_of (e0 : Addr) (at1 asid2 : Int) (vas3 : Option Addr) (vas3n vas3c : Nat) (w : World) (Q : KQ) (h : F44 e0 at1 asid2 vas3 vas3n vas3c w Q) : Ret prog 44 #[.pointer (some e0), .int .u64 at1, .int .i64 asid2, .slice vas3 vas3n vas3c] w Q := co Tryz.func44 (by kernel_rfl) h
def F45 (e0 : Addr) (at1 asid2 leaf3c0 leaf3c1 : Int) (leaf3c2 leaf3c3 : Bool) (vas4 : Option Addr) (vas4n vas4c : Nat) (w : World) (Q : KQ) : Prop :=
  New w #[.int .i64 leaf3c0, .int .u32 leaf3c1, .bool leaf3c2, .bool leaf3c3] 37 fun i j => Liubb j i fun a2 a3 a4 a5 => CallS prog 53 #[.pointer (some e0), .int .u64 at1, .int .i64 asid2, Value.agg #[.int .i64 a2, .int .u32 a3, .bool a4, .bool a5], Value.slice vas4 vas4n vas4c] j fun a6 k => AsTup a6 fun a7 => Upsi a7 fun c a8 l ba m a9 => UnN a9 (BIf (m != 0) (Q (.int .i64 m) k) (Sh.Loop [.int .i64 0] k fun aa ab d => ui_ ab .i64 fun b ac => UnN ac (BIf (decide (b < (↑l : Int))) (NilP a8 fun ad => 0 ≤ b ∧ b < (↑l : Int) ∧ Liuviiubb d (at0 ad (b.toNat * 8)) fun ae af ag ah ai aj ak al => New d #[.int .i64 0, .int .u32 0, .int .u64 0, .int .i64 0, .int .i64 0, .int .u32 0, .bool false, .bool false] 57 fun a am => S_8 am a (.int .i64 ae) (.int .u32 af) (.int .u64 ag) (.int .i64 ah) (.int .i64 ai) (.int .u32 aj) (.bool ak) (.bool al) fun n => Liuviiubb n a fun an ao ap aq ar au av ax => CallS prog 54 #[.pointer (some e0), .int .u64 at1, .pointer c, Value.agg #[.int .i64 an, .int .u32 ao, .int .u64 ap, .int .i64 aq, .int .i64 ar, .int .u32 au, .bool av, .bool ax], .int .u32 0] n fun ay o => AsTup ay fun az => UnN az (li_ o (at0 a 1) .u32 fun aA => CallS prog 55 #[.pointer (some e0), .int .i64 1, .int .u32 (IntKind.u32.wrap (aA + IntKind.u32.wrap asid2))] o fun aB p => AsTup aB fun aC => UnN aC (Liubb p i fun aD aE aF aG => S_4 p (at0 a 4) (.int .i64 aD) (.int .u32 aE) (.bool aF) (.bool aG) fun e => Liuviiubb e.drew a fun r t u v x y z a0 => Liuviiubb e.drew a fun aH aI aJ aK aL aM aN aO => CallS prog 65 #[Value.agg #[.int .i64 aH, .int .u32 aI, .int .u64 aJ, .int .i64 aK, .int .i64 aL, .int .u32 aM, .bool aN, .bool aO]] e.drew fun aP f => AsI .u32 aP fun aQ => (C_8 f a (.int .i64 r) (.int .u32 t) (.int .u64 u) (.int .i64 v) (.int .i64 x) (.int .u32 y) (.bool z) (.bool a0) <| tt f) ∧ CallS prog 54 #[.pointer (some e0), .int .u64 at1, .pointer c, Value.agg #[.int .i64 r, .int .u32 t, .int .u64 u, .int .i64 v, .int .i64 x, .int .u32 y, .bool z, .bool a0], .int .u32 aQ] f fun aR a1 => AsTup aR fun aS => UnN aS (li_ a1 (at0 a 1) .u32 fun aT => CallS prog 66 #[.pointer c, .int .u32 aT] a1 fun aU g => AsTup aU fun aV => Uib aV fun h bb aW => UnN aW (NilP c fun aX => ls_ g.drew (at0 aX 2) fun aY aZ bc => Liuviiubb g.drew a fun b0 b1 b2 b3 b4 b5 b6 b7 => NilP aY fun b8 => 0 ≤ h ∧ h < (↑aZ : Int) ∧ S_8 g.drew (at0 b8 (h.toNat * 8)) (.int .i64 b0) (.int .u32 b1) (.int .u64 b2) (.int .i64 b3) (.int .i64 b4) (.int .u32 b5) (.bool b6) (.bool b7) fun b9 => aa [.int .i64 (IntKind.i64.wrap (b + 1))] b9))))) (Q (.int .i64 0) d))))
theorem F45_of (e0 : Addr) (at1 asid2 leaf3c0 leaf3c1 : Int) (leaf3c2 leaf3c3 : Bool) (vas4 : Option Addr) (vas4n vas4c : Nat) (w : World) (Q : KQ) (h : F45 e0 at1 asid2 leaf3c0 leaf3c1 leaf3c2 leaf3c3 vas4 vas4n vas4c w Q) : Ret prog 45 #[.pointer (some e0), .int .u64 at1, .int .i64 asid2, .agg #[.int .i64 leaf3c0, .int .u32 leaf3c1, .bool leaf3c2, .bool leaf3c3], .slice vas4 vas4n vas4c] w Q := co Tryz.func45 (by kernel_rfl) h
def F53 (e0 : Addr) (at1 asid2 leaf3c0 leaf3c1 : Int) (leaf3c2 leaf3c3 : Bool) (vas4 : Option Addr) (vas4n vas4c : Nat) (w : World) (Q : KQ) : Prop :=
  New w #[.int .i64 leaf3c0, .int .u32 leaf3c1, .bool leaf3c2, .bool leaf3c3] 37 fun d a => lm_ a (at0 e0 4) fun p => RunR prog (Instr.lookup 120 (Value.map p) (.int .u64 at1) true) a fun r => AsTup r fun t => Upb t fun g u v => UnN v (BIf (!u) (Q (Value.tuple #[.pointer none, Value.slice none (0 : Nat) (0 : Nat), .int .i64 140]) a) (BIf (decide (asid2 < 0)) (Q (Value.tuple #[.pointer none, Value.slice none (0 : Nat) (0 : Nat), .int .i64 1]) a) (BIf (decide (asid2 > 255)) (Q (Value.tuple #[.pointer none, Value.slice none (0 : Nat) (0 : Nat), .int .i64 1]) a) (li_ a (at0 d 0) .i64 fun x => BIf (decide (x < 0)) (Q (Value.tuple #[.pointer none, Value.slice none (0 : Nat) (0 : Nat), .int .i64 1]) a) (li_ a (at0 d 0) .i64 fun y => BIf (decide (y > 7)) (Q (Value.tuple #[.pointer none, Value.slice none (0 : Nat) (0 : Nat), .int .i64 1]) a) (li_ a (at0 d 1) .u32 fun z => BIf (decide (z > 63)) (Q (Value.tuple #[.pointer none, Value.slice none (0 : Nat) (0 : Nat), .int .i64 1]) a) (lb_ a (at0 d 2) fun a0 => BIf (!a0) (Q (Value.tuple #[.pointer none, Value.slice none (0 : Nat) (0 : Nat), .int .i64 1]) a) (RunV prog (Instr.makeMap 131 none) a fun a1 a2 => AsM a1 fun h => Sh.Loop [.int .i64 0, Value.slice none (0 : Nat) (0 : Nat), .int .i64 0, Value.slice none (0 : Nat) (0 : Nat), .pointer none] a2 fun a3 a4 i => Uisisp a4 fun b l m n a5 a6 a7 a8 a9 aa => UnN aa (BIf (decide (b < (↑vas4n : Int))) (NilP vas4 fun ab => 0 ≤ b ∧ b < (↑vas4n : Int) ∧ li_ i (at0 ab (b.toNat * 1)) .u32 fun ac => CallS prog 66 #[.pointer g, .int .u32 ac] i fun ad e => AsTup ad fun ae => Uib ae fun j af ag => UnN ag (BIf (!af) (Q (Value.tuple #[.pointer none, Value.slice none (0 : Nat) (0 : Nat), .int .i64 142]) e) (NilP g fun ah => ls_ e (at0 ah 2) fun ai aj aU => NilP ai fun ak => 0 ≤ j ∧ j < (↑aj : Int) ∧ Liuviiubb e (at0 ak (j.toNat * 8)) fun al am an ao ap aq ar au => New e #[.int .i64 0, .int .u32 0, .int .u64 0, .int .i64 0, .int .i64 0, .int .u32 0, .bool false, .bool false] 57 fun f av => S_8 av f (.int .i64 al) (.int .u32 am) (.int .u64 an) (.int .i64 ao) (.int .i64 ap) (.int .u32 aq) (.bool ar) (.bool au) fun k => li_ k (at0 f 1) .u32 fun o => RunR prog (Instr.lookup 131 (Value.map h) (.int .u32 o) false) k fun ax => AsI .i64 ax fun ay => RunU prog (Instr.mapUpdate 131 (Value.map h) (.int .u32 o) (.int .i64 (IntKind.i64.wrap (ay + 1)))) k fun c => li_ c (at0 f 1) .u32 fun az => RunR prog (Instr.lookup 131 (Value.map h) (.int .u32 az) false) c fun aA => AsI .i64 aA fun aB => BIf (decide (aB > 1)) (Q (Value.tuple #[.pointer none, Value.slice none (0 : Nat) (0 : Nat), .int .i64 142]) c) (Liuviiubb c f fun aC aD aE aF aG aH aI aJ => RunV prog (Instr.buildSlice 33 1 #[(0, Value.agg #[.int .i64 aC, .int .u32 aD, .int .u64 aE, .int .i64 aF, .int .i64 aG, .int .u32 aH, .bool aI, .bool aJ])]) c fun aK aL => AsSl aK fun aM aN aO => RunV prog (Builtin.append_ #[(33 : Nat), (33 : Nat)] (33 : Nat) #[Value.slice l m n, Value.slice aM aN aO]) aL fun aP aQ => AsSl aP fun aR aS aT => a3 [.int .i64 (IntKind.i64.wrap (b + 1)), Value.slice aR aS aT, .int .i64 a5, Value.slice a6 a7 a8, .pointer a9] aQ)))) (Q (Value.tuple #[.pointer g, Value.slice l m n, .int .i64 0]) i))))))))))
theorem F53_of (e0 : Addr) (at1 asid2 leaf3c0 leaf3c1 : Int) (leaf3c2 leaf3c3 : Bool) (vas4 : Option Addr) (vas4n vas4c : Nat) (w : World) (Q : KQ) (h : F53 e0 at1 asid2 leaf3c0 leaf3c1 leaf3c2 leaf3c3 vas4 vas4n vas4c w Q) : Ret prog 53 #[.pointer (some e0), .int .u64 at1, .int .i64 asid2, .agg #[.int .i64 leaf3c0, .int .u32 leaf3c1, .bool leaf3c2, .bool leaf3c3], .slice vas4 vas4n vas4c] w Q := co Tryz.func53 (by kernel_rfl) h
def F54 (e0 : Addr) (at1 : Int) (r2 : Addr) (t3c0 t3c1 t3c2 t3c3 t3c4 t3c5 : Int) (t3c6 t3c7 : Bool) (w4 : Int) (w : World) (Q : KQ) : Prop :=
  New w #[.int .i64 t3c0, .int .u32 t3c1, .int .u64 t3c2, .int .i64 t3c3, .int .i64 t3c4, .int .u32 t3c5, .bool t3c6, .bool t3c7] 57 fun b c => Join (fun f w4_1 => ui_ f .u64 fun g h => UnN h (RunV prog (Instr.buildSlice 34 1 #[(0, .int .u32 w4)]) w4_1 fun i d => AsSl i fun j k l => li_ d (at0 b 0) .i64 fun m => CallS prog 109 #[.int .i64 m] d fun n o => AsI .i64 n fun p => CallS prog 108 #[Value.slice j k l, .int .i64 p] o fun r t => AsSl r fun u v x => CallS prog 64 #[.pointer (some e0), .int .u64 g, Value.slice u v x] t fun y z => AsTup y fun a0 => UnN a0 (Q (Value.tuple #[]) z))) fun e => Liuviiubb c b fun a1 a2 a3 a4 a5 a6 a7 a8 => CallS prog 89 #[Value.agg #[.int .i64 a1, .int .u32 a2, .int .u64 a3, .int .i64 a4, .int .i64 a5, .int .u32 a6, .bool a7, .bool a8]] c fun a9 a => AsB a9 fun aa => BIf aa (lm_ a.drew (at0 r2 3) fun ab => li_ a.drew (at0 b 1) .u32 fun ac => RunR prog (Instr.lookup 131 (Value.map ab) (.int .u32 (IntKind.u32.wrap (ac.tdiv (1048576 : Int)))) false) a.drew fun ad => AsI .i64 ad fun ae => li_ a.drew (at0 b 1) .u32 fun af => e [.int .u64 (IntKind.u64.wrap (IntKind.u64.wrap (IntKind.u64.wrap ae * 1024) + IntKind.u64.wrap (IntKind.u64.wrap (andI IntKind.u32 (shrI IntKind.u32 af (12 : Int)) (255 : Int)) * 4)))] a.drew) (li_ a (at0 b 1) .u32 fun ag => e [.int .u64 (IntKind.u64.wrap (at1 + IntKind.u64.wrap (IntKind.u64.wrap (IntKind.u32.wrap (ag.tdiv (1048576 : Int))) * 4)))] a)
theorem F54_of (e0 : Addr) (at1 : Int) (r2 : Addr) (t3c0 t3c1 t3c2 t3c3 t3c4 t3c5 : Int) (t3c6 t3c7 : Bool) (w4 : Int) (w : World) (Q : KQ) (h : F54 e0 at1 r2 t3c0 t3c1 t3c2 t3c3 t3c4 t3c5 t3c6 t3c7 w4 w Q) : Ret prog 54 #[.pointer (some e0), .int .u64 at1, .pointer (some r2), .agg #[.int .i64 t3c0, .int .u32 t3c1, .int .u64 t3c2, .int .i64 t3c3, .int .i64 t3c4, .int .u32 t3c5, .bool t3c6, .bool t3c7], .int .u32 w4] w Q := co Tryz.func54 (by kernel_rfl) h
def F55 (e0 : Addr) (op21 w2 : Int) (w : World) (Q : KQ) : Prop :=
  lp_ w (at0 e0 0) fun a => CallS prog 80 #[.pointer a, Value.agg #[.int .i64 8, .int .i64 0, .int .i64 7, .int .i64 op21], .int .u32 w2, .bool false] w fun b c => AsI .i64 b fun d => Q (Value.tuple #[]) c
theorem F55_of (e0 : Addr) (op21 w2 : Int) (w : World) (Q : KQ) (h : F55 e0 op21 w2 w Q) : Ret prog 55 #[.pointer (some e0), .int .i64 op21, .int .u32 w2] w Q := co Tryz.func55 (by kernel_rfl) h
def F58 (e0 : Addr) (at1 : Int) (r2 : Addr) (m3 : Int) (w : World) (Q : KQ) : Prop :=
  RunV prog (Instr.buildSlice 34 1 #[(0, .int .u32 0)]) w fun c d => AsSl c fun e f g => CallS prog 64 #[.pointer (some e0), .int .u64 (IntKind.u64.wrap (at1 + IntKind.u64.wrap (IntKind.u64.wrap m3 * 4))), Value.slice e f g] d fun h a => AsTup h fun i => UnN i (lp_ a.drew (at0 e0 2) fun j => lm_ a.drew (at0 r2 3) fun k => RunR prog (Instr.lookup 131 (Value.map k) (.int .u32 m3) false) a.drew fun l => AsI .i64 l fun m => CallS prog 113 #[.pointer j, .int .i64 m] a.drew fun n b => AsI .i64 n fun u => lm_ b (at0 r2 3) fun o => RunV prog (Builtin.delete_ #[(131 : Nat), (35 : Nat)] (0 : Nat) #[Value.map o, .int .u32 m3]) b fun p r => AsTup p fun t => UnN t (Q (Value.tuple #[]) r))
theorem F58_of (e0 : Addr) (at1 : Int) (r2 : Addr) (m3 : Int) (w : World) (Q : KQ) (h : F58 e0 at1 r2 m3 w Q) : Ret prog 58 #[.pointer (some e0), .int .u64 at1, .pointer (some r2), .int .u32 m3] w Q := co Tryz.func58 (by kernel_rfl) h
def F60 (e0 r1 : Addr) (l2 : Option Addr) (l2n l2c : Nat) (w : World) (Q : KQ) : Prop :=
  Sh.Loop [.int .i64 0, .int .i64 0] w fun a2 a3 g => Uii a3 fun c p a4 => UnN a4 (BIf (decide (c < (↑l2n : Int))) (NilP l2 fun a5 => 0 ≤ c ∧ c < (↑l2n : Int) ∧ Liuviiubb g (at0 a5 (c.toNat * 8)) fun a6 a7 a8 a9 aa ab ac ad => New g #[.int .i64 0, .int .u32 0, .int .u64 0, .int .i64 0, .int .i64 0, .int .u32 0, .bool false, .bool false] 57 fun f ae => S_8 ae f (.int .i64 a6) (.int .u32 a7) (.int .u64 a8) (.int .i64 a9) (.int .i64 aa) (.int .u32 ab) (.bool ac) (.bool ad) fun r => Liuviiubb r.drew f fun af ag ah ai aj ak al am => CallS prog 114 #[Value.agg #[.int .i64 af, .int .u32 ag, .int .u64 ah, .int .i64 ai, .int .i64 aj, .int .u32 ak, .bool al, .bool am]] r.drew fun an b => AsB an fun ao => BIf (!ao) (Q (.int .i64 1) b) (lb_ b (at0 (at0 f 4) 2) fun ap => BIf (!ap) (Q (.int .i64 1) b) (Liuviiubb b f fun aq ar au av ax ay az aA => li_ b (at0 e0 3) .i64 fun h => NN (IntKind.i64.wrap ((32 : Int) - h)) (CallS prog 115 #[Value.agg #[.int .i64 aq, .int .u32 ar, .int .u64 au, .int .i64 av, .int .i64 ax, .int .u32 ay, .bool az, .bool aA]] b fun aB i => AsI .u64 aB fun aC => ce_ i (at0 e0 3) (.int .i64 h) ∧ BIf (decide (aC > shlI IntKind.u64 (1 : Int) (IntKind.i64.wrap ((32 : Int) - h)))) (Q (.int .i64 1) i) (a2 [.int .i64 (IntKind.i64.wrap (c + 1)), .int .i64 p] i))))) (Sh.Loop [.int .i64 0, .int .i64 p] g fun aD aE j => Uii aE fun a aF aG => UnN aG (BIf (decide (a < (↑l2n : Int))) (NilP l2 fun aH => 0 ≤ a ∧ a < (↑l2n : Int) ∧ Liuviiubb j (at0 aH (a.toNat * 8)) fun aI aJ aK aL aM aN aO aP => New j #[.int .i64 0, .int .u32 0, .int .u64 0, .int .i64 0, .int .i64 0, .int .u32 0, .bool false, .bool false] 57 fun k aQ => S_8 aQ k (.int .i64 aI) (.int .u32 aJ) (.int .u64 aK) (.int .i64 aL) (.int .i64 aM) (.int .u32 aN) (.bool aO) (.bool aP) fun t => ls_ t (at0 r1 2) fun aR u bU => Sh.Loop [.int .i64 0, .int .i64 aF] t fun aS aT l => Uii aT fun d v aU => UnN aU (BIf (decide (d < (↑u : Int))) (NilP aR fun aV => 0 ≤ d ∧ d < (↑u : Int) ∧ Liuviiubb l (at0 aV (d.toNat * 8)) fun aW aX aY aZ b0 b1 b2 b3 => New l #[.int .i64 0, .int .u32 0, .int .u64 0, .int .i64 0, .int .i64 0, .int .u32 0, .bool false, .bool false] 57 fun x b4 => S_8 b4 x (.int .i64 aW) (.int .u32 aX) (.int .u64 aY) (.int .i64 aZ) (.int .i64 b0) (.int .u32 b1) (.bool b2) (.bool b3) fun m => Liuviiubb m k fun b5 b6 b7 b8 b9 ba bb bc => Liuviiubb m x fun bd be bf bg bh bi bj bk => CallS prog 116 #[Value.agg #[.int .i64 b5, .int .u32 b6, .int .u64 b7, .int .i64 b8, .int .i64 b9, .int .u32 ba, .bool bb, .bool bc], Value.agg #[.int .i64 bd, .int .u32 be, .int .u64 bf, .int .i64 bg, .int .i64 bh, .int .u32 bi, .bool bj, .bool bk]] m fun bl y => AsB bl fun bm => BIf bm (Q (.int .i64 141) y) (aS [.int .i64 (IntKind.i64.wrap (d + 1)), .int .i64 v] y)) (0 ≤ a ∧ a ≤ (↑l2c : Int) ∧ Sh.Loop [.int .i64 0, .int .i64 v] l fun bn bo n => Uii bo fun e z bp => UnN bp (BIf (decide (e < (↑(a.toNat - (0 : Nat)) : Int))) (NilP (slAddr l2 (0 : Nat) l2c (8 : Nat)) fun bq => 0 ≤ e ∧ e < (↑(a.toNat - (0 : Nat)) : Int) ∧ Liuviiubb n (at0 bq (e.toNat * 8)) fun br bs bt bu bv bx bz bA => New n #[.int .i64 0, .int .u32 0, .int .u64 0, .int .i64 0, .int .i64 0, .int .u32 0, .bool false, .bool false] 57 fun a0 bB => S_8 bB a0 (.int .i64 br) (.int .u32 bs) (.int .u64 bt) (.int .i64 bu) (.int .i64 bv) (.int .u32 bx) (.bool bz) (.bool bA) fun o => Liuviiubb o k fun bC bD bE bF bG bH bI bJ => Liuviiubb o a0 fun bK bL bM bN bO bP bQ bR => CallS prog 116 #[Value.agg #[.int .i64 bC, .int .u32 bD, .int .u64 bE, .int .i64 bF, .int .i64 bG, .int .u32 bH, .bool bI, .bool bJ], Value.agg #[.int .i64 bK, .int .u32 bL, .int .u64 bM, .int .i64 bN, .int .i64 bO, .int .u32 bP, .bool bQ, .bool bR]] o fun bS a1 => AsB bS fun bT => BIf bT (Q (.int .i64 141) a1) (bn [.int .i64 (IntKind.i64.wrap (e + 1)), .int .i64 z] a1)) (aD [.int .i64 (IntKind.i64.wrap (a + 1)), .int .i64 z] n))))) (Q (.int .i64 0) j))))
theorem F60_of (e0 r1 : Addr) (l2 : Option Addr) (l2n l2c : Nat) (w : World) (Q : KQ) (h : F60 e0 r1 l2 l2n l2c w Q) : Ret prog 60 #[.pointer (some e0), .pointer (some r1), .slice l2 l2n l2c] w Q := co Tryz.func60 (by kernel_rfl) h
def F61 (e0 r1 : Addr) (l2 : Option Addr) (l2n l2c : Nat) (w : World) (Q : KQ) : Prop :=
  New w #[.pointer (some e0)] 46 fun k y => RunV prog (Instr.makeMap 147 none) y fun z a0 => AsM z fun r => RunV prog (Instr.makeMap 131 none) a0 fun a1 a2 => AsM a1 fun t => New a2 #[Value.slice none (0 : Nat) (0 : Nat)] 225 fun f a3 => Sh.Loop [.int .i64 0, .int .i64 0, Value.nilFunc, Value.map none] a3 fun a4 a5 l => Uii a5 fun b g a6 => UnC a6 fun h a7 => um_ a7 fun i a8 => UnN a8 (BIf (decide (b < (↑l2n : Int))) (Join (fun a9 aa => ui_ a9 .i64 fun ab ac => UnC ac fun ad ae => um_ ae fun af ag => UnN ag (a4 [.int .i64 (IntKind.i64.wrap (b + 1)), .int .i64 ab, ad, Value.map af] aa)) fun j => NilP l2 fun ah => 0 ≤ b ∧ b < (↑l2n : Int) ∧ Liuviiubb l (at0 ah (b.toNat * 8)) fun ai aj ak al am an ao ap => New l #[.int .i64 0, .int .u32 0, .int .u64 0, .int .i64 0, .int .i64 0, .int .u32 0, .bool false, .bool false] 57 fun e aq => S_8 aq e (.int .i64 ai) (.int .u32 aj) (.int .u64 ak) (.int .i64 al) (.int .i64 am) (.int .u32 an) (.bool ao) (.bool ap) fun a => lm_ a.drew (at0 r1 3) fun ar => li_ a.drew (at0 e 1) .u32 fun au => RunR prog (Instr.lookup 131 (Value.map ar) (.int .u32 (IntKind.u32.wrap (au.tdiv (1048576 : Int)))) true) a.drew fun av => AsTup av fun ax => Uib ax fun br ay az => UnN az (li_ a.drew (at0 e 1) .u32 fun aA => RunR prog (Instr.lookup 131 (Value.map t) (.int .u32 (IntKind.u32.wrap (aA.tdiv (1048576 : Int)))) true) a.drew fun aB => AsTup aB fun aC => Uib aC fun bs aD aE => UnN aE (Liuviiubb a.drew e fun aF aG aH aI aJ aK aL aM => CallS prog 89 #[Value.agg #[.int .i64 aF, .int .u32 aG, .int .u64 aH, .int .i64 aI, .int .i64 aJ, .int .u32 aK, .bool aL, .bool aM]] a.drew fun aN c => AsB aN fun aO => BIf (!aO) (j [.int .i64 g, h, Value.map i] c) (BIf ay (j [.int .i64 g, h, Value.map i] c) (BIf aD (j [.int .i64 g, h, Value.map i] c) (lp_ c k fun aP => NilP aP fun aQ => lp_ c (at0 aQ 2) fun aR => CallS prog 119 #[.pointer aR] c fun aS m => AsSl aS fun aT aU aV => lp_ m k fun aW => NilP aW fun aX => lp_ m (at0 aX 2) fun aY => CallS prog 120 #[.pointer aY] m fun aZ b0 => AsTup aZ fun b1 => Uii b1 fun b2 u b3 => UnN b3 (New b0 #[.int .i64 0] 3 fun d b4 => St b4 d (.int .i64 b2) fun n => BIf (u != 0) (FnY prog (Value.func (Fn.func 117) #[] #[.pointer (some f)]) [] n fun b5 b6 => AsTup b5 fun b7 => UnN b7 (Q (Value.tuple #[Value.map none, Value.nilFunc, .int .i64 u]) b6)) (ls_ n f fun b8 b9 ba => RunV prog (Instr.buildSlice 225 1 #[(0, Value.func (Fn.func 121) #[] #[.pointer (some k), .pointer (some d)])]) n fun bb bc => AsSl bb fun bd be bf => RunV prog (Builtin.append_ #[(225 : Nat), (225 : Nat)] (225 : Nat) #[Value.slice b8 b9 ba, Value.slice bd be bf]) bc fun bg bh => AsSl bg fun bi bj bk => St bh f (Value.slice bi bj bk) fun o => li_ o.drew d .i64 fun v => li_ o.drew d .i64 fun bl => CallS prog 122 #[Value.slice aT aU aV, .int .i64 (IntKind.i64.wrap (bl.tdiv (4 : Int)))] o.drew fun bm x => AsB bm fun bn => ce_ x d (.int .i64 v) ∧ RunU prog (Instr.mapUpdate 147 (Value.map r) (.int .i64 b) (Value.agg #[.int .i64 v, .bool !bn])) x fun p => li_ p (at0 e 1) .u32 fun bo => li_ p d .i64 fun bp => RunU prog (Instr.mapUpdate 131 (Value.map t) (.int .u32 (IntKind.u32.wrap (bo.tdiv (1048576 : Int)))) (.int .i64 bp)) p fun bq => j [.int .i64 g, h, Value.map i] bq)))))))) (Q (Value.tuple #[Value.map r, Value.func (Fn.func 117) #[] #[.pointer (some f)], .int .i64 0]) l))
theorem F61_of (e0 r1 : Addr) (l2 : Option Addr) (l2n l2c : Nat) (w : World) (Q : KQ) (h : F61 e0 r1 l2 l2n l2c w Q) : Ret prog 61 #[.pointer (some e0), .pointer (some r1), .slice l2 l2n l2c] w Q := co Tryz.func61 (by kernel_rfl) h
def F64 (e0 : Addr) (at1 : Int) (words2 : Option Addr) (words2n words2c : Nat) (w : World) (Q : KQ) : Prop :=
  Sh.Loop [.int .i64 0] w fun c d b => ui_ d .i64 fun a e => UnN e (BIf (decide (a < (↑words2n : Int))) (NilP words2 fun f => 0 ≤ a ∧ a < (↑words2n : Int) ∧ li_ b (at0 f (a.toNat * 1)) .u32 fun g => lp_ b (at0 e0 0) fun h => CallS prog 127 #[.pointer h, .int .u64 (IntKind.u64.wrap (at1 + IntKind.u64.wrap ((4 : Int) * IntKind.u64.wrap a))), .int .u32 g] b fun i j => AsI .i64 i fun k => c [.int .i64 (IntKind.i64.wrap (a + 1))] j) (Q (Value.tuple #[]) b))
theorem F64_of (e0 : Addr) (at1 : Int) (words2 : Option Addr) (words2n words2c : Nat) (w : World) (Q : KQ) (h : F64 e0 at1 words2 words2n words2c w Q) : Ret prog 64 #[.pointer (some e0), .int .u64 at1, .slice words2 words2n words2c] w Q := co Tryz.func64 (by kernel_rfl) h
def F66 (r0 : Addr) (va1 : Int) (w : World) (Q : KQ) : Prop :=
  ls_ w (at0 r0 2) fun f g h => CallS prog 130 #[Value.slice f g h, .int .u32 va1, Value.func (Fn.func 131) #[] #[]] w fun i b => AsTup i fun j => Uib j fun a d k => UnN k (BIf (!d) (BIf (decide (a > 0)) (ls_ b (at0 r0 2) fun l m a8 => NilP l fun c => 0 ≤ IntKind.i64.wrap (a - 1) ∧ IntKind.i64.wrap (a - 1) < (↑m : Int) ∧ Ld b (at0 c ((IntKind.i64.wrap (a - 1)).toNat * 8)) fun n => AsI .i64 n fun o => Ld b (at0 (at0 c ((IntKind.i64.wrap (a - 1)).toNat * 8)) (1 : Nat)) fun p => AsI .u32 p fun r => Ld b (at0 (at0 c ((IntKind.i64.wrap (a - 1)).toNat * 8)) (2 : Nat)) fun t => AsI .u64 t fun u => Ld b (at0 (at0 c ((IntKind.i64.wrap (a - 1)).toNat * 8)) (3 : Nat)) fun v => AsI .i64 v fun x => Ld b (at0 (at0 c ((IntKind.i64.wrap (a - 1)).toNat * 8)) (4 : Nat)) fun y => AsI .i64 y fun z => Ld b (at0 (at0 c ((IntKind.i64.wrap (a - 1)).toNat * 8)) (5 : Nat)) fun a0 => AsI .u32 a0 fun a1 => Ld b (at0 (at0 c ((IntKind.i64.wrap (a - 1)).toNat * 8)) (6 : Nat)) fun a2 => AsB a2 fun a3 => Ld b (at0 (at0 c ((IntKind.i64.wrap (a - 1)).toNat * 8)) (7 : Nat)) fun a4 => AsB a4 fun a5 => CallS prog 115 #[Value.agg #[.int .i64 o, .int .u32 r, .int .u64 u, .int .i64 x, .int .i64 z, .int .u32 a1, .bool a3, .bool a5]] b fun a6 e => AsI .u64 a6 fun a7 => BIf (decide (IntKind.u64.wrap va1 < a7)) (Q (Value.tuple #[.int .i64 (IntKind.i64.wrap (a - 1)), .bool true]) e) (Q (Value.tuple #[.int .i64 a, .bool d]) e)) (Q (Value.tuple #[.int .i64 a, .bool d]) b)) (Q (Value.tuple #[.int .i64 a, .bool d]) b))
theorem F66_of (r0 : Addr) (va1 : Int) (w : World) (Q : KQ) (h : F66 r0 va1 w Q) : Ret prog 66 #[.pointer (some r0), .int .u32 va1] w Q := co Tryz.func66 (by kernel_rfl) h
def F117c (u : Addr) (w : World) (Q : KQ) : Prop :=
  ls_ w u fun a b c => CallS prog 118 #[Value.slice a b c] w fun d e => RangeF prog d e (fun f g h i => UnC f fun x j => UnC j fun k l => UnN l (h g fun m => FnY prog k [] m fun n o => AsTup n fun p => UnN p (i o))) fun r t => FinM [r] t fun v => Q (Value.tuple #[]) v
theorem F117c_of (u : Addr) (w : World) (Q : KQ) (h : F117c u w Q) : Ret prog 117 #[.pointer (some u)] w Q := co Tryz.func117 (by kernel_rfl) h
def F121c (e n : Addr) (w : World) (Q : KQ) : Prop :=
  lp_ w.drew e fun a => NilP a fun b => lp_ w.drew (at0 b 2) fun c => li_ w.drew n .i64 fun d => CallS prog 113 #[.pointer c, .int .i64 d] w.drew fun f g => AsI .i64 f fun h => Q (Value.tuple #[]) g
theorem F121c_of (e n : Addr) (w : World) (Q : KQ) (h : F121c e n w Q) : Ret prog 121 #[.pointer (some e), .pointer (some n)] w Q := co Tryz.func121 (by kernel_rfl) h
end Go.Proofs.YtmgjicnipgdjhaaGreatDoor
namespace Go.Proofs.YtmgjicnipgdjhaaGreatDoor
open Go Go.Sh
def Tr.en (t : Tr) : En := ⟨knd.getD t.size.toNat 0, t.pa, if t.size = 3 then t.dom else 0, false, t.ap, t.bits, t.ng, t.xn⟩
theorem Gd.cell1 {w : World} (h : Gd w) {i : Nat} (hi : i < 5) : w.cell? ⟨1, i, none⟩ = some (.int .i64 (knd.getD i 0)) := h.kd i hi
theorem f128 {w : World} (hG : Gd w) (t : Tr) (hva : t.va < 4294967296) (hr : t.right = true) : Ret prog 128 #[t.v] w fun v w' => v = .tuple #[t.en.v, .int .i64 0] ∧ Fr0 w w' := by
  obtain ⟨size, va, pa, dom, ap, bits, ng, xn⟩ := t
  have hsz : sized size = true := by unfold Tr.right at hr; simp only [Bool.and_eq_true] at hr; exact hr.1.1.1.1
  have h14 := sized_iff.1 hsz
  refine F128_of _ _ _ _ _ _ _ _ _ _ ?_
  unfold F128; try dsimp only [C_4, Liubb, Liuviiubb, Livibiubb, S_8, ce_, lb_, li_]
  refine New.mk fun w1 n1 f1 s1 => New.mk fun w2 r2 f2 s2 => ?_
  have n2 := n1.fr0 f2
  try simp only [n2.ld_iff, r2.ld_iff, Ld_drew, at0_mk, List.getElem?_cons_zero, List.getElem?_cons_succ, Option.some.injEq, exists_eq_left', AsI_int, AsB_bool, AsP_pointer, AsSl_slice, AsM_map, AsTup_tuple, UnC_cons, UnN_nil, NilP_some, Nat.zero_add, Nat.reduceAdd, Nat.mul_one]
  refine Ret.use (f114 ((hG.fr0 f1).fr0 f2) ⟨size, va, pa, dom, ap, bits, ng, xn⟩ hva) ?_
  rintro _ w3 ⟨rfl, hf3⟩
  have n3 := n2.fr0 hf3
  have r3 := r2.fr0 hf3
  have fin3 : Fr0 w w3 := (f1.trans f2).trans hf3
  rw [AsB_bool, hr, Bool.not_true, BIf_false]
  try simp only [n3.ld_iff, r3.ld_iff, Ld_drew, at0_mk, List.getElem?_cons_zero, List.getElem?_cons_succ, Option.some.injEq, exists_eq_left', AsI_int, AsB_bool, AsP_pointer, AsSl_slice, AsM_map, AsTup_tuple, UnC_cons, UnN_nil, NilP_some, Nat.zero_add, Nat.reduceAdd, Nat.mul_one]
  have hc := (hG.fr0 fin3).cell1 (i := size.toNat) (by omega)
  refine ⟨by omega, by omega, LdC hc (AsI_int.2 ?_)⟩
  try simp only [n3.ld_iff, r3.ld_iff, Ld_drew, at0_mk, List.getElem?_cons_zero, List.getElem?_cons_succ, Option.some.injEq, exists_eq_left', AsI_int, AsB_bool, AsP_pointer, AsSl_slice, AsM_map, AsTup_tuple, UnC_cons, UnN_nil, NilP_some, Nat.zero_add, Nat.reduceAdd, Nat.mul_one]
  refine New.mk fun w4 e4 f4 s4 => ?_
  have f4 : Fr0 w3 w4 := f4.of_drew
  have n4 := n3.fr0 f4
  have r4 := r3.fr0 f4
  have fin4 := fin3.trans f4
  have hc4 := (hG.fr0 fin4).cell1 (i := size.toNat) (by omega)
  simp only [Ld_drew, at0_mk, List.getElem?_cons_zero, List.getElem?_cons_succ, Option.some.injEq, exists_eq_left', AsI_int, AsB_bool, AsP_pointer, AsSl_slice, AsM_map, AsTup_tuple, UnC_cons, UnN_nil, NilP_some, Nat.zero_add, Nat.reduceAdd, Nat.mul_one]
  refine ⟨⟨n4.cell, n4.cell, n4.cell, n4.cell, trivial⟩, n4.cell, hc4, n4.cell, ?_⟩
  refine Set8 e4 (fun w5 e5 f5 s5 => ?_)
  have hb1 := n1.lt
  have z1 : w1.heap.size = w.heap.size + 1 := s1
  have z2 : w2.heap.size = w.heap.size + 2 := by omega
  have z3 := hf3.size
  have n5 := n4.fr f5 (by show ¬ (w.heap.size = w3.drew.heap.size); show ¬ (w.heap.size = w3.heap.size); omega)
  have r5 := r4.fr f5 (by show ¬ (w1.heap.size = w3.heap.size); omega)
  try simp only [n5.ld_iff, r5.ld_iff, e5.ld_iff, Ld_drew, at0_mk, List.getElem?_cons_zero, List.getElem?_cons_succ, Option.some.injEq, exists_eq_left', AsI_int, AsB_bool, AsP_pointer, AsSl_slice, AsM_map, AsTup_tuple, UnC_cons, UnN_nil, NilP_some, Nat.zero_add, Nat.reduceAdd, Nat.mul_one]
  have one : Fr (fun x => w.heap.size ≤ x) w w5 := (fin4.mono fun _ _ h => h.elim).trans (f5.mono fun x _ h => by have : x = w3.heap.size := h; show w.heap.size ≤ x; omega)
  refine BIf_eq (fun h3 => ?_) (fun h3 => ?_)
  · refine e5.st (by simp) rfl fun w6 e6 f6 s6 => ?_
    have r6 := r5.fr f6 (by show ¬ (w1.heap.size = w3.heap.size); omega)
    simp only [List.set_cons_succ, List.set_cons_zero] at e6
    try simp only [e6.ld_iff, Ld_drew, at0_mk, List.getElem?_cons_zero, List.getElem?_cons_succ, Option.some.injEq, exists_eq_left', AsI_int, AsB_bool, AsP_pointer, AsSl_slice, AsM_map, AsTup_tuple, UnC_cons, UnN_nil, NilP_some, Nat.zero_add, Nat.reduceAdd, Nat.mul_one]
    refine Set8 r6 (fun w7 r7 f7 s7 => ?_)
    try simp only [r7.ld_iff, Ld_drew, at0_mk, List.getElem?_cons_zero, List.getElem?_cons_succ, Option.some.injEq, exists_eq_left', AsI_int, AsB_bool, AsP_pointer, AsSl_slice, AsM_map, AsTup_tuple, UnC_cons, UnN_nil, NilP_some, Nat.zero_add, Nat.reduceAdd, Nat.mul_one]
    refine ⟨by rw [h3]; rfl, ?_⟩
    have := (one.trans (f6.mono fun x _ h => by have : x = w3.heap.size := h; show w.heap.size ≤ x; omega)).trans (f7.mono fun x _ h => by have : x = w1.heap.size := h; show w.heap.size ≤ x; omega)
    exact this.mono fun x hx h => by have : w.heap.size ≤ x := h; omega
  · refine Set8 r5 (fun w7 r7 f7 s7 => ?_)
    try simp only [r7.ld_iff, Ld_drew, at0_mk, List.getElem?_cons_zero, List.getElem?_cons_succ, Option.some.injEq, exists_eq_left', AsI_int, AsB_bool, AsP_pointer, AsSl_slice, AsM_map, AsTup_tuple, UnC_cons, UnN_nil, NilP_some, Nat.zero_add, Nat.reduceAdd, Nat.mul_one]
    refine ⟨by simp [Tr.en, En.v, h3], ?_⟩
    have := one.trans (f7.mono fun x _ h => by have : x = w1.heap.size := h; show w.heap.size ≤ x; omega)
    exact this.mono fun x hx h => by have : w.heap.size ≤ x := h; omega
def Tr.paged (t : Tr) : Bool := decide (t.size = 1) || decide (t.size = 2)
def Tr.tend (t : Tr) : Nat := t.va + bytesOf t.size
def meets (a b : Tr) : Bool := decide (a.va < b.tend) && decide (b.va < a.tend)
def Tr.mib (t : Tr) : Nat := t.va / 1048576
def clashB (a b : Tr) : Bool := meets a b || (a.paged && b.paged && decide (a.mib = b.mib) && decide (a.dom ≠ b.dom))
theorem bytesOf_le (s : Int) : bytesOf s ≤ 16777216 := by
  unfold bytesOf
  split
  · rename_i h
    rcases sized_cases h with h | h | h | h <;> subst h <;> decide
  · omega
theorem f89 {w : World} (t : Tr) : Ret prog 89 #[t.v] w fun v w' => v = .bool t.paged ∧ Fr0 w w' := by
  obtain ⟨size, va, pa, dom, ap, bits, ng, xn⟩ := t
  refine F89_of _ _ _ _ _ _ _ _ _ _ ?_
  unfold F89; try dsimp only [li_]
  refine New.mk fun w1 n1 f1 s1 => ?_
  try simp only [n1.ld_iff, Ld_drew, at0_mk, List.getElem?_cons_zero, List.getElem?_cons_succ, Option.some.injEq, exists_eq_left', AsI_int, AsB_bool, AsP_pointer, AsSl_slice, AsM_map, AsTup_tuple, UnC_cons, UnN_nil, NilP_some, Nat.zero_add, Nat.reduceAdd, Nat.mul_one]
  refine BIf_eq (fun h => ⟨by simp [Tr.paged, h], f1⟩) (fun h => ?_)
  exact ⟨by simp only [Tr.paged, decide_eq_false h, Bool.false_or]; congr 1, f1⟩
theorem f115 {w : World} (hG : Gd w) (t : Tr) (hva : t.va < 4294967296) : Ret prog 115 #[t.v] w fun v w' => v = .int .u64 (t.tend : Nat) ∧ Fr0 w w' := by
  obtain ⟨size, va, pa, dom, ap, bits, ng, xn⟩ := t
  simp only at hva
  refine F115_of _ _ _ _ _ _ _ _ _ _ ?_
  unfold F115; try dsimp only [ce_, li_]
  refine New.mk fun w1 n1 f1 s1 => ?_
  try simp only [n1.ld_iff, Ld_drew, at0_mk, List.getElem?_cons_zero, List.getElem?_cons_succ, Option.some.injEq, exists_eq_left', AsI_int, AsB_bool, AsP_pointer, AsSl_slice, AsM_map, AsTup_tuple, UnC_cons, UnN_nil, NilP_some, Nat.zero_add, Nat.reduceAdd, Nat.mul_one]
  refine Ret.use (f180 (hG.fr0 f1).drew size) ?_
  rintro _ w2 ⟨rfl, rfl⟩
  rw [AsI_int]
  have hb := bytesOf_le size
  refine ⟨n1.drew.cell, ?_, f1.drew⟩
  rw [wu64 (n := (va : Int)) (by omega) (by omega), wu64 (by omega) (by omega)]
  rfl
theorem f181 {w : World} (hG : Gd w) (a b : Tr) (hva : a.va < 4294967296) (hvb : b.va < 4294967296) : Ret prog 181 #[a.v, b.v] w fun v w' => v = .bool (meets a b) ∧ Fr0 w w' := by
  obtain ⟨size, va, pa, dom, ap, bits, ng, xn⟩ := a
  obtain ⟨size2, va2, pa2, dom2, ap2, bits2, ng2, xn2⟩ := b
  refine F181_of _ _ _ _ _ _ _ _ _ _ _ _ _ _ _ _ _ _ ?_
  unfold F181; try dsimp only [Liuviiubb, ce_, lb_, li_]
  refine New.mk fun w1 n1 f1 s1 => New.mk fun w2 m2 f2 s2 => ?_
  have n2 := n1.fr0 f2
  try simp only [n2.ld_iff, m2.ld_iff, Ld_drew, at0_mk, List.getElem?_cons_zero, List.getElem?_cons_succ, Option.some.injEq, exists_eq_left', AsI_int, AsB_bool, AsP_pointer, AsSl_slice, AsM_map, AsTup_tuple, UnC_cons, UnN_nil, NilP_some, Nat.zero_add, Nat.reduceAdd, Nat.mul_one]
  refine Ret.use (f115 ((hG.fr0 f1).fr0 f2).drew ⟨size2, va2, pa2, dom2, ap2, bits2, ng2, xn2⟩ hvb) ?_
  rintro _ w3 ⟨rfl, hf⟩
  have f3 := hf.of_drew
  have n3 := n2.fr0 f3
  have m3 := m2.fr0 f3
  rw [AsI_int]
  refine ⟨n3.cell, ?_⟩
  simp only at hva hvb
  rw [wu64 (n := (va : Int)) (by omega) (by omega)]
  refine BIf_cases (fun h => ?_) (fun h => ?_)
  · try simp only [n3.ld_iff, m3.ld_iff, Ld_drew, at0_mk, List.getElem?_cons_zero, List.getElem?_cons_succ, Option.some.injEq, exists_eq_left', AsI_int, AsB_bool, AsP_pointer, AsSl_slice, AsM_map, AsTup_tuple, UnC_cons, UnN_nil, NilP_some, Nat.zero_add, Nat.reduceAdd, Nat.mul_one]
    refine Ret.use (f115 (((hG.fr0 f1).fr0 f2).fr0 f3) ⟨size, va, pa, dom, ap, bits, ng, xn⟩ hva) ?_
    rintro _ w4 ⟨rfl, f4⟩
    rw [AsI_int]
    refine ⟨(m3.fr0 f4).cell, ?_, ((f1.trans f2).trans f3).trans f4⟩
    rw [wu64 (n := (va2 : Int)) (by omega) (by omega)]
    simp only [meets]
    rw [decide_eq_true (show va < (⟨size2, va2, pa2, dom2, ap2, bits2, ng2, xn2⟩ : Tr).tend by omega), Bool.true_and]
    congr 1
    rw [decide_eq_decide]; omega
  · refine ⟨?_, (f1.trans f2).trans f3⟩
    simp only [meets]
    rw [decide_eq_false (show ¬ va < (⟨size2, va2, pa2, dom2, ap2, bits2, ng2, xn2⟩ : Tr).tend by omega), Bool.false_and]
theorem mib_wrap {va : Nat} (h : va < 4294967296) : IntKind.u32.wrap ((va : Int).tdiv 1048576) = ((va / 1048576 : Nat) : Int) := by
  rw [show (1048576 : Int) = ((1048576 : Nat) : Int) from rfl, ← Int.ofNat_tdiv]
  exact wu32 (by omega) (by omega)
theorem f116 {w : World} (hG : Gd w) (a b : Tr) (hva : a.va < 4294967296) (hvb : b.va < 4294967296) : Ret prog 116 #[a.v, b.v] w fun v w' => v = .bool (clashB a b) ∧ Fr0 w w' := by
  obtain ⟨size, va, pa, dom, ap, bits, ng, xn⟩ := a
  obtain ⟨size2, va2, pa2, dom2, ap2, bits2, ng2, xn2⟩ := b
  refine F116_of _ _ _ _ _ _ _ _ _ _ _ _ _ _ _ _ _ _ ?_
  unfold F116; try dsimp only [Liuviiubb, lb_, li_]
  refine New.mk fun w1 n1 f1 s1 => New.mk fun w2 m2 f2 s2 => ?_
  have n2 := n1.fr0 f2
  try simp only [n2.ld_iff, m2.ld_iff, Ld_drew, at0_mk, List.getElem?_cons_zero, List.getElem?_cons_succ, Option.some.injEq, exists_eq_left', AsI_int, AsB_bool, AsP_pointer, AsSl_slice, AsM_map, AsTup_tuple, UnC_cons, UnN_nil, NilP_some, Nat.zero_add, Nat.reduceAdd, Nat.mul_one]
  refine Ret.use (f181 ((hG.fr0 f1).fr0 f2) ⟨size, va, pa, dom, ap, bits, ng, xn⟩ ⟨size2, va2, pa2, dom2, ap2, bits2, ng2, xn2⟩ hva hvb) ?_
  rintro _ w3 ⟨rfl, f3⟩
  have n3 := n2.fr0 f3
  have m3 := m2.fr0 f3
  simp only at hva hvb
  rw [AsB_bool]
  refine BIf_b (fun h => ⟨by simp only [clashB, h, Bool.true_or], (f1.trans f2).trans f3⟩) (fun h => ?_)
  try simp only [n3.ld_iff, m3.ld_iff, Ld_drew, at0_mk, List.getElem?_cons_zero, List.getElem?_cons_succ, Option.some.injEq, exists_eq_left', AsI_int, AsB_bool, AsP_pointer, AsSl_slice, AsM_map, AsTup_tuple, UnC_cons, UnN_nil, NilP_some, Nat.zero_add, Nat.reduceAdd, Nat.mul_one]
  refine Ret.use (f89 ⟨size, va, pa, dom, ap, bits, ng, xn⟩) ?_
  rintro _ w4 ⟨rfl, f4⟩
  have n4 := n3.fr0 f4
  have m4 := m3.fr0 f4
  rw [AsB_bool]
  refine BIf_b (fun h2 => ?_) (fun h2 => ⟨by simp only [clashB, h, h2, Bool.false_or, Bool.false_and], ((f1.trans f2).trans f3).trans f4⟩)
  try simp only [n4.ld_iff, m4.ld_iff, Ld_drew, at0_mk, List.getElem?_cons_zero, List.getElem?_cons_succ, Option.some.injEq, exists_eq_left', AsI_int, AsB_bool, AsP_pointer, AsSl_slice, AsM_map, AsTup_tuple, UnC_cons, UnN_nil, NilP_some, Nat.zero_add, Nat.reduceAdd, Nat.mul_one]
  refine Ret.use (f89 ⟨size2, va2, pa2, dom2, ap2, bits2, ng2, xn2⟩) ?_
  rintro _ w5 ⟨rfl, f5⟩
  have n5 := n4.fr0 f5
  have m5 := m4.fr0 f5
  have fin := (((f1.trans f2).trans f3).trans f4).trans f5
  rw [AsB_bool]
  refine BIf_b (fun h3 => ?_) (fun h3 => ⟨by simp only [clashB, h, h2, h3, Bool.false_or, Bool.true_and, Bool.false_and], fin⟩)
  try simp only [n5.ld_iff, m5.ld_iff, Ld_drew, at0_mk, List.getElem?_cons_zero, List.getElem?_cons_succ, Option.some.injEq, exists_eq_left', AsI_int, AsB_bool, AsP_pointer, AsSl_slice, AsM_map, AsTup_tuple, UnC_cons, UnN_nil, NilP_some, Nat.zero_add, Nat.reduceAdd, Nat.mul_one]
  rw [mib_wrap hva, mib_wrap hvb]
  refine BIf_eq (fun h4 => ⟨?_, fin⟩) (fun h4 => ⟨?_, fin⟩)
  · simp only [clashB, h, h2, h3, Bool.false_or, Bool.true_and, Tr.mib]
    have e : va / 1048576 = va2 / 1048576 := by omega
    simp only [e, decide_true, Bool.true_and]
    congr 1
    rw [Bool.eq_iff_iff]; simp
  · simp only [clashB, h, h2, h3, Bool.false_or, Bool.true_and, Tr.mib]
    have e : ¬ va / 1048576 = va2 / 1048576 := by omega
    simp [e]
def Tr.word (t : Tr) : Int := if t.paged = true then t.en.enc2 else t.en.enc1
theorem right_parts {t : Tr} (h : t.right = true) : sized t.size = true ∧ place t.va (shOf t.size) 32 = true ∧ domOk t.dom = true ∧ (t.size = 4 → t.dom = 0) ∧ blkOk t.pa t.ap t.bits t.size = true := by
  unfold Tr.right at h
  simp only [Bool.and_eq_true, Bool.not_eq_true', Bool.and_eq_false_iff, decide_eq_false_iff_not, Decidable.not_not] at h
  obtain ⟨⟨⟨⟨h1, h2⟩, h3⟩, h4⟩, h5⟩ := h
  refine ⟨h1, h2, h3, fun e => ?_, h5⟩
  rcases h4 with h4 | h4
  · exact absurd e h4
  · simpa using h4
theorem f65 {w : World} (hG : Gd w) (t : Tr) (hva : t.va < 4294967296) (hr : t.right = true) : Ret prog 65 #[t.v] w fun v w' => v = .int .u32 t.word ∧ Fr0 w w' := by
  have hR := right_parts hr
  obtain ⟨e, he⟩ : ∃ e, t.en = e := ⟨_, rfl⟩
  have hb1 : t.en.blk1 ∨ t.en.tab ∨ t.en.kind = 4 ∨ t.en.kind = 5 := by
    obtain ⟨h1, h2, h3, h4, h5⟩ := hR
    rcases sized_cases h1 with h | h | h | h
    · exact .inr (.inr (.inr (by simp [Tr.en, h, knd])))
    · exact .inr (.inr (.inl (by simp [Tr.en, h, knd])))
    · rw [h] at h5; exact .inl (.inl ⟨by simp [Tr.en, h, knd], h5, by simpa [Tr.en, h] using h3⟩)
    · rw [h] at h5; exact .inl (.inr ⟨by simp [Tr.en, h, knd], h5, by simp [Tr.en, h]⟩)
  have hb2 : t.paged = true → t.en.blk2 := by
    intro hp
    obtain ⟨h1, h2, h3, h4, h5⟩ := hR
    unfold Tr.paged at hp
    simp only [Bool.or_eq_true, decide_eq_true_eq] at hp
    rcases hp with h | h
    · rw [h] at h5; exact .inr ⟨by simp [Tr.en, h, knd], h5, by simp [Tr.en, h], rfl⟩
    · rw [h] at h5; exact .inl ⟨by simp [Tr.en, h, knd], h5, by simp [Tr.en, h], rfl⟩
  have hw : t.word = if t.paged = true then t.en.enc2 else t.en.enc1 := rfl
  rw [hw]
  rw [he] at hb1 hb2 ⊢
  obtain ⟨size, va, pa, dom, ap, bits, ng, xn⟩ := t
  obtain ⟨p, hp⟩ : ∃ p, (⟨size, va, pa, dom, ap, bits, ng, xn⟩ : Tr).paged = p := ⟨_, rfl⟩
  rw [hp] at hb2 ⊢
  obtain ⟨kind, base, edom, ns, eap, ebits, eng, exn⟩ := e
  refine F65_of _ _ _ _ _ _ _ _ _ _ ?_
  unfold F65; try dsimp only [Liuviiubb, Livibiubb, S_8, Uivibiubb, Uui, lb_, li_, ub_, ui_]
  refine New.mk fun w1 n1 f1 s1 => ?_
  try simp only [n1.ld_iff, Ld_drew, at0_mk, List.getElem?_cons_zero, List.getElem?_cons_succ, Option.some.injEq, exists_eq_left', AsI_int, AsB_bool, AsP_pointer, AsSl_slice, AsM_map, AsTup_tuple, UnC_cons, UnN_nil, NilP_some, Nat.zero_add, Nat.reduceAdd, Nat.mul_one]
  refine Ret.use (f128 (hG.fr0 f1) ⟨size, va, pa, dom, ap, bits, ng, xn⟩ hva hr) ?_
  rintro _ w2 ⟨rfl, f2⟩
  have n2 := n1.fr0 f2
  rw [he]
  simp only [En.v, AsAgg_agg, AsTup_tuple, UnC_cons, UnN_nil, AsI_int, AsB_bool]
  refine New8 fun w3 e3 f3 s3 => ?_
  have n3 := n2.fr0 f3
  try simp only [n3.ld_iff, e3.ld_iff, Ld_drew, at0_mk, List.getElem?_cons_zero, List.getElem?_cons_succ, Option.some.injEq, exists_eq_left', AsI_int, AsB_bool, AsP_pointer, AsSl_slice, AsM_map, AsTup_tuple, UnC_cons, UnN_nil, NilP_some, Nat.zero_add, Nat.reduceAdd, Nat.mul_one]
  refine Ret.use (f63 (((hG.fr0 f1).fr0 f2).fr0 f3) ⟨kind, base, edom, ns, eap, ebits, eng, exn⟩ hb1) ?_
  rintro _ w4 ⟨rfl, f4⟩
  have n4 := n3.fr0 f4
  have e4 := e3.fr0 f4
  try simp only [n4.ld_iff, e4.ld_iff, Ld_drew, at0_mk, List.getElem?_cons_zero, List.getElem?_cons_succ, Option.some.injEq, exists_eq_left', AsI_int, AsB_bool, AsP_pointer, AsSl_slice, AsM_map, AsTup_tuple, UnC_cons, UnN_nil, NilP_some, Nat.zero_add, Nat.reduceAdd, Nat.mul_one]
  refine Ret.use (f89 ⟨size, va, pa, dom, ap, bits, ng, xn⟩) ?_
  rintro _ w5 ⟨rfl, f5⟩
  have e5 := e4.fr0 f5
  have fin := (((f1.trans f2).trans f3).trans f4).trans f5
  rw [AsB_bool, hp]
  cases p with
  | true =>
    rw [BIf_true]
    try simp only [e5.ld_iff, Ld_drew, at0_mk, List.getElem?_cons_zero, List.getElem?_cons_succ, Option.some.injEq, exists_eq_left', AsI_int, AsB_bool, AsP_pointer, AsSl_slice, AsM_map, AsTup_tuple, UnC_cons, UnN_nil, NilP_some, Nat.zero_add, Nat.reduceAdd, Nat.mul_one]
    refine Ret.use (f129 (hG.fr0 fin) ⟨kind, base, edom, ns, eap, ebits, eng, exn⟩ (hb2 rfl)) ?_
    rintro _ w6 ⟨rfl, f6⟩
    simp only [Ld_drew, at0_mk, List.getElem?_cons_zero, List.getElem?_cons_succ, Option.some.injEq, exists_eq_left', AsI_int, AsB_bool, AsP_pointer, AsSl_slice, AsM_map, AsTup_tuple, UnC_cons, UnN_nil, NilP_some, Nat.zero_add, Nat.reduceAdd, Nat.mul_one]
    exact ⟨by simp, fin.trans f6⟩
  | false =>
    rw [BIf_false]
    exact ⟨by simp, fin⟩
theorem enc1_lt (e : En) : 0 ≤ e.enc1 ∧ e.enc1 < 4294967296 := by
  unfold En.enc1
  split
  · exact encT_lt _ _ _
  · split
    · exact encS_lt _ _ _ _ _ _ _
    · split
      · exact encU_lt _ _ _ _ _ _ _
      · omega
theorem word_lt (t : Tr) : 0 ≤ t.word ∧ t.word < 4294967296 := by
  unfold Tr.word
  split
  · unfold En.enc2
    split
    · exact encL_lt _ _ _ _ _
    · exact encP_lt _ _ _ _ _
  · exact enc1_lt _
def cmpVa (a b : Nat) : Int := if a < b then -1 else if a > b then 1 else 0
theorem f131 {w : World} (t : Tr) (va1 : Nat) : Ret prog 131 #[t.v, .int .u32 (va1 : Int)] w fun v w' => v = .int .i64 (cmpVa t.va va1) ∧ Fr0 w w' := by
  obtain ⟨size, va, pa, dom, ap, bits, ng, xn⟩ := t
  refine F131_of _ _ _ _ _ _ _ _ _ _ _ ?_
  unfold F131 cmpVa; try dsimp only [li_]
  refine New.mk fun w1 n1 f1 s1 => ?_
  try simp only [n1.ld_iff, Ld_drew, at0_mk, List.getElem?_cons_zero, List.getElem?_cons_succ, Option.some.injEq, exists_eq_left', AsI_int, AsB_bool, AsP_pointer, AsSl_slice, AsM_map, AsTup_tuple, UnC_cons, UnN_nil, NilP_some, Nat.zero_add, Nat.reduceAdd, Nat.mul_one]
  refine BIf_cases (fun h => ⟨by rw [if_pos (by omega)], f1⟩) (fun h => BIf_cases (fun h2 => ⟨by rw [if_neg (by omega), if_pos (by omega)], f1⟩) (fun h2 => ⟨by rw [if_neg (by omega), if_neg (by omega)], f1⟩))
end Go.Proofs.YtmgjicnipgdjhaaGreatDoor
namespace Go.Sh
variable {P : Program}
theorem Has.row {w : World} {g : Nat} {cur l' : List Value} (h : Has w g cur) : Has (w.setRow g l'.toArray) g l' := by
  obtain ⟨t, ht⟩ := h
  exact ⟨t, setRow_heap w g _ _ t _ ht⟩
theorem Fr.row {w : World} {g : Nat} {cur : Array Value} : Fr (· = g) w (w.setRow g cur) :=
  ⟨rfl, rfl, rfl, by simp [World.setRow], fun b hb hn => by
    have : ¬ g = b := fun e => hn e.symm
    simp [World.setRow, Array.getElem?_modify, this]⟩
theorem Fr.newS {w w1 w2 : World} {S : Nat → Prop} (h : Fr0 w w1) (k : Fr S w1 w2) (hb : ∀ b, S b → w.heap.size ≤ b) : Fr0 w w2 :=
  ⟨k.os.trans h.os, k.output.trans h.output, k.tape.trans h.tape, Nat.le_trans h.size k.size, fun b hlt _ => (k.block b (Nat.lt_of_lt_of_le hlt h.size) fun hs => by have := hb b hs; omega).trans (h.block b hlt fun h => h)⟩
theorem copy_has {t t' e ty : TypeId} {size : Nat} (hu : P.underlying t = some (.slice e)) (hs : (P.info? e).map (·.size) = some size) {w : World} {g o dl dc b o2 sl sc : Nat} {cur cs : List Value} (hg : Has w g cur)
    (hn : cs.length = Nat.min sl dl * size) (hsrc : ∀ j v, cs[j]? = some v → w.cell? ⟨b, o2 + j, none⟩ = some v) (hfit : o + cs.length ≤ cur.length) (h1 : ∀ v ∈ cs, v.oneCell' = true) {K : Value → World → Prop}
    (k : ∀ w', w' = w.setRow g (cur.take o ++ cs ++ cur.drop (o + cs.length)).toArray → K (.int .i64 (Nat.min sl dl : Nat)) w') :
    RunV P (Builtin.copy_ #[t, t'] ty #[.slice (some ⟨g, o, none⟩) dl dc, .slice (some ⟨b, o2, none⟩) sl sc]) w K := by
  obtain ⟨tt, ht⟩ := hg
  have hl := run_loadCells_list (P := P) w ⟨b, o2, none⟩ cs (fun j v hj => by rw [← at0_add, at0_mk]; exact hsrc j v hj)
  have hst := run_storeCells_at P g o tt cs 0 cur.toArray w ht (by simpa using hfit) h1
  cases hq : P.info? e with
  | none => simp [hq] at hs
  | some i =>
    have hi : i.size = size := by simpa [hq] using hs
    refine ⟨.int .i64 (Nat.min sl dl : Nat), _, ?_, k _ rfl⟩
    · simp at hst
      simp [Builtin.copy_, run_underlying hu, Builtin.lenOf, Builtin.firstCells, sizeOf, typeInfo, hq, hi, ← hn, hl, hst, goInt]
theorem room_has {t e ty : TypeId} {z : Value} {size bytes : Nat} (E : ElemT P t e z size bytes) {w : World} {g n c b o2 m c' : Nat} {cur news : List Value} (hg : Has w g cur)
    (hl : news.length = m * size) (hsrc : ∀ j v, news[j]? = some v → w.cell? ⟨b, o2 + j, none⟩ = some v) (h1 : ∀ u ∈ news, u.oneCell' = true) (hroom : n + m ≤ c) (hfit : n * size + news.length ≤ cur.length) {K : Value → World → Prop}
    (k : ∀ w', w' = w.setRow g (cur.take (n * size) ++ news ++ cur.drop (n * size + news.length)).toArray → K (.slice (some ⟨g, 0, none⟩) (n + m) c) w') :
    RunV P (Builtin.append_ #[t, t] ty #[.slice (some ⟨g, 0, none⟩) n c, .slice (some ⟨b, o2, none⟩) m c']) w K := by
  obtain ⟨tt, ht⟩ := hg
  have hi := E.info
  cases hinf : P.info? e with
  | none => rw [hinf] at hi; cases hi
  | some i =>
    rw [hinf] at hi
    simp only [Option.map_some, Option.some.injEq, Prod.mk.injEq] at hi
    obtain ⟨hz, rfl, hb⟩ := hi
    have hf := run_firstCells_some (P := P) w i.size m ⟨b, o2, none⟩ m c' news hl (fun j v hj => by rw [← at0_add, at0_mk]; exact hsrc j v hj)
    have hst := run_storeCells_at P g (n * i.size) tt news 0 cur.toArray w ht (by simpa using hfit) h1
    simp at hst
    refine ⟨_, _, ?_, k _ rfl⟩
    simp [Builtin.append_, run_underlying E.und, sizeOf, typeInfo, hinf, Builtin.lenOf, hroom, hf, Addr.add_lit, hst]
theorem Sl.row {w : World} {B : Nat} {e : TypeId} {size n c g : Nat} {xs : List Value} (h : Sl w B e size (some ⟨g, 0, none⟩) n c xs) {l' : List Value} (hl : l'.length = c * size) {n' : Nat} (hn : n' ≤ c) : Sl (w.setRow g l'.toArray) B e size (some ⟨g, 0, none⟩) n' c (l'.take (n' * size)) := by
  rcases h.2 with ⟨h1, _⟩ | ⟨g', cap, cur, h1, hbg, hg, hnc, hcm, hcs, htake⟩
  · cases h1
  · injection h1 with h2 _ h3
    injection h2 with h2
    injection h2 with h2
    subst h2 h3
    refine ⟨?_, .inr ⟨g, c, l'.toArray, rfl, hbg, setRow_heap w g _ _ _ _ hg, hn, hcm, by simpa using hl, by simp⟩⟩
    rw [List.length_take, hl]
    exact Nat.min_eq_left (Nat.mul_le_mul_right _ hn)
theorem zeroCells_len (z : Array Value) (n : Nat) : (Builtin.zeroCells z n).toList.length = n * z.size := by simp [Builtin.zeroCells]
theorem appendZ_grow {t u e ty : TypeId} {z : Value} {size bytes : Nat} (E : ElemT P t e z size bytes) {k0 : IntKind} (hu : P.underlying u = some (.int k0)) {w : World} {g n c m : Nat} {olds : List Value} (hlo : olds.length = n * size)
    (holds : ∀ j v, olds[j]? = some v → w.cell? ⟨g, j, none⟩ = some v) (hgr : c < n + m) (h63 : n + m ≤ 4611686018427387904) (hbytes : (n + m) * bytes ≤ 140737488355328) (hm : 0 < m) {K : Value → World → Prop}
    (k : ∀ d w' sp, Sl w' w.heap.size e size (some ⟨w.heap.size, 0, none⟩) (n + m) d (olds ++ (Builtin.zeroCells z.cells m).toList) → Has w' w.heap.size (olds ++ (Builtin.zeroCells z.cells m).toList ++ sp) → sp.length + (n + m) * size = d * size → n + m ≤ d → Fr0 w w' → w'.heap.size = w.heap.size + 1 → K (.slice (some ⟨w.heap.size, 0, none⟩) (n + m) d) w') :
    RunV P (Builtin.append_ #[t, u] ty #[.slice (some ⟨g, 0, none⟩) n c, .int .i64 (m : Int)]) w K := by
  have hi := E.info
  cases hinf : P.info? e with
  | none => rw [hinf] at hi; cases hi
  | some i =>
    rw [hinf] at hi
    simp only [Option.map_some, Option.some.injEq, Prod.mk.injEq] at hi
    obtain ⟨hz, hs, hb⟩ := hi
    have hw : IntKind.i64.wrap (m : Int) = m := w64 (by omega) (by omega)
    have hpos := E.pos
    have hzs := E.zs
    subst hs
    have hn : ¬ (n + m ≤ c) := by omega
    have h63' : ¬ (9223372036854775807 < ((n : Int) + (m : Int))) := by omega
    have hfit : ¬ (281474976710656 < Builtin.nextslicecap (n + m) c * i.bytes) := by
      have := growslice_fits (bytes := i.bytes) (show c < n + m by omega) (by rw [hb]; exact hbytes)
      omega
    have hfo := run_firstCells_some (P := P) w.drew i.size n ⟨g, 0, none⟩ n c olds hlo (fun j v hj => by rw [← at0_add, at0_mk, Nat.zero_add]; exact holds j v hj)
    have hm0 : ¬ ((m : Int) < 0) := by omega
    have hmb : ¬ (281474976710656 < (m : Int) * (i.bytes : Int)) := by
      have h1 : m * i.bytes ≤ (n + m) * i.bytes := Nat.mul_le_mul_right _ (by omega)
      have h2 : ((m * i.bytes : Nat) : Int) = (m : Int) * (i.bytes : Int) := by simp
      rw [← h2]
      rw [hb] at h1
      rw [hb]
      omega
    have hms : m ≠ 0 → i.size ≠ 0 := fun _ => by omega
    refine ⟨_, _, (?_ : Sem.run P _ w = .ok (.slice (some ⟨w.heap.size, 0, none⟩) (n + m) (grownCap w (n + m) c e)) (w.drew.alloc (.cells (olds.toArray ++ Builtin.zeroCells z.cells m ++ Builtin.zeroCells z.cells (grownCap w (n + m) c e - (n + m))) e))), ?_⟩
    · have hai : ∀ w : World, (asIntOf (.int .i64 (m : Int))).run P w = .ok (.i64, (m : Int)) w := fun _ => rfl
      have h0 : m ≠ 0 := by omega
      simp [Builtin.append_, run_underlying E.und, run_underlying hu, sizeOf, typeInfo, zeroValue, hinf, hz, Builtin.lenOf, hn, h63', hfit, Question.forced, hfo, newRow, grownCap, asInt, hai, hw, hm0, hmb, h0, hms h0]
      intro hz0
      exact absurd hz0 (Nat.ne_of_gt (Nat.mul_pos hm hpos))
    · have hge := grownCap_ge w (n + m) c e
      have hmade := Has.made w.drew (olds.toArray ++ Builtin.zeroCells z.cells m ++ Builtin.zeroCells z.cells (grownCap w (n + m) c e - (n + m))) e
      have hzc : ∀ k, (Builtin.zeroCells z.cells k).size = k * i.size := fun k => by simp [Builtin.zeroCells, hzs]
      have hzl : ∀ k, (Builtin.zeroCells z.cells k).toList.length = k * i.size := fun k => by rw [Array.length_toList, hzc]
      have hs1 : (olds.toArray ++ Builtin.zeroCells z.cells m ++ Builtin.zeroCells z.cells (grownCap w (n + m) c e - (n + m))).size = grownCap w (n + m) c e * i.size := by
        simp only [Array.size_append, hzc, List.size_toArray, hlo, ← Nat.add_mul]
        congr 1; omega
      have hown : (w.drew.alloc (.cells (olds.toArray ++ Builtin.zeroCells z.cells m ++ Builtin.zeroCells z.cells (grownCap w (n + m) c e - (n + m))) e)).ownsRow w.heap.size e i.size (.slice (some ⟨w.heap.size, 0, none⟩) (n + m) (grownCap w (n + m) c e)) (n + m) (olds ++ (Builtin.zeroCells z.cells m).toList) := by
        refine ⟨by rw [List.length_append, hlo, hzl, Nat.add_mul], .inr ⟨w.heap.size, grownCap w (n + m) c e, _, rfl, Nat.le_refl _, ?_, hge, grownCap_le_maxLen w _ _ _ (by simp [maxLen]; omega), hs1, ?_⟩⟩
        · show (w.heap.push _)[w.heap.size]? = _
          simp
        · simp only [Array.toList_append, List.append_assoc]
          rw [← List.append_assoc, List.take_append_of_le_length (by rw [List.length_append, hlo, hzl, Nat.add_mul]; exact Nat.le_refl _)]
          exact List.take_of_length_le (by rw [List.length_append, hlo, hzl, Nat.add_mul]; exact Nat.le_refl _)
      refine k _ _ (Builtin.zeroCells z.cells (grownCap w (n + m) c e - (n + m))).toList hown (by simpa using hmade) ?_ hge (Fr.of_drew (Fr.made w.drew _)) (by simp)
      rw [hzl, ← Nat.add_mul]
      congr 1
      omega
theorem clear_has {t e ty : TypeId} {z : Value} {size bytes : Nat} (E : ElemT P t e z size bytes) {w : World} {g o n c : Nat} {cur : List Value} (hg : Has w g cur) (hfit : o + n * size ≤ cur.length) (h1 : ∀ v ∈ z.cells.toList, v.oneCell' = true)
    {K : Value → World → Prop} (k : ∀ w', w' = w.setRow g (cur.take o ++ (Builtin.zeroCells z.cells n).toList ++ cur.drop (o + n * size)).toArray → K (.tuple #[]) w') :
    RunV P (Builtin.clear_ #[t] ty #[.slice (some ⟨g, o, none⟩) n c]) w K := by
  have hi := E.info
  cases hinf : P.info? e with
  | none => rw [hinf] at hi; cases hi
  | some i =>
    rw [hinf] at hi
    simp only [Option.map_some, Option.some.injEq, Prod.mk.injEq] at hi
    obtain ⟨hz, hs, hb⟩ := hi
    have hzs := E.zs
    obtain ⟨tt, ht⟩ := hg
    cases n with
    | zero =>
      refine ⟨_, w, by simp [Builtin.clear_, run_underlying E.und], k w ?_⟩
      have : (cur.take o ++ (Builtin.zeroCells z.cells 0).toList ++ cur.drop (o + 0 * size)) = cur := by simp [Builtin.zeroCells]
      rw [this, setRow_self w g _ tt (0, 0) ht]
    | succ n =>
      have hst := run_storeCells_at P g o tt (Builtin.zeroCells z.cells (n + 1)).toList 0 cur.toArray w ht (by rw [zeroCells_len, hzs]; simpa using hfit) (fun v hv => by
        simp only [Builtin.zeroCells, Array.toList_map, List.mem_map] at hv
        obtain ⟨x, hx, rfl⟩ := hv
        apply h1
        have hpos := E.pos
        have : x % z.cells.size < z.cells.size := Nat.mod_lt _ (by omega)
        rw [getElem!_pos z.cells _ this]
        exact Array.getElem_mem_toList this)
      refine ⟨.tuple #[], _, ?_, k _ rfl⟩
      · have hlen := zeroCells_len z.cells (n + 1)
        rw [hzs] at hlen
        rw [hlen] at hst
        simp at hst
        simp [Builtin.clear_, run_underlying E.und, zeroValue, typeInfo, hinf, hz, hst]
end Go.Sh
