import Derived.Test.YtmgjicnipgdjhaaGreatDoorP01
import Derived.Lib.TrailingZeros
import Derived.IntWalk
import Derived.Deep.OwnRows
import Derived.Laws.MakeOwn
import Derived.Laws.OwnMore
import Derived.Laws.StructEq
import Derived.ChangeKeysEq
set_option linter.unusedVariables false
set_option linter.unusedSimpArgs false
set_option maxRecDepth 100000
set_option maxHeartbeats 4000000
namespace Go.Proofs.YtmgjicnipgdjhaaGreatDoor
open Go Go.Sh Go.Proofs
def F20 (p0 : Addr) (w : World) (Q : KQ) : Prop :=
  li_ w (at0 p0 4) .i64 fun a => Q (.int .i64 a) w
theorem F20_of (p0 : Addr) (w : World) (Q : KQ) (h : F20 p0 w Q) : Ret prog 20 #[.pointer (some p0)] w Q := co Tryz.func20 (by kernel_rfl) h
def F21 (p0 : Addr) (w : World) (Q : KQ) : Prop :=
  New w #[.int .i64 0, .int .i64 0] 68 fun a b => li_ b.drew (at0 p0 0) .i64 fun d => li_ b.drew (at0 p0 1) .i64 fun e => St b.drew a (.int .i64 d) fun f => St f (at0 a 1) (.int .i64 e) fun c => li_ c a .i64 fun g => li_ c (at0 a 1) .i64 fun h => Q (Value.agg #[.int .i64 g, .int .i64 h]) c
theorem F21_of (p0 : Addr) (w : World) (Q : KQ) (h : F21 p0 w Q) : Ret prog 21 #[.pointer (some p0)] w Q := co Tryz.func21 (by kernel_rfl) h
def F39 (first0 count1 : Int) (w : World) (Q : KQ) : Prop :=
  BIf (decide (count1 < 0)) (Q (Value.tuple #[.pointer none, .int .i64 41]) w) (BIf (decide (count1 > 1048576)) (Q (Value.tuple #[.pointer none, .int .i64 41]) w) (BIf (decide (first0 < 0)) (Q (Value.tuple #[.pointer none, .int .i64 40]) w) (BIf (decide (first0 > IntKind.i64.wrap ((268435456 : Int) - count1))) (Q (Value.tuple #[.pointer none, .int .i64 40]) w) ((RunV prog (Instr.makeSlice 143 (.int .i64 count1) (.int .i64 count1)) w.drew fun a b => AsSl a fun c d e => RunV prog (Instr.makeSlice 43 (.int .i64 (IntKind.i64.wrap ((IntKind.i64.wrap (count1 + 63)).tdiv (64 : Int)))) (.int .i64 (IntKind.i64.wrap ((IntKind.i64.wrap (count1 + 63)).tdiv (64 : Int))))) b fun f g => AsSl f fun h i j => New g #[.int .i64 first0, .int .i64 count1, Value.slice c d e, Value.slice h i j, .int .i64 count1] 145 fun k l => Q (Value.tuple #[.pointer (some k), .int .i64 0]) l) ∧ RunV prog (Instr.makeSlice 43 (.int .i64 (IntKind.i64.wrap ((IntKind.i64.wrap (count1 + 63)).tdiv (64 : Int)))) (.int .i64 (IntKind.i64.wrap ((IntKind.i64.wrap (count1 + 63)).tdiv (64 : Int))))) w.drew fun m n => AsSl m fun o p r => RunV prog (Instr.makeSlice 143 (.int .i64 count1) (.int .i64 count1)) n fun t u => AsSl t fun v x y => New u #[.int .i64 first0, .int .i64 count1, Value.slice v x y, Value.slice o p r, .int .i64 count1] 145 fun z a0 => Q (Value.tuple #[.pointer (some z), .int .i64 0]) a0))))
theorem F39_of (first0 count1 : Int) (w : World) (Q : KQ) (h : F39 first0 count1 w Q) : Ret prog 39 #[.int .i64 first0, .int .i64 count1] w Q := co Tryz.func39 (by kernel_rfl) h
def F46 (p0 : Addr) (n1 align2 : Int) (w : World) (Q : KQ) : Prop :=
  BIf (decide (n1 < 1)) (Q (Value.tuple #[.int .i64 0, .int .i64 41]) w) (BIf (decide (align2 < 1)) (Q (Value.tuple #[.int .i64 0, .int .i64 41]) w) (BIf (decide (align2 > 4096)) (Q (Value.tuple #[.int .i64 0, .int .i64 41]) w) (CallS prog 92 #[.int .u64 (IntKind.u64.wrap align2)] w fun j f => AsI .i64 j fun k => BIf (k != 1) (Q (Value.tuple #[.int .i64 0, .int .i64 41]) f) (Sh.Loop [.int .i64 0, .int .i64 0, .int .i64 0] f fun l m n => Uiii m fun o p r t => UnN t (CallS prog 93 #[.pointer (some p0), .int .i64 o, .bool false] n fun u a => AsI .i64 u fun b => li_ a (at0 p0 0) .i64 fun c => NZ align2 (li_ a (at0 p0 0) .i64 fun d => li_ a (at0 p0 1) .i64 fun v => BIf (decide (IntKind.i64.wrap (IntKind.i64.wrap (IntKind.i64.wrap ((IntKind.i64.wrap (IntKind.i64.wrap (IntKind.i64.wrap (c + b) + align2) - 1)).tdiv align2) * align2) - d) ≥ v)) (Q (Value.tuple #[.int .i64 0, .int .i64 42]) a) (li_ a (at0 p0 1) .i64 fun x => BIf (decide (n1 > IntKind.i64.wrap (x - IntKind.i64.wrap (IntKind.i64.wrap (IntKind.i64.wrap ((IntKind.i64.wrap (IntKind.i64.wrap (IntKind.i64.wrap (c + b) + align2) - 1)).tdiv align2) * align2) - d)))) (Q (Value.tuple #[.int .i64 0, .int .i64 42]) a) (CallS prog 93 #[.pointer (some p0), .int .i64 (IntKind.i64.wrap (IntKind.i64.wrap (IntKind.i64.wrap ((IntKind.i64.wrap (IntKind.i64.wrap (IntKind.i64.wrap (c + b) + align2) - 1)).tdiv align2) * align2) - d)), .bool true] a fun y g => AsI .i64 y fun h => BIf (decide (h < IntKind.i64.wrap (IntKind.i64.wrap (IntKind.i64.wrap (IntKind.i64.wrap ((IntKind.i64.wrap (IntKind.i64.wrap (IntKind.i64.wrap (c + b) + align2) - 1)).tdiv align2) * align2) - d) + n1))) (l [.int .i64 (IntKind.i64.wrap (h + 1)), .int .i64 p, .int .i64 r] g) (Sh.Loop [.int .i64 0] g fun z a0 i => ui_ a0 .i64 fun e a1 => UnN a1 (BIf (decide (e < n1)) (CallS prog 94 #[.pointer (some p0), .int .i64 (IntKind.i64.wrap (IntKind.i64.wrap (IntKind.i64.wrap (IntKind.i64.wrap ((IntKind.i64.wrap (IntKind.i64.wrap (IntKind.i64.wrap (c + b) + align2) - 1)).tdiv align2) * align2) - d) + e)), .int .u8 1] i fun a2 a3 => AsTup a2 fun a4 => UnN a4 (z [.int .i64 (IntKind.i64.wrap (e + 1))] a3)) (Q (Value.tuple #[.int .i64 (IntKind.i64.wrap (IntKind.i64.wrap ((IntKind.i64.wrap (IntKind.i64.wrap (IntKind.i64.wrap (c + b) + align2) - 1)).tdiv align2) * align2)), .int .i64 0]) i)))))))))))
theorem F46_of (p0 : Addr) (n1 align2 : Int) (w : World) (Q : KQ) (h : F46 p0 n1 align2 w Q) : Ret prog 46 #[.pointer (some p0), .int .i64 n1, .int .i64 align2] w Q := co Tryz.func46 (by kernel_rfl) h
def F47 (p0 : Addr) (first1 n2 : Int) (w : World) (Q : KQ) : Prop :=
  CallS prog 95 #[.pointer (some p0), .int .i64 first1, .int .i64 n2] w fun f d => AsTup f fun g => Uii g fun c e h => UnN h (BIf (e != 0) (Q (Value.tuple #[.int .i64 0, .int .i64 e]) d) (li_ d (at0 p0 4) .i64 fun i => Sh.Loop [.int .i64 0] d fun j k b => ui_ k .i64 fun a l => UnN l (BIf (decide (a < n2)) (ls_ b (at0 p0 2) fun m n x => NilP m fun o => 0 ≤ IntKind.i64.wrap (c + a) ∧ IntKind.i64.wrap (c + a) < (↑n : Int) ∧ li_ b (at0 o ((IntKind.i64.wrap (c + a)).toNat * 1)) .u8 fun p => CallS prog 94 #[.pointer (some p0), .int .i64 (IntKind.i64.wrap (c + a)), .int .u8 (IntKind.u8.wrap (p - 1))] b fun r t => AsTup r fun u => UnN u (j [.int .i64 (IntKind.i64.wrap (a + 1))] t)) (li_ b (at0 p0 4) .i64 fun v => Q (Value.tuple #[.int .i64 (IntKind.i64.wrap (v - i)), .int .i64 0]) b))))
theorem F47_of (p0 : Addr) (first1 n2 : Int) (w : World) (Q : KQ) (h : F47 p0 first1 n2 w Q) : Ret prog 47 #[.pointer (some p0), .int .i64 first1, .int .i64 n2] w Q := co Tryz.func47 (by kernel_rfl) h
def F59 (s0 : Addr) (w : World) (Q : KQ) : Prop :=
  ls_ w (at0 s0 1) fun o i ar => Sh.Loop [.int .i64 0, Value.slice none (0 : Nat) (0 : Nat)] w fun p r d => Uis r fun b j k l t => UnN t (BIf (decide (b < (↑i : Int))) (NilP o fun u => 0 ≤ b ∧ b < (↑i : Int) ∧ Libbbb d (at0 u (b.toNat * 5)) fun v x y z a0 => New d #[.int .i64 0, .bool false, .bool false, .bool false, .bool false] 222 fun e a1 => S_5 a1 e (.int .i64 v) (.bool x) (.bool y) (.bool z) (.bool a0) fun m => Lbbbb m (at0 e 1) fun a2 a3 a4 a5 => Sh.Loop [.int .i64 0, Value.slice j k l] m fun a6 a7 c => Uis a7 fun a f g h a8 => UnN a8 (BIf (decide (a < 4)) (Join (fun a9 aa => us_ a9 fun ab ac ad ae => UnN ae (a6 [.int .i64 (IntKind.i64.wrap (a + 1)), Value.slice ab ac ad] aa)) fun n => 0 ≤ a ∧ a < (↑(4 : Nat) : Int) ∧ ∃ v61, #[.bool a2, .bool a3, .bool a4, .bool a5][a.toNat * (1 : Nat)]? = some v61 ∧ AsB v61 fun af => BIf af (li_ c (at0 e 0) .i64 fun ag => RunV prog (Instr.buildSlice 70 1 #[(0, .int .i64 (IntKind.i64.wrap (IntKind.i64.wrap ((4 : Int) * ag) + a)))]) c fun ah ai => AsSl ah fun aj ak al => RunV prog (Builtin.append_ #[(70 : Nat), (70 : Nat)] (70 : Nat) #[Value.slice f g h, Value.slice aj ak al]) ai fun am an => AsSl am fun ao ap aq => n [Value.slice ao ap aq] an) (n [Value.slice f g h] c)) (p [.int .i64 (IntKind.i64.wrap (b + 1)), Value.slice f g h] c))) (Q (Value.slice j k l) d))
theorem F59_of (s0 : Addr) (w : World) (Q : KQ) (h : F59 s0 w Q) : Ret prog 59 #[.pointer (some s0)] w Q := co Tryz.func59 (by kernel_rfl) h
def F87 (p0 : Addr) (w : World) (Q : KQ) : Prop :=
  New w #[.pointer (some p0), Value.slice none (0 : Nat) (0 : Nat)] 219 fun a b => Q (Value.tuple #[.pointer (some a), .int .i64 0]) b
theorem F87_of (p0 : Addr) (w : World) (Q : KQ) (h : F87 p0 w Q) : Ret prog 87 #[.pointer (some p0)] w Q := co Tryz.func87 (by kernel_rfl) h
def F92 (x0 : Int) (w : World) (Q : KQ) : Prop :=
  CallS prog 159 #[.int .u64 x0] w fun a b => AsI .i64 a fun c => Q (.int .i64 c) b
theorem F92_of (x0 : Int) (w : World) (Q : KQ) (h : F92 x0 w Q) : Ret prog 92 #[.int .u64 x0] w Q := co Tryz.func92 (by kernel_rfl) h
def F93 (p0 : Addr) (i1 : Int) (busy2 : Bool) (w : World) (Q : KQ) : Prop :=
  Sh.Loop [.int .i64 0, .int .i64 i1] w fun j k b => Uii k fun l a m => UnN m (li_ b (at0 p0 1) .i64 fun n => BIf (decide (a < n)) (ls_ b (at0 p0 3) fun o p z => NilP o fun r => 0 ≤ IntKind.i64.wrap (a.tdiv (64 : Int)) ∧ IntKind.i64.wrap (a.tdiv (64 : Int)) < (↑p : Int) ∧ Ld b (at0 r ((IntKind.i64.wrap (a.tdiv (64 : Int))).toNat * 1)) fun t => AsI .u64 t fun e => Join (fun u c => ui_ u .u64 fun f v => UnN v (NN (a.tmod (64 : Int)) (BIf (shrI IntKind.u64 f (a.tmod (64 : Int)) != 0) (li_ c.drew (at0 p0 1) .i64 fun d => CallS prog 160 #[.int .u64 (shrI IntKind.u64 f (a.tmod (64 : Int)))] c.drew fun x g => AsI .i64 x fun h => ce_ g (at0 p0 1) (.int .i64 d) ∧ Q (.int .i64 (if d < IntKind.i64.wrap (a + h) then d else IntKind.i64.wrap (a + h))) g) (j [.int .i64 l, .int .i64 (IntKind.i64.wrap (IntKind.i64.wrap (IntKind.i64.wrap (a.tdiv (64 : Int)) + 1) * 64))] c)))) fun i => BIf (!busy2) (i [.int .u64 (notI IntKind.u64 e)] b) (i [.int .u64 e] b)) (li_ b (at0 p0 1) .i64 fun y => Q (.int .i64 y) b))
theorem F93_of (p0 : Addr) (i1 : Int) (busy2 : Bool) (w : World) (Q : KQ) (h : F93 p0 i1 busy2 w Q) : Ret prog 93 #[.pointer (some p0), .int .i64 i1, .bool busy2] w Q := co Tryz.func93 (by kernel_rfl) h
def F94 (p0 : Addr) (i1 n2 : Int) (w : World) (Q : KQ) : Prop :=
  Join (fun k a => UnN k (Join (fun l f => UnN l (ls_ f (at0 p0 2) fun m n ad => NilP m fun o => 0 ≤ i1 ∧ i1 < (↑n : Int) ∧ St f (at0 o (i1.toNat * 1)) (.int .u8 n2) fun p => Q (Value.tuple #[]) p)) fun b => ls_ a (at0 p0 2) fun r t ae => NilP r fun u => 0 ≤ i1 ∧ i1 < (↑t : Int) ∧ li_ a (at0 u (i1.toNat * 1)) .u8 fun v => BIf (decide (v > 0)) (BIf (n2 == 0) (li_ a (at0 p0 4) .i64 fun x => St a (at0 p0 4) (.int .i64 (IntKind.i64.wrap (x + 1))) fun c => ls_ c.drew (at0 p0 3) fun g h af => NilP g fun y => 0 ≤ IntKind.i64.wrap (i1.tdiv (64 : Int)) ∧ IntKind.i64.wrap (i1.tdiv (64 : Int)) < (↑h : Int) ∧ Ld c.drew (at0 y ((IntKind.i64.wrap (i1.tdiv (64 : Int))).toNat * 1)) fun z => AsI .u64 z fun a0 => NN (i1.tmod (64 : Int)) (NilP g fun a1 => 0 ≤ IntKind.i64.wrap (i1.tdiv (64 : Int)) ∧ IntKind.i64.wrap (i1.tdiv (64 : Int)) < (↑h : Int) ∧ St c.drew (at0 a1 ((IntKind.i64.wrap (i1.tdiv (64 : Int))).toNat * 1)) (.int .u64 (andNotI IntKind.u64 a0 (shlI IntKind.u64 (1 : Int) (i1.tmod (64 : Int))))) fun a2 => b [] a2)) (b [] a)) (b [] a))) fun d => ls_ w (at0 p0 2) fun a3 a4 ag => NilP a3 fun a5 => 0 ≤ i1 ∧ i1 < (↑a4 : Int) ∧ li_ w (at0 a5 (i1.toNat * 1)) .u8 fun a6 => BIf (a6 == 0) (BIf (decide (n2 > 0)) (li_ w (at0 p0 4) .i64 fun a7 => St w (at0 p0 4) (.int .i64 (IntKind.i64.wrap (a7 - 1))) fun e => ls_ e.drew (at0 p0 3) fun i j ah => NilP i fun a8 => 0 ≤ IntKind.i64.wrap (i1.tdiv (64 : Int)) ∧ IntKind.i64.wrap (i1.tdiv (64 : Int)) < (↑j : Int) ∧ Ld e.drew (at0 a8 ((IntKind.i64.wrap (i1.tdiv (64 : Int))).toNat * 1)) fun a9 => AsI .u64 a9 fun aa => NN (i1.tmod (64 : Int)) (NilP i fun ab => 0 ≤ IntKind.i64.wrap (i1.tdiv (64 : Int)) ∧ IntKind.i64.wrap (i1.tdiv (64 : Int)) < (↑j : Int) ∧ St e.drew (at0 ab ((IntKind.i64.wrap (i1.tdiv (64 : Int))).toNat * 1)) (.int .u64 (orI IntKind.u64 aa (shlI IntKind.u64 (1 : Int) (i1.tmod (64 : Int))))) fun ac => d [] ac)) (d [] w)) (d [] w)
theorem F94_of (p0 : Addr) (i1 n2 : Int) (w : World) (Q : KQ) (h : F94 p0 i1 n2 w Q) : Ret prog 94 #[.pointer (some p0), .int .i64 i1, .int .u8 n2] w Q := co Tryz.func94 (by kernel_rfl) h
def F95 (p0 : Addr) (first1 n2 : Int) (w : World) (Q : KQ) : Prop :=
  BIf (decide (n2 < 1)) (Q (Value.tuple #[.int .i64 0, .int .i64 41]) w) (li_ w.drew (at0 p0 0) .i64 fun c => BIf (decide (first1 < c)) (Q (Value.tuple #[.int .i64 0, .int .i64 40]) w.drew) (li_ w.drew (at0 p0 0) .i64 fun d => li_ w.drew (at0 p0 1) .i64 fun e => BIf (decide (first1 ≥ IntKind.i64.wrap (d + e))) (Q (Value.tuple #[.int .i64 0, .int .i64 40]) w.drew) (li_ w.drew (at0 p0 0) .i64 fun f => li_ w.drew (at0 p0 1) .i64 fun g => BIf (decide (n2 > IntKind.i64.wrap (IntKind.i64.wrap (f + g) - first1))) (Q (Value.tuple #[.int .i64 0, .int .i64 40]) w.drew) (li_ w.drew (at0 p0 0) .i64 fun a => CallS prog 93 #[.pointer (some p0), .int .i64 (IntKind.i64.wrap (first1 - a)), .bool false] w.drew fun h b => AsI .i64 h fun i => BIf (decide (i < IntKind.i64.wrap (IntKind.i64.wrap (first1 - a) + n2))) (Q (Value.tuple #[.int .i64 0, .int .i64 43]) b) (Q (Value.tuple #[.int .i64 (IntKind.i64.wrap (first1 - a)), .int .i64 0]) b)))))
theorem F95_of (p0 : Addr) (first1 n2 : Int) (w : World) (Q : KQ) (h : F95 p0 first1 n2 w Q) : Ret prog 95 #[.pointer (some p0), .int .i64 first1, .int .i64 n2] w Q := co Tryz.func95 (by kernel_rfl) h
def F113 (s0 : Addr) (t1 : Int) (w : World) (Q : KQ) : Prop :=
  ls_ w (at0 s0 1) fun aj l ak => Sh.Loop [.int .i64 0, .int .i64 0] w fun m n c => Uii n fun a f o => UnN o (BIf (decide (a < (↑l : Int))) (Join (fun p r => ui_ p .i64 fun t u => UnN u (m [.int .i64 (IntKind.i64.wrap (a + 1)), .int .i64 t] r)) fun g => ls_ c (at0 s0 1) fun v x al => NilP v fun d => 0 ≤ a ∧ a < (↑x : Int) ∧ li_ c (at0 (at0 d (a.toNat * 5)) 0) .i64 fun e => BIf (decide (IntKind.i64.wrap (t1 - IntKind.i64.wrap ((4 : Int) * e)) < 0)) (g [.int .i64 f] c) (BIf (decide (IntKind.i64.wrap (t1 - IntKind.i64.wrap ((4 : Int) * e)) > 3)) (g [.int .i64 f] c) (0 ≤ IntKind.i64.wrap (t1 - IntKind.i64.wrap ((4 : Int) * e)) ∧ IntKind.i64.wrap (t1 - IntKind.i64.wrap ((4 : Int) * e)) < (↑(4 : Nat) : Int) ∧ Ld c (at0 (at0 (at0 d (a.toNat * 5)) 1) ((IntKind.i64.wrap (t1 - IntKind.i64.wrap ((4 : Int) * e))).toNat * 1)) fun y => AsB y fun z => BIf (!z) (g [.int .i64 f] c) (0 ≤ IntKind.i64.wrap (t1 - IntKind.i64.wrap ((4 : Int) * e)) ∧ IntKind.i64.wrap (t1 - IntKind.i64.wrap ((4 : Int) * e)) < (↑(4 : Nat) : Int) ∧ St c (at0 (at0 (at0 d (a.toNat * 5)) 1) ((IntKind.i64.wrap (t1 - IntKind.i64.wrap ((4 : Int) * e))).toNat * 1)) (.bool false) fun b => lb_ b (at0 (at0 d (a.toNat * 5)) 1) fun a0 => lb_ b (at0 (at0 (at0 d (a.toNat * 5)) 1) (1 : Nat)) fun a1 => lb_ b (at0 (at0 (at0 d (a.toNat * 5)) 1) (2 : Nat)) fun a2 => lb_ b (at0 (at0 (at0 d (a.toNat * 5)) 1) (3 : Nat)) fun a3 => RunP prog (binSem BinOp.eql 220 (Operand.tmp 53) (Operand.tmp 54) (Value.agg #[.bool a0, .bool a1, .bool a2, .bool a3]) (Value.agg #[.bool false, .bool false, .bool false, .bool false])) fun a4 => AsB a4 fun a5 => BIf a5 (li_ b (at0 (at0 d (a.toNat * 5)) 0) .i64 fun a6 => ls_ b.drew (at0 s0 1) fun a7 am h => 0 ≤ a ∧ a ≤ (↑h : Int) ∧ ls_ b.drew (at0 s0 1) fun a8 i j => 0 ≤ IntKind.i64.wrap (a + 1) ∧ IntKind.i64.wrap (a + 1) ≤ (↑i : Int) ∧ RunV prog (Builtin.append_ #[(217 : Nat), (217 : Nat)] (217 : Nat) #[Value.slice (slAddr a7 (0 : Nat) h (5 : Nat)) (a.toNat - (0 : Nat)) (h - (0 : Nat)), Value.slice (slAddr a8 (IntKind.i64.wrap (a + 1)).toNat j (5 : Nat)) (i - (IntKind.i64.wrap (a + 1)).toNat) (j - (IntKind.i64.wrap (a + 1)).toNat)]) b.drew fun a9 aa => AsSl a9 fun ab ac ad => St aa (at0 s0 1) (Value.slice ab ac ad) fun k => lp_ k (at0 s0 0) fun ae => CallS prog 47 #[.pointer ae, .int .i64 a6, .int .i64 1] k fun af ag => AsTup af fun ah => Uii ah fun an ao ai => UnN ai (Q (.int .i64 0) ag)) (Q (.int .i64 0) b))))) (Q (.int .i64 45) c))
theorem F113_of (s0 : Addr) (t1 : Int) (w : World) (Q : KQ) (h : F113 s0 t1 w Q) : Ret prog 113 #[.pointer (some s0), .int .i64 t1] w Q := co Tryz.func113 (by kernel_rfl) h
def F119 (s0 : Addr) (w : World) (Q : KQ) : Prop :=
  ls_ w (at0 s0 1) fun i c a7 => Sh.Loop [.int .i64 0, Value.slice none (0 : Nat) (0 : Nat)] w fun j k b => Uis k fun a d e f l => UnN l (BIf (decide (a < (↑c : Int))) (NilP i fun m => 0 ≤ a ∧ a < (↑c : Int) ∧ Libbbb b (at0 m (a.toNat * 5)) fun n o p r t => New b #[.int .i64 0, .bool false, .bool false, .bool false, .bool false] 222 fun g u => S_5 u g (.int .i64 n) (.bool o) (.bool p) (.bool r) (.bool t) fun h => li_ h (at0 g 0) .i64 fun v => RunV prog (Instr.buildSlice 70 1 #[(0, .int .i64 v)]) h fun x y => AsSl x fun z a0 a1 => RunV prog (Builtin.append_ #[(70 : Nat), (70 : Nat)] (70 : Nat) #[Value.slice d e f, Value.slice z a0 a1]) y fun a2 a3 => AsSl a2 fun a4 a5 a6 => j [.int .i64 (IntKind.i64.wrap (a + 1)), Value.slice a4 a5 a6] a3) (Q (Value.slice d e f) b))
theorem F119_of (s0 : Addr) (w : World) (Q : KQ) (h : F119 s0 w Q) : Ret prog 119 #[.pointer (some s0)] w Q := co Tryz.func119 (by kernel_rfl) h
def F120 (s0 : Addr) (w : World) (Q : KQ) : Prop :=
  ls_ w (at0 s0 1) fun aZ x b0 => Sh.Loop [.int .i64 0, .int .i64 0, .int .i64 0] w fun y z g => Uiii z fun a a0 a1 a2 => UnN a2 (BIf (decide (a < (↑x : Int))) (Sh.Loop [.int .i64 0, .int .i64 a0, .int .i64 a1] g fun a3 a4 e => Uiii a4 fun b k l a5 => UnN a5 (BIf (decide (b < 4)) (ls_ e (at0 s0 1) fun a6 a7 b1 => NilP a6 fun a8 => 0 ≤ a ∧ a < (↑a7 : Int) ∧ 0 ≤ b ∧ b < (↑(4 : Nat) : Int) ∧ lb_ e (at0 (at0 (at0 a8 (a.toNat * 5)) 1) (b.toNat * 1)) fun a9 => BIf (!a9) (ls_ e (at0 s0 1) fun aa ab b2 => NilP aa fun ac => 0 ≤ a ∧ a < (↑ab : Int) ∧ 0 ≤ b ∧ b < (↑(4 : Nat) : Int) ∧ St e (at0 (at0 (at0 ac (a.toNat * 5)) 1) (b.toNat * 1)) (.bool true) fun h => ls_ h (at0 s0 1) fun ad ae b3 => NilP ad fun af => 0 ≤ a ∧ a < (↑ae : Int) ∧ li_ h (at0 (at0 af (a.toNat * 5)) 0) .i64 fun ag => Q (Value.tuple #[.int .i64 (IntKind.i64.wrap (IntKind.i64.wrap ((4 : Int) * ag) + b)), .int .i64 0]) h) (a3 [.int .i64 (IntKind.i64.wrap (b + 1)), .int .i64 k, .int .i64 l] e)) (y [.int .i64 (IntKind.i64.wrap (a + 1)), .int .i64 k, .int .i64 l] e))) (lp_ g (at0 s0 0) fun ah => CallS prog 46 #[.pointer ah, .int .i64 1, .int .i64 1] g fun ai m => AsTup ai fun aj => Uii aj fun i n ak => UnN ak (BIf (n != 0) (Q (Value.tuple #[.int .i64 0, .int .i64 n]) m) (Join (fun al o => ui_ al .i64 fun c am => UnN am (ls_ o (at0 s0 1) fun b4 an b5 => RunV prog (Instr.makeSlice 217 (.int .i64 0) (.int .i64 (IntKind.i64.wrap ((↑an : Int) + 1)))) o fun ao p => AsSl ao fun ap aq ar => ls_ p (at0 s0 1) fun au b6 j => 0 ≤ c ∧ c ≤ (↑j : Int) ∧ RunV prog (Builtin.append_ #[(217 : Nat), (217 : Nat)] (217 : Nat) #[Value.slice ap aq ar, Value.slice (slAddr au (0 : Nat) j (5 : Nat)) (c.toNat - (0 : Nat)) (j - (0 : Nat))]) p fun av ax => AsSl av fun ay az aA => RunV prog (Instr.buildSlice 217 1 #[(0, Value.agg #[.int .i64 i, .bool true, .bool false, .bool false, .bool false])]) ax fun aB aC => AsSl aB fun aD aE aF => RunV prog (Builtin.append_ #[(217 : Nat), (217 : Nat)] (217 : Nat) #[Value.slice ay az aA, Value.slice aD aE aF]) aC fun aG r => AsSl aG fun aH aI aJ => ls_ r (at0 s0 1) fun aK t u => 0 ≤ c ∧ c ≤ (↑t : Int) ∧ RunV prog (Builtin.append_ #[(217 : Nat), (217 : Nat)] (217 : Nat) #[Value.slice aH aI aJ, Value.slice (slAddr aK c.toNat u (5 : Nat)) (t - c.toNat) (u - c.toNat)]) r fun aL aM => AsSl aL fun aN aO aP => St aM (at0 s0 1) (Value.slice aN aO aP) fun aQ => Q (Value.tuple #[.int .i64 (IntKind.i64.wrap ((4 : Int) * i)), .int .i64 0]) aQ)) fun v => Sh.Loop [.int .i64 0] m fun aR aS f => ui_ aS .i64 fun d aT => UnN aT (ls_ f (at0 s0 1) fun b7 aU b8 => BIf (decide (d < (↑aU : Int))) (ls_ f (at0 s0 1) fun aV aW b9 => NilP aV fun aX => 0 ≤ d ∧ d < (↑aW : Int) ∧ li_ f (at0 (at0 aX (d.toNat * 5)) 0) .i64 fun aY => BIf (decide (aY < i)) (aR [.int .i64 (IntKind.i64.wrap (d + 1))] f) (v [.int .i64 d] f)) (v [.int .i64 d] f))))))
theorem F120_of (s0 : Addr) (w : World) (Q : KQ) (h : F120 s0 w Q) : Ret prog 120 #[.pointer (some s0)] w Q := co Tryz.func120 (by kernel_rfl) h
def F159 (x0 : Int) (w : World) (Q : KQ) : Prop :=
  Q (.int .i64 (andI IntKind.i64 (IntKind.i64.wrap (IntKind.u64.wrap (IntKind.u64.wrap (IntKind.u64.wrap (andI IntKind.u64 (IntKind.u64.wrap (shrI IntKind.u64 (IntKind.u64.wrap (andI IntKind.u64 (shrI IntKind.u64 (IntKind.u64.wrap (andI IntKind.u64 (shrI IntKind.u64 x0 (1 : Int)) (6148914691236517205 : Int) + andI IntKind.u64 x0 (6148914691236517205 : Int))) (2 : Int)) (3689348814741910323 : Int) + andI IntKind.u64 (IntKind.u64.wrap (andI IntKind.u64 (shrI IntKind.u64 x0 (1 : Int)) (6148914691236517205 : Int) + andI IntKind.u64 x0 (6148914691236517205 : Int))) (3689348814741910323 : Int))) (4 : Int) + IntKind.u64.wrap (andI IntKind.u64 (shrI IntKind.u64 (IntKind.u64.wrap (andI IntKind.u64 (shrI IntKind.u64 x0 (1 : Int)) (6148914691236517205 : Int) + andI IntKind.u64 x0 (6148914691236517205 : Int))) (2 : Int)) (3689348814741910323 : Int) + andI IntKind.u64 (IntKind.u64.wrap (andI IntKind.u64 (shrI IntKind.u64 x0 (1 : Int)) (6148914691236517205 : Int) + andI IntKind.u64 x0 (6148914691236517205 : Int))) (3689348814741910323 : Int)))) (1085102592571150095 : Int) + shrI IntKind.u64 (andI IntKind.u64 (IntKind.u64.wrap (shrI IntKind.u64 (IntKind.u64.wrap (andI IntKind.u64 (shrI IntKind.u64 (IntKind.u64.wrap (andI IntKind.u64 (shrI IntKind.u64 x0 (1 : Int)) (6148914691236517205 : Int) + andI IntKind.u64 x0 (6148914691236517205 : Int))) (2 : Int)) (3689348814741910323 : Int) + andI IntKind.u64 (IntKind.u64.wrap (andI IntKind.u64 (shrI IntKind.u64 x0 (1 : Int)) (6148914691236517205 : Int) + andI IntKind.u64 x0 (6148914691236517205 : Int))) (3689348814741910323 : Int))) (4 : Int) + IntKind.u64.wrap (andI IntKind.u64 (shrI IntKind.u64 (IntKind.u64.wrap (andI IntKind.u64 (shrI IntKind.u64 x0 (1 : Int)) (6148914691236517205 : Int) + andI IntKind.u64 x0 (6148914691236517205 : Int))) (2 : Int)) (3689348814741910323 : Int) + andI IntKind.u64 (IntKind.u64.wrap (andI IntKind.u64 (shrI IntKind.u64 x0 (1 : Int)) (6148914691236517205 : Int) + andI IntKind.u64 x0 (6148914691236517205 : Int))) (3689348814741910323 : Int)))) (1085102592571150095 : Int)) (8 : Int)) + shrI IntKind.u64 (IntKind.u64.wrap (andI IntKind.u64 (IntKind.u64.wrap (shrI IntKind.u64 (IntKind.u64.wrap (andI IntKind.u64 (shrI IntKind.u64 (IntKind.u64.wrap (andI IntKind.u64 (shrI IntKind.u64 x0 (1 : Int)) (6148914691236517205 : Int) + andI IntKind.u64 x0 (6148914691236517205 : Int))) (2 : Int)) (3689348814741910323 : Int) + andI IntKind.u64 (IntKind.u64.wrap (andI IntKind.u64 (shrI IntKind.u64 x0 (1 : Int)) (6148914691236517205 : Int) + andI IntKind.u64 x0 (6148914691236517205 : Int))) (3689348814741910323 : Int))) (4 : Int) + IntKind.u64.wrap (andI IntKind.u64 (shrI IntKind.u64 (IntKind.u64.wrap (andI IntKind.u64 (shrI IntKind.u64 x0 (1 : Int)) (6148914691236517205 : Int) + andI IntKind.u64 x0 (6148914691236517205 : Int))) (2 : Int)) (3689348814741910323 : Int) + andI IntKind.u64 (IntKind.u64.wrap (andI IntKind.u64 (shrI IntKind.u64 x0 (1 : Int)) (6148914691236517205 : Int) + andI IntKind.u64 x0 (6148914691236517205 : Int))) (3689348814741910323 : Int)))) (1085102592571150095 : Int) + shrI IntKind.u64 (andI IntKind.u64 (IntKind.u64.wrap (shrI IntKind.u64 (IntKind.u64.wrap (andI IntKind.u64 (shrI IntKind.u64 (IntKind.u64.wrap (andI IntKind.u64 (shrI IntKind.u64 x0 (1 : Int)) (6148914691236517205 : Int) + andI IntKind.u64 x0 (6148914691236517205 : Int))) (2 : Int)) (3689348814741910323 : Int) + andI IntKind.u64 (IntKind.u64.wrap (andI IntKind.u64 (shrI IntKind.u64 x0 (1 : Int)) (6148914691236517205 : Int) + andI IntKind.u64 x0 (6148914691236517205 : Int))) (3689348814741910323 : Int))) (4 : Int) + IntKind.u64.wrap (andI IntKind.u64 (shrI IntKind.u64 (IntKind.u64.wrap (andI IntKind.u64 (shrI IntKind.u64 x0 (1 : Int)) (6148914691236517205 : Int) + andI IntKind.u64 x0 (6148914691236517205 : Int))) (2 : Int)) (3689348814741910323 : Int) + andI IntKind.u64 (IntKind.u64.wrap (andI IntKind.u64 (shrI IntKind.u64 x0 (1 : Int)) (6148914691236517205 : Int) + andI IntKind.u64 x0 (6148914691236517205 : Int))) (3689348814741910323 : Int)))) (1085102592571150095 : Int)) (8 : Int))) (16 : Int)) + shrI IntKind.u64 (IntKind.u64.wrap (IntKind.u64.wrap (andI IntKind.u64 (IntKind.u64.wrap (shrI IntKind.u64 (IntKind.u64.wrap (andI IntKind.u64 (shrI IntKind.u64 (IntKind.u64.wrap (andI IntKind.u64 (shrI IntKind.u64 x0 (1 : Int)) (6148914691236517205 : Int) + andI IntKind.u64 x0 (6148914691236517205 : Int))) (2 : Int)) (3689348814741910323 : Int) + andI IntKind.u64 (IntKind.u64.wrap (andI IntKind.u64 (shrI IntKind.u64 x0 (1 : Int)) (6148914691236517205 : Int) + andI IntKind.u64 x0 (6148914691236517205 : Int))) (3689348814741910323 : Int))) (4 : Int) + IntKind.u64.wrap (andI IntKind.u64 (shrI IntKind.u64 (IntKind.u64.wrap (andI IntKind.u64 (shrI IntKind.u64 x0 (1 : Int)) (6148914691236517205 : Int) + andI IntKind.u64 x0 (6148914691236517205 : Int))) (2 : Int)) (3689348814741910323 : Int) + andI IntKind.u64 (IntKind.u64.wrap (andI IntKind.u64 (shrI IntKind.u64 x0 (1 : Int)) (6148914691236517205 : Int) + andI IntKind.u64 x0 (6148914691236517205 : Int))) (3689348814741910323 : Int)))) (1085102592571150095 : Int) + shrI IntKind.u64 (andI IntKind.u64 (IntKind.u64.wrap (shrI IntKind.u64 (IntKind.u64.wrap (andI IntKind.u64 (shrI IntKind.u64 (IntKind.u64.wrap (andI IntKind.u64 (shrI IntKind.u64 x0 (1 : Int)) (6148914691236517205 : Int) + andI IntKind.u64 x0 (6148914691236517205 : Int))) (2 : Int)) (3689348814741910323 : Int) + andI IntKind.u64 (IntKind.u64.wrap (andI IntKind.u64 (shrI IntKind.u64 x0 (1 : Int)) (6148914691236517205 : Int) + andI IntKind.u64 x0 (6148914691236517205 : Int))) (3689348814741910323 : Int))) (4 : Int) + IntKind.u64.wrap (andI IntKind.u64 (shrI IntKind.u64 (IntKind.u64.wrap (andI IntKind.u64 (shrI IntKind.u64 x0 (1 : Int)) (6148914691236517205 : Int) + andI IntKind.u64 x0 (6148914691236517205 : Int))) (2 : Int)) (3689348814741910323 : Int) + andI IntKind.u64 (IntKind.u64.wrap (andI IntKind.u64 (shrI IntKind.u64 x0 (1 : Int)) (6148914691236517205 : Int) + andI IntKind.u64 x0 (6148914691236517205 : Int))) (3689348814741910323 : Int)))) (1085102592571150095 : Int)) (8 : Int)) + shrI IntKind.u64 (IntKind.u64.wrap (andI IntKind.u64 (IntKind.u64.wrap (shrI IntKind.u64 (IntKind.u64.wrap (andI IntKind.u64 (shrI IntKind.u64 (IntKind.u64.wrap (andI IntKind.u64 (shrI IntKind.u64 x0 (1 : Int)) (6148914691236517205 : Int) + andI IntKind.u64 x0 (6148914691236517205 : Int))) (2 : Int)) (3689348814741910323 : Int) + andI IntKind.u64 (IntKind.u64.wrap (andI IntKind.u64 (shrI IntKind.u64 x0 (1 : Int)) (6148914691236517205 : Int) + andI IntKind.u64 x0 (6148914691236517205 : Int))) (3689348814741910323 : Int))) (4 : Int) + IntKind.u64.wrap (andI IntKind.u64 (shrI IntKind.u64 (IntKind.u64.wrap (andI IntKind.u64 (shrI IntKind.u64 x0 (1 : Int)) (6148914691236517205 : Int) + andI IntKind.u64 x0 (6148914691236517205 : Int))) (2 : Int)) (3689348814741910323 : Int) + andI IntKind.u64 (IntKind.u64.wrap (andI IntKind.u64 (shrI IntKind.u64 x0 (1 : Int)) (6148914691236517205 : Int) + andI IntKind.u64 x0 (6148914691236517205 : Int))) (3689348814741910323 : Int)))) (1085102592571150095 : Int) + shrI IntKind.u64 (andI IntKind.u64 (IntKind.u64.wrap (shrI IntKind.u64 (IntKind.u64.wrap (andI IntKind.u64 (shrI IntKind.u64 (IntKind.u64.wrap (andI IntKind.u64 (shrI IntKind.u64 x0 (1 : Int)) (6148914691236517205 : Int) + andI IntKind.u64 x0 (6148914691236517205 : Int))) (2 : Int)) (3689348814741910323 : Int) + andI IntKind.u64 (IntKind.u64.wrap (andI IntKind.u64 (shrI IntKind.u64 x0 (1 : Int)) (6148914691236517205 : Int) + andI IntKind.u64 x0 (6148914691236517205 : Int))) (3689348814741910323 : Int))) (4 : Int) + IntKind.u64.wrap (andI IntKind.u64 (shrI IntKind.u64 (IntKind.u64.wrap (andI IntKind.u64 (shrI IntKind.u64 x0 (1 : Int)) (6148914691236517205 : Int) + andI IntKind.u64 x0 (6148914691236517205 : Int))) (2 : Int)) (3689348814741910323 : Int) + andI IntKind.u64 (IntKind.u64.wrap (andI IntKind.u64 (shrI IntKind.u64 x0 (1 : Int)) (6148914691236517205 : Int) + andI IntKind.u64 x0 (6148914691236517205 : Int))) (3689348814741910323 : Int)))) (1085102592571150095 : Int)) (8 : Int))) (16 : Int))) (32 : Int)))) (127 : Int))) w
theorem F159_of (x0 : Int) (w : World) (Q : KQ) (h : F159 x0 w Q) : Ret prog 159 #[.int .u64 x0] w Q := co Tryz.func159 (by kernel_rfl) h
def F160 (x0 : Int) (w : World) (Q : KQ) : Prop :=
  BIf (x0 == 0) (Q (.int .i64 64) w) (0 ≤ shrI IntKind.u64 (IntKind.u64.wrap (andI IntKind.u64 x0 (IntKind.u64.wrap ((0 : Int) - x0)) * 285870213051353865)) (58 : Int) ∧ shrI IntKind.u64 (IntKind.u64.wrap (andI IntKind.u64 x0 (IntKind.u64.wrap ((0 : Int) - x0)) * 285870213051353865)) (58 : Int) < (↑(64 : Nat) : Int) ∧ Ld w (at0 { block := (3 : Nat), off := (0 : Nat) } ((shrI IntKind.u64 (IntKind.u64.wrap (andI IntKind.u64 x0 (IntKind.u64.wrap ((0 : Int) - x0)) * 285870213051353865)) (58 : Int)).toNat * 1)) fun a => AsI .u8 a fun b => Q (.int .i64 (IntKind.i64.wrap b)) w)
theorem F160_of (x0 : Int) (w : World) (Q : KQ) (h : F160 x0 w Q) : Ret prog 160 #[.int .u64 x0] w Q := co Tryz.func160 (by kernel_rfl) h
end Go.Proofs.YtmgjicnipgdjhaaGreatDoor
namespace Go.Sh
theorem w64 {n : Int} (h0 : -9223372036854775808 ≤ n) (h1 : n ≤ 9223372036854775807) : IntKind.i64.wrap n = n := IntWalk.i64_in n ⟨h0, h1⟩
theorem wu64 {n : Int} (h0 : 0 ≤ n) (h1 : n ≤ 18446744073709551615) : IntKind.u64.wrap n = n := IntWalk.u64_in n ⟨h0, h1⟩
theorem wu32 {n : Int} (h0 : 0 ≤ n) (h1 : n ≤ 4294967295) : IntKind.u32.wrap n = n := IntWalk.u32_in n ⟨h0, h1⟩
theorem wu8 {n : Int} (h0 : 0 ≤ n) (h1 : n ≤ 255) : IntKind.u8.wrap n = n := IntWalk.u8_in n ⟨h0, h1⟩
theorem ofInt_nat (b a : Nat) (h : a < 2 ^ b) : (BitVec.ofInt b (a : Int)).toNat = a := by
  rw [BitVec.ofInt_natCast, BitVec.toNat_ofNat, Nat.mod_eq_of_lt h]
theorem u64_bits (n : Nat) (h : n < 2 ^ 64) : IntKind.u64.wrap (n : Int) = n := wu64 (by omega) (by omega)
theorem u32_bits (n : Nat) (h : n < 2 ^ 32) : IntKind.u32.wrap (n : Int) = n := wu32 (by omega) (by omega)
section
variable {a b : Nat}
theorem andI_u64 (ha : a < 2 ^ 64) (hb : b < 2 ^ 64) : andI .u64 a b = ((a &&& b : Nat) : Int) := by
  unfold andI
  rw [BitVec.toNat_and]
  show IntKind.u64.wrap (((BitVec.ofInt 64 a).toNat &&& (BitVec.ofInt 64 b).toNat : Nat) : Int) = _
  rw [ofInt_nat 64 a ha, ofInt_nat 64 b hb, u64_bits _ (Nat.and_lt_two_pow _ hb)]
theorem orI_u64 (ha : a < 2 ^ 64) (hb : b < 2 ^ 64) : orI .u64 a b = ((a ||| b : Nat) : Int) := by
  unfold orI
  rw [BitVec.toNat_or]
  show IntKind.u64.wrap (((BitVec.ofInt 64 a).toNat ||| (BitVec.ofInt 64 b).toNat : Nat) : Int) = _
  rw [ofInt_nat 64 a ha, ofInt_nat 64 b hb, u64_bits _ (Nat.or_lt_two_pow ha hb)]
theorem xorI_u64 (ha : a < 2 ^ 64) (hb : b < 2 ^ 64) : xorI .u64 a b = ((a ^^^ b : Nat) : Int) := by
  unfold xorI
  rw [BitVec.toNat_xor]
  show IntKind.u64.wrap (((BitVec.ofInt 64 a).toNat ^^^ (BitVec.ofInt 64 b).toNat : Nat) : Int) = _
  rw [ofInt_nat 64 a ha, ofInt_nat 64 b hb, u64_bits _ (Nat.xor_lt_two_pow ha hb)]
theorem andNotI_u64 (ha : a < 2 ^ 64) (hb : b < 2 ^ 64) : andNotI .u64 a b = ((a &&& (2 ^ 64 - 1 - b) : Nat) : Int) := by
  unfold andNotI
  rw [BitVec.toNat_and, BitVec.toNat_not]
  show IntKind.u64.wrap (((BitVec.ofInt 64 a).toNat &&& (2 ^ 64 - 1 - (BitVec.ofInt 64 b).toNat) : Nat) : Int) = _
  rw [ofInt_nat 64 a ha, ofInt_nat 64 b hb, u64_bits _ (Nat.and_lt_two_pow _ (by omega))]
theorem notI_u64 (ha : a < 2 ^ 64) : notI .u64 a = ((2 ^ 64 - 1 - a : Nat) : Int) := by
  unfold notI
  have h1 : (if IntKind.u64.signed = true then (-1 : Int) else IntKind.u64.max) = ((2 ^ 64 - 1 : Nat) : Int) := by decide
  rw [h1, xorI_u64 (by decide) ha]
  congr 1
  apply Nat.eq_of_testBit_eq
  intro i
  rw [Nat.testBit_xor, Nat.testBit_two_pow_sub_one, show 2 ^ 64 - 1 - a = 2 ^ 64 - (a + 1) from by omega, Nat.testBit_two_pow_sub_succ ha]
  by_cases h : i < 64
  · simp [h]
  · have : a.testBit i = false := Nat.testBit_lt_two_pow (Nat.lt_of_lt_of_le ha (Nat.pow_le_pow_right (by decide) (by omega)))
    simp [h, this]
theorem shrI_nat {k : IntKind} {n : Nat} (hn : n ≤ k.bits) : shrI k a n = ((a >>> n : Nat) : Int) := by
  unfold shrI
  rw [show min (n : Int).toNat k.bits = n from by rw [Int.toNat_natCast]; exact Nat.min_eq_left hn, Nat.shiftRight_eq_div_pow]
  rw [Int.fdiv_eq_ediv_of_nonneg _ (by exact_mod_cast Nat.zero_le _)]
  norm_cast
theorem shlI_u64 {n : Nat} (hn : n < 64) (h : a <<< n < 2 ^ 64) : shlI .u64 a n = ((a <<< n : Nat) : Int) := by
  unfold shlI
  rw [show min (n : Int).toNat IntKind.u64.bits = n from by rw [Int.toNat_natCast]; exact Nat.min_eq_left (Nat.le_of_lt hn)]
  rw [Nat.shiftLeft_eq] at h ⊢
  rw [← u64_bits _ h]
  congr 1
end
end Go.Sh
namespace Go.Fr
def next (u : List Nat) (busy : Bool) (i : Nat) : Nat :=
  if h : i < u.length then (if decide (0 < u[i]) = busy then i else next u busy (i + 1)) else u.length
termination_by u.length - i
theorem next_end {u : List Nat} {busy : Bool} {i : Nat} (h : u.length ≤ i) : next u busy i = u.length := by
  rw [next, dif_neg (by omega)]
theorem next_hit {u : List Nat} {busy : Bool} {i : Nat} (h : i < u.length) (hb : decide (0 < u[i]) = busy) : next u busy i = i := by
  rw [next, dif_pos h, if_pos hb]
theorem next_miss {u : List Nat} {busy : Bool} {i : Nat} (h : i < u.length) (hb : decide (0 < u[i]) ≠ busy) : next u busy i = next u busy (i + 1) := by
  rw [next, dif_pos h, if_neg hb]
theorem next_skip {u : List Nat} {busy : Bool} : ∀ (d i : Nat), (∀ t, t < d → ∀ h : i + t < u.length, decide (0 < u[i + t]) ≠ busy) → next u busy i = next u busy (i + d)
  | 0, i, _ => rfl
  | d + 1, i, h => by
    by_cases hi : i < u.length
    · rw [next_miss hi (h 0 (by omega) (by omega)), next_skip d (i + 1) (fun t ht hh => by have := h (t + 1) (by omega) (by omega); simpa [Nat.add_assoc, Nat.add_comm 1 t] using this)]
      congr 1; omega
    · rw [next_end (by omega), next_end (by omega)]
theorem next_spec (u : List Nat) (busy : Bool) (i : Nat) : next u busy i ≤ u.length ∧ (i ≤ u.length → i ≤ next u busy i) ∧ (∀ h : next u busy i < u.length, decide (0 < u[next u busy i]) = busy) ∧
    (∀ j, i ≤ j → j < next u busy i → ∀ h : j < u.length, decide (0 < u[j]) ≠ busy) := by
  fun_induction next u busy i with
  | case1 i h hb => exact ⟨by omega, fun _ => Nat.le_refl _, fun _ => hb, fun j h1 h2 => by omega⟩
  | case2 i h hb ih =>
    obtain ⟨h1, h2, h3, h4⟩ := ih
    refine ⟨h1, fun _ => by have := h2 (by omega); omega, h3, fun j hj hj2 hh => ?_⟩
    by_cases e : j = i
    · subst e; exact hb
    · exact h4 j (by omega) hj2 hh
  | case3 i h => exact ⟨Nat.le_refl _, fun hi => hi, fun hh => absurd hh (by omega), fun j h1 h2 hh => by omega⟩
structure Bits (u ws : List Nat) : Prop where
  len : ws.length = (u.length + 63) / 64
  lt : ∀ k, (h : k < ws.length) → ws[k] < 2 ^ 64
  bit : ∀ k j, (h : k < ws.length) → j < 64 → (ws[k]).testBit j = decide (0 < u.getD (64 * k + j) 0)
theorem ctz_spec {n x : Nat} (h0 : x ≠ 0) (h : x < 2 ^ n) : x.testBit (Lib.ctz n x) = true ∧ (∀ j, j < Lib.ctz n x → x.testBit j = false) ∧ Lib.ctz n x < n := by
  obtain ⟨m, hm, hk⟩ := Lib.ctzFrom_spec n x (by omega) h
  have e : Lib.ctz n x = Lib.ctzFrom n x := by simp [Lib.ctz, h0]
  rw [e]
  generalize Lib.ctzFrom n x = k at *
  subst hm
  refine ⟨?_, fun j hj => ?_, hk⟩
  · rw [Nat.testBit_two_pow_mul]; simp [Nat.testBit_zero]
  · rw [Nat.testBit_two_pow_mul]; simp; omega
theorem getD_get {u : List Nat} {i : Nat} (h : i < u.length) : u.getD i 0 = u[i] := by simp [List.getD, h]
theorem next_word {u ws : List Nat} (hb : Bits u ws) {busy : Bool} {i : Nat} (hi : i < u.length) (hk : i / 64 < ws.length)
    (W : Nat) (hW : W = if busy then ws[i / 64] else 2 ^ 64 - 1 - ws[i / 64]) :
    W < 2 ^ 64 ∧ (W >>> (i % 64) = 0 → next u busy i = next u busy ((i / 64 + 1) * 64)) ∧
    (W >>> (i % 64) ≠ 0 → next u busy i = min (i + Lib.ctz 64 (W >>> (i % 64))) u.length ∧ Lib.ctz 64 (W >>> (i % 64)) < 64) := by
  have hwl := hb.lt _ hk
  have hWl : W < 2 ^ 64 := by subst hW; split <;> omega
  have hbit : ∀ j, j < 64 → W.testBit j = (decide (0 < u.getD (64 * (i / 64) + j) 0) == busy) := by
    intro j hj
    have h1 := hb.bit _ j hk hj
    subst hW
    cases busy with
    | true => simp [h1]
    | false =>
      rw [if_neg (by simp), show 2 ^ 64 - 1 - ws[i / 64] = 2 ^ 64 - (ws[i / 64] + 1) from by omega, Nat.testBit_two_pow_sub_succ hwl, h1]
      simp [hj]
  have hhigh : ∀ j, 64 ≤ j → W.testBit j = false := fun j hj => Nat.testBit_lt_two_pow (Nat.lt_of_lt_of_le hWl (Nat.pow_le_pow_right (by decide) hj))
  have hs : W >>> (i % 64) < 2 ^ 64 := Nat.lt_of_le_of_lt (Nat.shiftRight_le _ _) hWl
  have hsb : ∀ t, (W >>> (i % 64)).testBit t = W.testBit (i % 64 + t) := fun t => Nat.testBit_shiftRight ..
  have hval : ∀ t, i % 64 + t < 64 → (W >>> (i % 64)).testBit t = (decide (0 < u.getD (i + t) 0) == busy) := by
    intro t ht
    rw [hsb, hbit _ ht]
    congr 3
    congr 1
    omega
  have hlt : ∀ t, (W >>> (i % 64)).testBit t = true → i % 64 + t < 64 := by
    intro t ht
    rcases Nat.lt_or_ge (i % 64 + t) 64 with h | h
    · exact h
    · rw [hsb, hhigh _ h] at ht; cases ht
  refine ⟨hWl, fun h0 => ?_, fun h0 => ?_⟩
  · rw [next_skip (64 - i % 64) i ?_]
    · congr 1; omega
    · intro t ht hh
      have := hval t (by omega)
      rw [h0, Nat.zero_testBit, getD_get hh] at this
      intro e; rw [e] at this; simp at this
  · obtain ⟨c1, c2, c3⟩ := ctz_spec h0 hs
    generalize Lib.ctz 64 (W >>> (i % 64)) = c at *
    have hc := hlt c c1
    refine ⟨?_, c3⟩
    rw [next_skip c i ?_]
    · by_cases hin : i + c < u.length
      · rw [next_hit hin, Nat.min_eq_left (by omega)]
        have := hval c hc
        rw [c1, getD_get hin] at this
        simpa using this.symm
      · rw [next_end (by omega), Nat.min_eq_right (by omega)]
    · intro t ht hh
      have := hval t (by omega)
      rw [c2 t ht, getD_get hh] at this
      intro e; rw [e] at this; simp at this
end Go.Fr
namespace Go.Proofs.YtmgjicnipgdjhaaGreatDoor
open Go Go.Sh Go.Fr
structure Pool where
  first : Nat
  u : List Nat
def Pool.free (p : Pool) : Nat := p.u.countP (· = 0)
structure Pool.Ok (p : Pool) : Prop where
  le : p.first + p.u.length ≤ 268435456
  n : p.u.length ≤ 1048576
  u : ∀ x ∈ p.u, x ≤ 255
def poolCells (p : Pool) (bu bd : Nat) : List Value :=
  [.int .i64 p.first, .int .i64 p.u.length, .slice (some ⟨bu, 0, none⟩) p.u.length p.u.length, .slice (some ⟨bd, 0, none⟩) ((p.u.length + 63) / 64) ((p.u.length + 63) / 64), .int .i64 p.free]
def u8s (u : List Nat) : List Value := u.map fun n => Value.int .u8 (n : Nat)
def u64s (u : List Nat) : List Value := u.map fun n => Value.int .u64 (n : Nat)
structure PoolAt (w : World) (b bu bd : Nat) (p : Pool) : Prop where
  st : Has w b (poolCells p bu bd)
  us : Has w bu (u8s p.u)
  ws : ∃ ws, Bits p.u ws ∧ Has w bd (u64s ws)
  ne : b ≠ bu ∧ b ≠ bd ∧ bu ≠ bd
  ok : p.Ok
theorem PoolAt.qt {w w' : World} {b bu bd : Nat} {p : Pool} (h : PoolAt w b bu bd p) (q : Qt w w') : PoolAt w' b bu bd p :=
  ⟨h.st.qt q, h.us.qt q, let ⟨ws, h1, h2⟩ := h.ws; ⟨ws, h1, h2.qt q⟩, h.ne, h.ok⟩
theorem PoolAt.fr {S : Nat → Prop} {w w' : World} {b bu bd : Nat} {p : Pool} (h : PoolAt w b bu bd p) (q : Fr S w w') (h1 : ¬ S b) (h2 : ¬ S bu) (h3 : ¬ S bd) : PoolAt w' b bu bd p :=
  ⟨h.st.fr q h1, h.us.fr q h2, let ⟨ws, h1, h2⟩ := h.ws; ⟨ws, h1, h2.fr q h3⟩, h.ne, h.ok⟩
structure Tz (w : World) : Prop where
  size : 3 < w.heap.size
  cell : ∀ k, k < 64 → w.cell? ⟨3, k, none⟩ = some (.int .u8 (Lib.deBruijn64tab.getD k 0 : Nat))
theorem Tz.of_block {w w' : World} (h : Tz w) (h0 : w'.heap[3]? = w.heap[3]?) : Tz w' := by
  have hs : 3 < w'.heap.size := by
    rcases Nat.lt_or_ge 3 w'.heap.size with h1 | h1
    · exact h1
    · rw [Array.getElem?_eq_none (by omega), Array.getElem?_eq_getElem h.size] at h0; cases h0
  exact ⟨hs, fun k hk => by rw [← h.cell k hk]; simp [World.cell?, h0]⟩
theorem Tz.qt {w w' : World} (h : Tz w) (q : Qt w w') : Tz w' := h.of_block (by rw [q.heap])
theorem Tz.fr {S : Nat → Prop} {w w' : World} (h : Tz w) (q : Fr S w w') (h0 : ¬ S 3) : Tz w' := h.of_block (q.block 3 h.size h0)
theorem u64s_get {ws : List Nat} {k : Nat} (h : k < ws.length) : (u64s ws)[k]? = some (.int .u64 (ws[k] : Nat)) := by simp [u64s, h]
theorem u8s_get {ws : List Nat} {k : Nat} (h : k < ws.length) : (u8s ws)[k]? = some (.int .u8 (ws[k] : Nat)) := by simp [u8s, h]
theorem tz_num (x : Nat) (h0 : x ≠ 0) (h : x < 2 ^ 64) :
    shrI IntKind.u64 (IntKind.u64.wrap (andI IntKind.u64 (x : Int) (IntKind.u64.wrap ((0 : Int) - (x : Int))) * (285870213051353865 : Int))) (58 : Int) = ((2 ^ Lib.ctz 64 x * 285870213051353865 % 18446744073709551616 / 288230376151711744 : Nat) : Int) := by
  have h1 : IntKind.u64.wrap ((0 : Int) - (x : Int)) = ((2 ^ 64 - x : Nat) : Int) := by
    rw [IntKind.wrap_u64]; omega
  obtain ⟨h2, h3⟩ := Lib.lowest_bit 64 x h0 h
  rw [h1, andI_u64 h (by omega), h2]
  have h4 : IntKind.u64.wrap (((2 ^ Lib.ctz 64 x : Nat) : Int) * (285870213051353865 : Int)) = ((2 ^ Lib.ctz 64 x * 285870213051353865 % 18446744073709551616 : Nat) : Int) := by
    generalize 2 ^ Lib.ctz 64 x = y
    rw [IntKind.wrap_u64]
    omega
  rw [h4, show (58 : Int) = ((58 : Nat) : Int) from rfl, shrI_nat (by decide), Nat.shiftRight_eq_div_pow]
theorem f160 {w : World} (hT : Tz w) (x : Nat) (h : x < 2 ^ 64) : Ret prog 160 #[.int .u64 (x : Int)] w fun v w' => v = .int .i64 (Lib.ctz 64 x : Nat) ∧ Qt w w' := by
  refine F160_of _ _ _ ?_
  unfold F160
  by_cases h0 : x = 0
  · subst h0
    exact ⟨by simp [Lib.ctz], Qt.refl w⟩
  · have hne : ((x : Int) == (0 : Int)) = false := by simpa using h0
    rw [hne, BIf_false, tz_num x h0 h]
    obtain ⟨_, hk⟩ := Lib.lowest_bit 64 x h0 h
    obtain ⟨h1, h2⟩ := Lib.deBruijn64_at _ hk
    generalize 2 ^ Lib.ctz 64 x * 285870213051353865 % 18446744073709551616 / 288230376151711744 = i at *
    refine ⟨by omega, by omega, ?_⟩
    rw [at0_mk, Int.toNat_natCast, Nat.mul_one, Nat.zero_add]
    refine ⟨_, hT.cell i h1, ?_⟩
    simp only [h2, AsI_int]
    rw [w64 (by omega) (by omega)]
    exact ⟨rfl, Qt.refl w⟩
theorem f93 {w : World} {b bu bd : Nat} {p : Pool} (hP : PoolAt w b bu bd p) (hT : Tz w) (i : Nat) (hi : i ≤ 2 ^ 40) (busy : Bool) :
    Ret prog 93 #[.pointer (some ⟨b, 0, none⟩), .int .i64 (i : Int), .bool busy] w fun v w' => v = .int .i64 (next p.u busy i : Nat) ∧ Qt w w' := by
  have hn := hP.ok.n
  refine F93_of _ _ _ _ _ ?_
  unfold F93; try dsimp only [Uii, ce_, li_, ls_, ui_]
  refine Loop.by (fun s w' => ∃ k : Nat, s = [.int .i64 0, .int .i64 (k : Int)] ∧ k ≤ 2 ^ 41 ∧ next p.u busy k = next p.u busy i ∧ Qt w w')
    (fun s _ => match s with | [_, .int _ k] => p.u.length - k.toNat | _ => 0) ⟨i, rfl, by omega, rfl, Qt.refl w⟩ ?_
  rintro _ w1 ⟨k, rfl, hk, hnx, hq⟩
  have hP1 := hP.qt hq
  simp only [UnC_cons, UnN_nil, AsI_int, at0_mk, Nat.zero_add]
  refine hP1.st.ld rfl ?_
  simp only [AsI_int]
  by_cases hlt : k < p.u.length
  · have hd : decide ((k : Int) < (p.u.length : Int)) = true := by simpa using hlt
    rw [hd, BIf_true]
    refine hP1.st.ld rfl ?_
    simp only [AsSl_slice, NilP_some]
    obtain ⟨ws, hb, hws⟩ := hP1.ws
    have hkw : k / 64 < ws.length := by rw [hb.len]; omega
    have e1 : IntKind.i64.wrap ((k : Int).tdiv 64) = ((k / 64 : Nat) : Int) := by rw [IntWalk.i64_quo _ _ ⟨by omega, by omega, by omega⟩]; omega
    have e2 : (k : Int).tmod 64 = ((k % 64 : Nat) : Int) := by rw [IntWalk.rem_in _ _ (by omega)]; omega
    rw [e1, e2]
    refine ⟨by omega, by have := hb.len; omega, ?_⟩
    simp only [Int.toNat_natCast, Nat.mul_one, at0_mk, Nat.zero_add]
    refine hws.ld (u64s_get hkw) ?_
    simp only [AsI_int]
    have hwl := hb.lt _ hkw
    refine Join.at (fun s w' => s = [.int .u64 ((if busy then ws[k / 64] else 2 ^ 64 - 1 - ws[k / 64] : Nat) : Int)] ∧ w' = w1) ?_ ?_
    · cases busy with
      | true => refine ⟨?_, ?_⟩ <;> simp
      | false => rw [Bool.not_false, BIf_true, notI_u64 hwl]; refine ⟨?_, ?_⟩ <;> simp
    · rintro _ _ ⟨rfl, rfl⟩
      simp only [UnC_cons, UnN_nil, AsI_int]
      obtain ⟨hWl, hz, hnz⟩ := next_word hb hlt hkw _ rfl (busy := busy)
      generalize (if busy = true then ws[k / 64] else 2 ^ 64 - 1 - ws[k / 64]) = W at *
      refine NN.mk (by omega) ?_
      rw [shrI_nat (by show k % 64 ≤ 64; omega)]
      have hsl : W >>> (k % 64) < 2 ^ 64 := Nat.lt_of_le_of_lt (Nat.shiftRight_le _ _) hWl
      by_cases h0 : W >>> (k % 64) = 0
      · have hz' := hz h0
        have hd2 : (((W >>> (k % 64) : Nat) : Int) != (0 : Int)) = false := by rw [h0]; rfl
        rw [hd2, BIf_false]
        have e3 : IntKind.i64.wrap (IntKind.i64.wrap (((k / 64 : Nat) : Int) + 1) * 64) = (((k / 64 + 1) * 64 : Nat) : Int) := by
          rw [w64 (n := ((k / 64 : Nat) : Int) + 1) (by omega) (by omega), w64 (by omega) (by omega)]; omega
        rw [e3]
        refine ⟨⟨_, rfl, by omega, by rw [← hz']; exact hnx, hq⟩, ?_⟩
        simp only [Int.toNat_natCast]
        omega
      · obtain ⟨h1, h2⟩ := hnz h0
        have hd2 : (((W >>> (k % 64) : Nat) : Int) != (0 : Int)) = true := bne_iff_ne.2 (by omega)
        rw [hd2, BIf_true]
        refine hP1.st.drew.ld rfl ?_
        simp only [AsI_int]
        refine Ret.use (f160 ((hT.qt hq).qt (Qt.refl _).drew) _ hsl) ?_
        rintro v w2 ⟨rfl, hq2⟩
        simp only [AsI_int]
        refine ⟨?_, ?_, hq.trans hq2.of_drew⟩
        · rw [(hP1.st.qt hq2.of_drew).cell]; rfl
        · rw [← hnx, h1, w64 (by omega) (by omega)]
          congr 1
          generalize Lib.ctz 64 (W >>> (k % 64)) = c at *
          rw [Nat.min_def]
          split <;> split <;> omega
  · have hd : decide ((k : Int) < (p.u.length : Int)) = false := by simpa using hlt
    rw [hd, BIf_false]
    refine hP1.st.ld rfl ?_
    simp only [AsI_int]
    exact ⟨by rw [← hnx, next_end (by omega)], hq⟩
end Go.Proofs.YtmgjicnipgdjhaaGreatDoor
namespace Go.Fr
theorem count_set (u : List Nat) (i n : Nat) (h : i < u.length) :
    (u.set i n).countP (· = 0) + (if u[i] = 0 then 1 else 0) = u.countP (· = 0) + (if n = 0 then 1 else 0) := by
  induction u generalizing i with
  | nil => simp at h
  | cons x r ih =>
    cases i with
    | zero => simp only [List.set_cons_zero, List.countP_cons, List.getElem_cons_zero, decide_eq_true_eq]; omega
    | succ i =>
      have := ih i (by simpa using h)
      simp only [List.set_cons_succ, List.countP_cons, List.getElem_cons_succ, decide_eq_true_eq] at *
      omega
theorem getD_set (u : List Nat) (i n j : Nat) (h : i < u.length) : (u.set i n).getD j 0 = if i = j then n else u.getD j 0 := by
  simp only [List.getD, List.getElem?_set]
  by_cases e : i = j
  · subst e; simp [h]
  · simp [e]
theorem Bits.same {u v ws : List Nat} (hb : Bits u ws) (hl : v.length = u.length) (h : ∀ j, decide (0 < v.getD j 0) = decide (0 < u.getD j 0)) : Bits v ws :=
  ⟨by rw [hb.len, hl], hb.lt, fun k j hk hj => by rw [hb.bit k j hk hj, h]⟩
theorem one_shl_testBit (s j : Nat) : (1 <<< s).testBit j = decide (s = j) := by
  rw [Nat.shiftLeft_eq, Nat.one_mul, Nat.testBit_two_pow]
theorem one_shl_lt {s : Nat} (h : s < 64) : 1 <<< s < 2 ^ 64 := by
  rw [Nat.shiftLeft_eq, Nat.one_mul]; exact Nat.pow_lt_pow_right (by decide) h
theorem Bits.setPos {u ws : List Nat} (hb : Bits u ws) {i n : Nat} (hi : i < u.length) (hk : i / 64 < ws.length) (hn : 0 < n) :
    Bits (u.set i n) (ws.set (i / 64) (ws[i / 64] ||| 1 <<< (i % 64))) := by
  refine ⟨by simp [hb.len], fun k h => ?_, fun k j h hj => ?_⟩
  · rw [List.getElem_set]
    have h0 := hb.lt k (by simpa using h)
    split
    · exact Nat.or_lt_two_pow (hb.lt _ hk) (one_shl_lt (by omega))
    · exact h0
  · rw [List.getElem_set, getD_set _ _ _ _ hi]
    have hk' : k < ws.length := by simpa using h
    have h0 := hb.bit k j hk' hj
    split
    · rename_i e
      subst e
      rw [Nat.testBit_or, h0, one_shl_testBit]
      by_cases e2 : i % 64 = j
      · rw [if_pos (by omega)]; simp [e2, hn]
      · rw [if_neg (by omega)]; simp [e2]
    · rename_i e
      rw [h0, if_neg (by omega)]
theorem Bits.setZero {u ws : List Nat} (hb : Bits u ws) {i : Nat} (hi : i < u.length) (hk : i / 64 < ws.length) :
    Bits (u.set i 0) (ws.set (i / 64) (ws[i / 64] &&& (2 ^ 64 - 1 - 1 <<< (i % 64)))) := by
  have hs : 1 <<< (i % 64) < 2 ^ 64 := one_shl_lt (by omega)
  refine ⟨by simp [hb.len], fun k h => ?_, fun k j h hj => ?_⟩
  · rw [List.getElem_set]
    have h0 := hb.lt k (by simpa using h)
    split
    · exact Nat.lt_of_le_of_lt Nat.and_le_left (hb.lt _ hk)
    · exact h0
  · rw [List.getElem_set, getD_set _ _ _ _ hi]
    have hk' : k < ws.length := by simpa using h
    have h0 := hb.bit k j hk' hj
    split
    · rename_i e
      subst e
      rw [Nat.testBit_and, h0, show 2 ^ 64 - 1 - 1 <<< (i % 64) = 2 ^ 64 - (1 <<< (i % 64) + 1) from by omega, Nat.testBit_two_pow_sub_succ hs, one_shl_testBit]
      by_cases e2 : i % 64 = j
      · rw [if_pos (by omega)]; simp [e2]
      · rw [if_neg (by omega)]; simp [e2, hj]
    · rename_i e
      rw [h0, if_neg (by omega)]
end Go.Fr
namespace Go.Proofs.YtmgjicnipgdjhaaGreatDoor
open Go Go.Sh Go.Fr
def Own (b bu bd : Nat) (x : Nat) : Prop := x = b ∨ x = bu ∨ x = bd
def stCells (first n : Nat) (bu bd : Nat) (free : Nat) : List Value :=
  [.int .i64 first, .int .i64 n, .slice (some ⟨bu, 0, none⟩) n n, .slice (some ⟨bd, 0, none⟩) ((n + 63) / 64) ((n + 63) / 64), .int .i64 free]
structure Mid (w0 w : World) (b bu bd : Nat) (p : Pool) (u : List Nat) (free : Nat) : Prop where
  st : Has w b (stCells p.first p.u.length bu bd free)
  us : Has w bu (u8s p.u)
  ws : ∃ ws, Bits u ws ∧ Has w bd (u64s ws)
  fr : Fr (Own b bu bd) w0 w
theorem u64s_set {ws : List Nat} {k x : Nat} : (u64s ws).set k (.int .u64 (x : Nat)) = u64s (ws.set k x) := by simp [u64s, List.map_set]
theorem u8s_set {ws : List Nat} {k x : Nat} : (u8s ws).set k (.int .u8 (x : Nat)) = u8s (ws.set k x) := by simp [u8s, List.map_set]
theorem u64s_len {ws : List Nat} : (u64s ws).length = ws.length := by simp [u64s]
theorem u8s_len {ws : List Nat} : (u8s ws).length = ws.length := by simp [u8s]
theorem f94 {w : World} {b bu bd : Nat} {p : Pool} (hP : PoolAt w b bu bd p) (i n : Nat) (hi : i < p.u.length) (hn : n ≤ 255) :
    Ret prog 94 #[.pointer (some ⟨b, 0, none⟩), .int .i64 (i : Int), .int .u8 (n : Int)] w fun v w' => v = .tuple #[] ∧ PoolAt w' b bu bd ⟨p.first, p.u.set i n⟩ ∧ Fr (Own b bu bd) w w' := by
  have hN := hP.ok.n
  obtain ⟨ne1, ne2, ne3⟩ := hP.ne
  have e1 : IntKind.i64.wrap ((i : Int).tdiv 64) = ((i / 64 : Nat) : Int) := by rw [IntWalk.i64_quo _ _ ⟨by omega, by omega, by omega⟩]; omega
  have e2 : (i : Int).tmod 64 = ((i % 64 : Nat) : Int) := by rw [IntWalk.rem_in _ _ (by omega)]; omega
  have hsh : shlI .u64 (1 : Int) ((i % 64 : Nat) : Int) = ((1 <<< (i % 64) : Nat) : Int) := shlI_u64 (a := 1) (by omega) (one_shl_lt (by omega))
  have hsl : 1 <<< (i % 64) < 2 ^ 64 := one_shl_lt (by omega)
  have hc := count_set p.u i n hi
  have hle : p.u.countP (· = 0) ≤ p.u.length := List.countP_le_length
  have hle2 : (p.u.set i n).countP (· = 0) ≤ p.u.length := by have := List.countP_le_length (l := p.u.set i n) (p := fun x => decide (x = 0)); simpa using this
  refine F94_of _ _ _ _ _ ?_
  unfold F94; try dsimp only [li_, ls_]
  simp only [at0_mk, Nat.zero_add, e1, e2, hsh]
  have h0 : Mid w w b bu bd p p.u p.free := ⟨hP.st, hP.us, hP.ws, Fr.refl _ _⟩
  refine Join.at (fun s w' => s = [] ∧ Mid w w' b bu bd p (if p.u[i] = 0 ∧ 0 < n then p.u.set i n else p.u) (if p.u[i] = 0 ∧ 0 < n then p.free - 1 else p.free)) ?_ ?_
  · refine hP.st.ld rfl ?_
    simp only [AsSl_slice, NilP_some]
    refine ⟨by omega, by omega, ?_⟩
    simp only [at0_mk, Int.toNat_natCast, Nat.mul_one, Nat.zero_add]
    refine hP.us.ld (u8s_get hi) ?_
    simp only [AsI_int]
    by_cases hz : p.u[i] = 0
    · have hb1 : (((p.u[i] : Nat) : Int) == (0 : Int)) = true := beq_iff_eq.2 (by omega)
      rw [hb1, BIf_true]
      by_cases hn0 : 0 < n
      · rw [if_pos ⟨hz, hn0⟩, if_pos ⟨hz, hn0⟩, decide_eq_true (show (n : Int) > 0 by omega), BIf_true]
        refine hP.st.ld rfl ?_
        simp only [AsI_int]
        have hfree : 1 ≤ p.free := by unfold Pool.free; rw [if_pos hz, if_neg (by omega)] at hc; omega
        have e3 : IntKind.i64.wrap ((p.free : Int) - 1) = ((p.free - 1 : Nat) : Int) := by rw [w64 (by unfold Pool.free; omega) (by unfold Pool.free; omega)]; omega
        rw [e3]
        refine hP.st.st (by simp [poolCells]) rfl fun w1 hw1 hf1 _ => ?_
        obtain ⟨ws, hb, hws⟩ := hP.ws
        have hkw : i / 64 < ws.length := by rw [hb.len]; omega
        have hws1 := hws.fr hf1 (Ne.symm ne2)
        have hus1 := hP.us.fr hf1 (Ne.symm ne1)
        refine hw1.drew.ld rfl ?_
        simp only [AsSl_slice, NilP_some]
        refine ⟨by omega, by have := hb.len; omega, ?_⟩
        simp only [at0_mk, Int.toNat_natCast, Nat.mul_one, Nat.zero_add]
        refine hws1.drew.ld (u64s_get hkw) ?_
        simp only [AsI_int]
        refine NN.mk (by omega) ?_
        refine ⟨by omega, by have := hb.len; omega, ?_⟩
        rw [orI_u64 (hb.lt _ hkw) hsl]
        refine hws1.drew.st (by rw [u64s_len]; exact hkw) rfl fun w2 hw2 hf2 _ => ?_
        rw [u64s_set] at hw2
        have hf2' := hf2.of_drew
        exact ⟨by trivial, hw1.fr hf2' ne2, hus1.fr hf2' ne3, ⟨_, hb.setPos hi hkw hn0, hw2⟩,
          (hf1.mono fun _ _ h => .inl h).trans (hf2'.mono fun _ _ h => .inr (.inr h))⟩
      · rw [if_neg (by omega), if_neg (by omega), decide_eq_false (show ¬ (n : Int) > 0 by omega), BIf_false]
        exact ⟨by trivial, h0⟩
    · have hb1 : (((p.u[i] : Nat) : Int) == (0 : Int)) = false := beq_eq_false_iff_ne.2 (by omega)
      rw [hb1, BIf_false, if_neg (by omega), if_neg (by omega)]
      exact ⟨by trivial, h0⟩
  · rintro _ w1 ⟨rfl, m1⟩
    simp only [UnN_nil]
    refine Join.at (fun s w' => s = [] ∧ Mid w w' b bu bd p (p.u.set i n) ((p.u.set i n).countP (· = 0))) ?_ ?_
    · refine m1.st.ld rfl ?_
      simp only [AsSl_slice, NilP_some]
      refine ⟨by omega, by omega, ?_⟩
      simp only [at0_mk, Int.toNat_natCast, Nat.mul_one, Nat.zero_add]
      refine m1.us.ld (u8s_get hi) ?_
      simp only [AsI_int]
      by_cases hz : p.u[i] = 0
      · rw [decide_eq_false (show ¬ ((p.u[i] : Nat) : Int) > 0 by omega), BIf_false]
        rw [if_pos hz] at hc
        by_cases hn0 : 0 < n
        · rw [if_neg (by omega)] at hc
          rw [if_pos ⟨hz, hn0⟩, if_pos ⟨hz, hn0⟩] at m1
          have : (p.u.set i n).countP (· = 0) = p.free - 1 := by unfold Pool.free; omega
          rw [this]; exact ⟨by trivial, m1⟩
        · rw [if_pos (by omega)] at hc
          rw [if_neg (by omega), if_neg (by omega)] at m1
          have h1 : (p.u.set i n).countP (· = 0) = p.free := by unfold Pool.free; omega
          have h2 : p.u.set i n = p.u := by
            have : n = p.u[i] := by omega
            rw [this]; exact List.set_getElem_self hi
          rw [h1, h2]; exact ⟨by trivial, m1⟩
      · rw [decide_eq_true (show ((p.u[i] : Nat) : Int) > 0 by omega), BIf_true]
        rw [if_neg hz] at hc
        rw [if_neg (by omega), if_neg (by omega)] at m1
        by_cases hn0 : n = 0
        · rw [if_pos hn0] at hc
          have hb1 : ((n : Int) == (0 : Int)) = true := beq_iff_eq.2 (by omega)
          rw [hb1, BIf_true]
          refine m1.st.ld rfl ?_
          simp only [AsI_int]
          have e3 : IntKind.i64.wrap ((p.free : Int) + 1) = (((p.u.set i n).countP (· = 0) : Nat) : Int) := by
            rw [w64 (by unfold Pool.free; omega) (by unfold Pool.free; omega)]; unfold Pool.free; omega
          rw [e3]
          refine m1.st.st (by simp [stCells]) rfl fun w2 hw1 hf1 _ => ?_
          obtain ⟨ws, hb, hws⟩ := m1.ws
          have hkw : i / 64 < ws.length := by rw [hb.len]; omega
          have hws1 := hws.fr hf1 (Ne.symm ne2)
          have hus1 := m1.us.fr hf1 (Ne.symm ne1)
          refine hw1.drew.ld rfl ?_
          simp only [AsSl_slice, NilP_some]
          refine ⟨by omega, by have := hb.len; omega, ?_⟩
          simp only [at0_mk, Int.toNat_natCast, Nat.mul_one, Nat.zero_add]
          refine hws1.drew.ld (u64s_get hkw) ?_
          simp only [AsI_int]
          refine NN.mk (by omega) ?_
          refine ⟨by omega, by have := hb.len; omega, ?_⟩
          rw [andNotI_u64 (hb.lt _ hkw) hsl]
          refine hws1.drew.st (by rw [u64s_len]; exact hkw) rfl fun w3 hw2 hf2 _ => ?_
          rw [u64s_set] at hw2
          have hf2' := hf2.of_drew
          subst hn0
          exact ⟨by trivial, hw1.fr hf2' ne2, hus1.fr hf2' ne3, ⟨_, hb.setZero hi hkw, hw2⟩,
            m1.fr.trans ((hf1.mono fun _ _ h => .inl h).trans (hf2'.mono fun _ _ h => .inr (.inr h)))⟩
        · rw [if_neg hn0] at hc
          have hb1 : ((n : Int) == (0 : Int)) = false := beq_eq_false_iff_ne.2 (by omega)
          rw [hb1, BIf_false]
          have h1 : (p.u.set i n).countP (· = 0) = p.free := by unfold Pool.free; omega
          rw [h1]
          obtain ⟨ws, hb, hws⟩ := m1.ws
          refine ⟨by trivial, m1.st, m1.us, ⟨ws, hb.same (by simp) fun j => ?_, hws⟩, m1.fr⟩
          rw [getD_set _ _ _ _ hi]
          split
          · rename_i e; subst e; rw [getD_get hi]; simp; omega
          · rfl
    · rintro _ w2 ⟨rfl, m2⟩
      simp only [UnN_nil]
      refine m2.st.ld rfl ?_
      simp only [AsSl_slice, NilP_some]
      refine ⟨by omega, by omega, ?_⟩
      simp only [at0_mk, Int.toNat_natCast, Nat.mul_one, Nat.zero_add]
      refine m2.us.st (by rw [u8s_len]; exact hi) rfl fun w3 hw3 hf3 _ => ?_
      rw [u8s_set] at hw3
      obtain ⟨ws, hb, hws⟩ := m2.ws
      refine ⟨by trivial, ⟨?_, hw3, ⟨ws, hb, hws.fr hf3 (Ne.symm ne3)⟩, hP.ne, ⟨by simpa using hP.ok.le, by simpa using hP.ok.n, fun x hx => ?_⟩⟩, m2.fr.trans (hf3.mono fun _ _ h => .inr (.inl h))⟩
      · have := m2.st.fr hf3 ne1
        simpa [stCells, poolCells, Pool.free] using this
      · rcases List.mem_or_eq_of_mem_set hx with h | h
        · exact hP.ok.u x h
        · omega
end Go.Proofs.YtmgjicnipgdjhaaGreatDoor
namespace Go.Proofs.YtmgjicnipgdjhaaGreatDoor
open Go Go.Sh
def isOne (v : Value) : Bool := match v with | .int .i64 x => decide (x = 1) | _ => false
def pow2B (x : Nat) : Bool := [1, 2, 4, 8, 16, 32, 64, 128, 256, 512, 1024, 2048, 4096].contains x
set_option maxRecDepth 100000 in
theorem f159_all (w : World) : ∀ x : Nat, x < 4097 → F159 (x : Int) w fun v _ => isOne v = pow2B x := by
  unfold F159
  dsimp only
  clear w
  decide +kernel
end Go.Proofs.YtmgjicnipgdjhaaGreatDoor
namespace Go.Proofs.YtmgjicnipgdjhaaGreatDoor
open Go Go.Sh Go.Fr
theorem f92 {w : World} (a : Nat) (h : a < 4097) : Ret prog 92 #[.int .u64 (a : Int)] w fun v w' => (∃ c : Int, v = .int .i64 c ∧ (c != 1) = !pow2B a) ∧ w' = w := by
  have h68 : Ret prog 159 #[.int .u64 (a : Int)] w fun v w' => (∃ c : Int, v = .int .i64 c ∧ (c != 1) = !pow2B a) ∧ w' = w := by
    refine F159_of _ _ _ ?_
    have := f159_all w a h
    unfold F159 at this ⊢
    dsimp only [isOne] at this
    refine ⟨⟨_, rfl, ?_⟩, rfl⟩
    rw [← this]
    rw [bne, Bool.not_inj_iff]
    rw [Bool.eq_iff_iff]
    simp
  refine F92_of _ _ _ ?_
  unfold F92
  refine Ret.use h68 ?_
  rintro v w' ⟨⟨c, rfl, hc⟩, rfl⟩
  simp only [AsI_int]
  exact ⟨⟨c, rfl, hc⟩, by trivial⟩
theorem f20 {w : World} {b bu bd : Nat} {p : Pool} (hP : PoolAt w b bu bd p) :
    Ret prog 20 #[.pointer (some ⟨b, 0, none⟩)] w fun v w' => v = .int .i64 (p.free : Nat) ∧ w' = w := by
  refine F20_of _ _ _ ?_
  unfold F20; try dsimp only [li_]
  simp only [at0_mk, Nat.zero_add]
  refine hP.st.ld rfl ?_
  simp only [AsI_int]
  exact ⟨by trivial, by trivial⟩
theorem f21 {w : World} {b bu bd : Nat} {p : Pool} (hP : PoolAt w b bu bd p) :
    Ret prog 21 #[.pointer (some ⟨b, 0, none⟩)] w fun v w' => v = .agg #[.int .i64 p.first, .int .i64 p.u.length] ∧ Fr (fun _ => False) w w' := by
  refine F21_of _ _ _ ?_
  unfold F21; try dsimp only [li_]
  simp only [at0_mk, Nat.zero_add]
  refine New.mk fun w1 hn hf hs => ?_
  have hst := hP.st.fr hf (fun h => h)
  refine hst.drew.ld rfl ?_
  simp only [AsI_int]
  refine hst.drew.ld rfl ?_
  simp only [AsI_int]
  refine hn.drew.st (by simp) rfl fun w2 hn2 hf2 _ => ?_
  simp only [at0_mk, Nat.zero_add]
  refine hn2.st (by simp) rfl fun w3 hn3 hf3 _ => ?_
  refine hn3.ld rfl ?_
  simp only [AsI_int]
  refine hn3.ld rfl ?_
  simp only [AsI_int]
  refine ⟨by trivial, ?_⟩
  have h2 : Fr (fun x => x = w.heap.size) w w3 := ((hf.mono fun _ _ h => h.elim).trans hf2.of_drew).trans hf3
  exact h2.mono fun x hx h => by omega
def Pool.run (p : Pool) (first n : Int) : Nat × Nat :=
  if n < 1 then (0, 41) else if first < p.first ∨ first ≥ p.first + p.u.length ∨ n > p.first + p.u.length - first then (0, 40)
  else if (next p.u false (first - p.first).toNat : Int) < first - p.first + n then (0, 43) else ((first - p.first).toNat, 0)
theorem f95 {w : World} {b bu bd : Nat} {p : Pool} (hP : PoolAt w b bu bd p) (hT : Tz w) (first n : Int) (hf : -9223372036854775808 ≤ first ∧ first ≤ 9223372036854775807) (hn : n ≤ 9223372036854775807) :
    Ret prog 95 #[.pointer (some ⟨b, 0, none⟩), .int .i64 first, .int .i64 n] w fun v w' => v = .tuple #[.int .i64 ((p.run first n).1 : Nat), .int .i64 ((p.run first n).2 : Nat)] ∧ Qt w w' := by
  have hN := hP.ok.n
  have hL := hP.ok.le
  refine F95_of _ _ _ _ _ ?_
  unfold F95; try dsimp only [li_]
  simp only [at0_mk, Nat.zero_add]
  by_cases h0 : n < 1
  · rw [decide_eq_true h0, BIf_true]; exact ⟨by simp [Pool.run, h0], Qt.refl w⟩
  rw [decide_eq_false h0, BIf_false]
  refine hP.st.drew.ld rfl ?_
  simp only [AsI_int]
  by_cases h1 : first < p.first
  · rw [decide_eq_true h1, BIf_true]; exact ⟨by simp [Pool.run, h0, h1], (Qt.refl w).drew⟩
  rw [decide_eq_false h1, BIf_false]
  refine hP.st.drew.ld rfl ?_
  simp only [AsI_int]
  refine hP.st.drew.ld rfl ?_
  simp only [AsI_int]
  rw [w64 (n := (p.first : Int) + (p.u.length : Int)) (by omega) (by omega)]
  by_cases h2 : first ≥ (p.first : Int) + p.u.length
  · rw [decide_eq_true h2, BIf_true]; exact ⟨by simp [Pool.run, h0, h2], (Qt.refl w).drew⟩
  rw [decide_eq_false h2, BIf_false]
  refine hP.st.drew.ld rfl ?_
  simp only [AsI_int]
  refine hP.st.drew.ld rfl ?_
  simp only [AsI_int]
  rw [w64 (n := (p.first : Int) + (p.u.length : Int)) (by omega) (by omega), w64 (n := (p.first : Int) + (p.u.length : Int) - first) (by omega) (by omega)]
  by_cases h3 : n > (p.first : Int) + p.u.length - first
  · rw [decide_eq_true h3, BIf_true]; exact ⟨by simp [Pool.run, h0, h3], (Qt.refl w).drew⟩
  rw [decide_eq_false h3, BIf_false]
  refine hP.st.drew.ld rfl ?_
  simp only [AsI_int]
  obtain ⟨k, hk⟩ : ∃ k : Nat, first - (p.first : Int) = k := ⟨(first - p.first).toNat, by omega⟩
  rw [w64 (n := first - (p.first : Int)) (by omega) (by omega), hk, w64 (n := (k : Int) + n) (by omega) (by omega)]
  refine Ret.use (f93 (hP.qt (Qt.refl w).drew) (hT.qt (Qt.refl w).drew) k (by omega) false) ?_
  rintro v w1 ⟨rfl, hq⟩
  simp only [AsI_int]
  have hr : p.run first n = if (next p.u false k : Int) < (k : Int) + n then (0, 43) else (k, 0) := by
    simp only [Pool.run, if_neg h0, if_neg (show ¬ (first < p.first ∨ first ≥ p.first + p.u.length ∨ n > p.first + p.u.length - first) by omega), hk, Int.toNat_natCast]
  by_cases h4 : (next p.u false k : Int) < (k : Int) + n
  · rw [decide_eq_true h4, BIf_true, hr, if_pos h4]; exact ⟨rfl, hq.of_drew⟩
  · rw [decide_eq_false h4, BIf_false, hr, if_neg h4]; exact ⟨rfl, hq.of_drew⟩
end Go.Proofs.YtmgjicnipgdjhaaGreatDoor
namespace Go.Sh
theorem Has.made (w : World) (cells : Array Value) (t : TypeId) : Has (w.alloc (.cells cells t)) w.heap.size cells.toList := ⟨t, by show (w.heap.push _)[w.heap.size]? = _; simp⟩
theorem Fr.made (w : World) (o : Obj) : Fr (fun _ => False) w (w.alloc o) := ⟨rfl, rfl, rfl, by simp, fun b hb _ => by show (w.heap.push _)[b]? = _; rw [Array.getElem?_push, if_neg (by omega)]⟩
theorem madeCells_one (z : Value) (n : Nat) : (madeCells #[z] n).toList = List.replicate n z := by
  unfold madeCells
  apply List.ext_getElem (by simp)
  intro j h1 h2
  simp [Nat.mod_one]
theorem RunV.make {P : Program} (t e : TypeId) (z : Value) (bytes n : Nat) {w : World} {K : Value → World → Prop} (ht : P.underlying t = some (.slice e)) (hi : (P.info? e).map (fun i => (i.zero, i.size, i.bytes)) = some (some z, 1, bytes)) (hz : z.cells = #[z])
    (hb : bytes * n ≤ 281474976710656) (hn : n ≤ 9223372036854775807)
    (k : ∀ w', Has w' w.heap.size (List.replicate n z) → Fr (fun _ => False) w w' → w'.heap.size = w.heap.size + 1 → K (.slice (some ⟨w.heap.size, 0, none⟩) n n) w') :
    RunV P (Instr.makeSlice t (.int .i64 n) (.int .i64 n)) w K := by
  refine ⟨_, _, run_make_row' t e z bytes ht hi hz .i64 .i64 n hb hn w, k _ ?_ (Fr.made w _) (by simp)⟩
  have := Has.made w (madeCells #[z] n) e
  rwa [madeCells_one] at this
structure ElemT (P : Program) (t e : TypeId) (z : Value) (size bytes : Nat) : Prop where
  und : P.underlying t = some (.slice e)
  info : (P.info? e).map (fun i => (i.zero, i.size, i.bytes)) = some (some z, size, bytes)
  zs : z.cells.size = size
  pos : 0 < size
theorem foldl_set (l : List Value) : ∀ (n : Nat) (pre : List Value) (cs : List Value), pre.length = n → l.length ≤ cs.length →
    ((l.zipIdx n).foldl (fun cs (c, j) => cs.setIfInBounds j c) (pre ++ cs).toArray : Array Value) = (pre ++ l ++ cs.drop l.length).toArray := by
  induction l with
  | nil => intro n pre cs _ _; simp
  | cons x r ih =>
    intro n pre cs hp hl
    cases cs with
    | nil => simp at hl
    | cons y t =>
      simp only [List.zipIdx_cons, List.foldl_cons]
      have : ((pre ++ y :: t).toArray.setIfInBounds n x : Array Value) = ((pre ++ [x]) ++ t).toArray := by
        apply Array.ext'
        simp [← hp]
      rw [this, ih (n + 1) (pre ++ [x]) t (by simp [hp]) (by simpa using hl)]
      simp
theorem RunV.build1 {P : Program} {t e : TypeId} {z : Value} {size bytes : Nat} (E : ElemT P t e z size bytes) (hsz : size ≤ 16777216) {w : World} {K : Value → World → Prop} {v : Value} (hv : v.cells.size = size)
    (k : ∀ w', Has w' w.heap.size v.cells.toList → Fr (fun _ => False) w w' → w'.heap.size = w.heap.size + 1 → K (.slice (some ⟨w.heap.size, 0, none⟩) 1 1) w') :
    RunV P (Instr.buildSlice t 1 #[(0, v)]) w K := by
  have hi := E.info
  cases hinf : P.info? e with
  | none => rw [hinf] at hi; cases hi
  | some i =>
    rw [hinf] at hi
    simp only [Option.map_some, Option.some.injEq, Prod.mk.injEq] at hi
    obtain ⟨hz, hs, hb⟩ := hi
    refine ⟨_, w.alloc (.cells v.cells e), ?_, k _ (Has.made w v.cells e) (Fr.made w _) (by simp)⟩
    have h0 : size ≠ 0 := by have := E.pos; omega
    have hle : ¬ (size > 2 ^ 24) := by omega
    have hfill : (v.cells.zipIdx.foldl (fun cs (c, j) => cs.setIfInBounds (0 * size + j) c) ((Array.range size).map (fun x => z.cells[x % z.cells.size]!)) : Array Value) = v.cells := by
      have := foldl_set v.cells.toList 0 [] ((List.range size).map (fun x => z.cells[x % z.cells.size]!)) rfl (by simp [hv])
      simp only [List.nil_append] at this
      rw [← Array.foldl_toList, Array.toList_zipIdx]
      have e2 : (Array.range size).map (fun x => z.cells[x % z.cells.size]!) = ((List.range size).map (fun x => z.cells[x % z.cells.size]!)).toArray := by
        apply Array.ext'; simp
      rw [e2]
      simp only [Nat.zero_mul, Nat.zero_add]
      rw [this]
      apply Array.ext'
      simp [hv]
    simp only [Instr.buildSlice, Sem.run_bind, under_run E.und, Result.andThen_ok, size_run (show sizeP P e = some size by simp [sizeP, hinf, hs]), Nat.one_mul, if_neg hle, if_neg h0,
      zero_run (show zeroP P e = some z by simp [zeroP, hinf, hz]), Sem.run_pure, Instr.fill]
    rw [if_neg (by simp [hv])]
    simp only [hfill]
    simp [newRow]
end Go.Sh
namespace Go.Proofs.YtmgjicnipgdjhaaGreatDoor
open Go Go.Sh Go.Fr
theorem und66 : prog.underlying 143 = some (.slice 5) := by kernel_rfl
theorem inf5 : (prog.info? 5).map (fun i => (i.zero, i.size, i.bytes)) = some (some (.int .u8 0), 1, 1) := by kernel_rfl
theorem und81 : prog.underlying 43 = some (.slice 30) := by kernel_rfl
theorem inf101 : (prog.info? 30).map (fun i => (i.zero, i.size, i.bytes)) = some (some (.int .u64 0), 1, 8) := by kernel_rfl
def newPool (first n : Nat) : Pool := ⟨first, List.replicate n 0⟩
theorem Bits.zero (n : Nat) : Bits (List.replicate n 0) (List.replicate ((n + 63) / 64) 0) := by
  refine ⟨by simp, fun k h => by simp, fun k j h hj => ?_⟩
  rw [List.getElem_replicate, Nat.zero_testBit]
  have : (List.replicate n 0).getD (64 * k + j) 0 = 0 := by
    simp only [List.getD, List.getElem?_replicate]; split <;> rfl
  rw [this]; rfl
theorem newPool_ok {first n : Nat} (h1 : n ≤ 1048576) (h2 : first + n ≤ 268435456) : (newPool first n).Ok :=
  ⟨by simpa [newPool] using h2, by simpa [newPool] using h1, fun x hx => by simp [newPool] at hx; omega⟩
theorem newPool_free (first n : Nat) : (newPool first n).free = n := by simp [newPool, Pool.free, List.countP_replicate]
def newErr (first n : Int) : Nat := if n < 0 ∨ n > 1048576 then 41 else if first < 0 ∨ first > 268435456 - n then 40 else 0
theorem f39 {w : World} (first n : Int) (hf : -9223372036854775808 ≤ first ∧ first ≤ 9223372036854775807) :
    Ret prog 39 #[.int .i64 first, .int .i64 n] w fun v w' =>
      (newErr first n ≠ 0 ∧ v = .tuple #[.pointer none, .int .i64 (newErr first n : Nat)] ∧ Qt w w') ∨
      (newErr first n = 0 ∧ 0 ≤ first ∧ 0 ≤ n ∧ n ≤ 1048576 ∧ first + n ≤ 268435456 ∧ ∃ b bu bd, v = .tuple #[.pointer (some ⟨b, 0, none⟩), .int .i64 0] ∧ PoolAt w' b bu bd (newPool first.toNat n.toNat) ∧ Fr (fun _ => False) w w' ∧
        w.heap.size ≤ b ∧ w.heap.size ≤ bu ∧ w.heap.size ≤ bd) := by
  refine F39_of _ _ _ _ ?_
  unfold F39
  by_cases h1 : n < 0
  · rw [decide_eq_true h1, BIf_true]; exact .inl ⟨by simp [newErr, h1], by simp [newErr, h1], Qt.refl w⟩
  rw [decide_eq_false h1, BIf_false]
  by_cases h2 : n > 1048576
  · rw [decide_eq_true h2, BIf_true]; exact .inl ⟨by simp [newErr, h2], by simp [newErr, h2], Qt.refl w⟩
  rw [decide_eq_false h2, BIf_false]
  have hg : ¬ (n < 0 ∨ n > 1048576) := by omega
  by_cases h3 : first < 0
  · rw [decide_eq_true h3, BIf_true]; exact .inl ⟨by simp [newErr, if_neg hg, h3], by simp [newErr, if_neg hg, h3], Qt.refl w⟩
  rw [decide_eq_false h3, BIf_false, w64 (n := (268435456 : Int) - n) (by omega) (by omega)]
  by_cases h4 : first > 268435456 - n
  · rw [decide_eq_true h4, BIf_true]; exact .inl ⟨by simp [newErr, if_neg hg, h4], by simp [newErr, if_neg hg, h4], Qt.refl w⟩
  rw [decide_eq_false h4, BIf_false]
  obtain ⟨k, rfl⟩ : ∃ k : Nat, n = k := ⟨n.toNat, by omega⟩
  obtain ⟨a, rfl⟩ : ∃ k : Nat, first = k := ⟨first.toNat, by omega⟩
  have e1 : IntKind.i64.wrap ((IntKind.i64.wrap ((k : Int) + 63)).tdiv 64) = (((k + 63) / 64 : Nat) : Int) := by
    rw [w64 (n := (k : Int) + 63) (by omega) (by omega), IntWalk.i64_quo _ _ ⟨by omega, by omega, by omega⟩]; omega
  simp only [e1]
  have hzero : newErr (a : Int) (k : Int) = 0 := by simp only [newErr, if_neg hg]; rw [if_neg (by omega)]
  have hcells : ∀ bu bd : Nat, [Value.int .i64 (a : Int), .int .i64 (k : Int), .slice (some ⟨bu, 0, none⟩) k k, .slice (some ⟨bd, 0, none⟩) ((k + 63) / 64) ((k + 63) / 64), .int .i64 (k : Int)] = poolCells (newPool a k) bu bd := by
    intro bu bd; simp [poolCells, newPool_free]; simp [newPool]
  have hu8 : u8s (newPool a k).u = List.replicate k (.int .u8 0) := by simp [u8s, newPool]
  have hu64 : u64s (List.replicate ((k + 63) / 64) 0) = List.replicate ((k + 63) / 64) (.int .u64 0) := by simp [u64s]
  refine ⟨?_, ?_⟩
  · refine RunV.make 143 5 _ 1 k und66 inf5 rfl (by omega) (by omega) fun w1 hu hf1 hs1 => ?_
    simp only [AsSl_slice]
    refine RunV.make 43 30 _ 8 ((k + 63) / 64) und81 inf101 rfl (by omega) (by omega) fun w2 hd hf2 hs2 => ?_
    simp only [AsSl_slice]
    refine New.mk fun w3 hp hf3 hs3 => ?_
    have hu2 := (hu.fr hf2 (fun h => h)).fr hf3 (fun h => h)
    have hd2 := hd.fr hf3 (fun h => h)
    refine .inr ⟨hzero, by omega, by omega, by omega, by omega, w2.heap.size, w.drew.heap.size, w1.heap.size, rfl, ⟨?_, ?_, ⟨_, Bits.zero k, ?_⟩, ?_, ?_⟩, ((hf1.trans hf2).trans hf3).of_drew, ?_, ?_, ?_⟩
    · rw [Int.toNat_natCast, Int.toNat_natCast, ← hcells]; exact hp
    · rw [Int.toNat_natCast, Int.toNat_natCast, hu8]; exact hu2
    · rw [hu64]; exact hd2
    · have h5 : w.drew.heap.size = w.heap.size := rfl
      omega
    · simp only [Int.toNat_natCast]; exact newPool_ok (by omega) (by omega)
    · have h5 : w.drew.heap.size = w.heap.size := rfl
      omega
    · exact Nat.le_refl _
    · have h5 : w.drew.heap.size = w.heap.size := rfl
      omega
  · refine RunV.make 43 30 _ 8 ((k + 63) / 64) und81 inf101 rfl (by omega) (by omega) fun w1 hd hf1 hs1 => ?_
    simp only [AsSl_slice]
    refine RunV.make 143 5 _ 1 k und66 inf5 rfl (by omega) (by omega) fun w2 hu hf2 hs2 => ?_
    simp only [AsSl_slice]
    refine New.mk fun w3 hp hf3 hs3 => ?_
    have hd2 := (hd.fr hf2 (fun h => h)).fr hf3 (fun h => h)
    have hu2 := hu.fr hf3 (fun h => h)
    refine .inr ⟨hzero, by omega, by omega, by omega, by omega, w2.heap.size, w1.heap.size, w.drew.heap.size, rfl, ⟨?_, ?_, ⟨_, Bits.zero k, ?_⟩, ?_, ?_⟩, ((hf1.trans hf2).trans hf3).of_drew, ?_, ?_, ?_⟩
    · rw [Int.toNat_natCast, Int.toNat_natCast, ← hcells]; exact hp
    · rw [Int.toNat_natCast, Int.toNat_natCast, hu8]; exact hu2
    · rw [hu64]; exact hd2
    · have h5 : w.drew.heap.size = w.heap.size := rfl
      omega
    · simp only [Int.toNat_natCast]; exact newPool_ok (by omega) (by omega)
    · have h5 : w.drew.heap.size = w.heap.size := rfl
      omega
    · have h5 : w.drew.heap.size = w.heap.size := rfl
      omega
    · exact Nat.le_refl _
def turn (u : List Nat) (k : Nat) (f : Nat → Nat) : Nat → List Nat
  | 0 => u
  | j + 1 => (turn u k f j).set (k + j) (f (u.getD (k + j) 0))
theorem turn_len (u : List Nat) (k : Nat) (f : Nat → Nat) : ∀ j, (turn u k f j).length = u.length
  | 0 => rfl
  | j + 1 => by simp [turn, turn_len u k f j]
theorem turn_get (u : List Nat) (k : Nat) (f : Nat → Nat) (x : Nat) : ∀ j, k + j ≤ u.length → (turn u k f j).getD x 0 = if k ≤ x ∧ x < k + j then f (u.getD x 0) else u.getD x 0
  | 0, _ => by rw [if_neg (by omega)]; rfl
  | j + 1, h => by
    rw [turn, getD_set _ _ _ _ (by rw [turn_len]; omega), turn_get u k f x j (by omega)]
    by_cases e : k + j = x
    · subst e; rw [if_pos rfl, if_pos (by omega)]
    · rw [if_neg e]
      by_cases h2 : k ≤ x ∧ x < k + j
      · rw [if_pos h2, if_pos (by omega)]
      · rw [if_neg h2, if_neg (by omega)]
theorem run_ok {p : Pool} {first n : Int} (h : (p.run first n).2 = 0) : 1 ≤ n ∧ (p.first : Int) ≤ first ∧ first + n ≤ p.first + p.u.length ∧ (p.run first n).1 = (first - p.first).toNat ∧
    (∀ x, (first - p.first).toNat ≤ x → x < (first - p.first).toNat + n.toNat → 0 < p.u.getD x 0) := by
  unfold Pool.run at *
  split at h
  · cases h
  rename_i h0
  split at h
  · cases h
  rename_i h1
  split at h
  · cases h
  rename_i h2
  rw [if_neg h0, if_neg h1, if_neg h2]
  refine ⟨by omega, by omega, by omega, rfl, fun x hx hx2 => ?_⟩
  obtain ⟨s1, s2, s3, s4⟩ := next_spec p.u false (first - p.first).toNat
  have hlt : x < p.u.length := by omega
  have := s4 x hx (by omega) hlt
  rw [getD_get hlt]
  have h3 : ¬ p.u[x] = 0 := by simpa using this
  omega
def Pool.turned (p : Pool) (k : Nat) (f : Nat → Nat) (j : Nat) : Pool := ⟨p.first, turn p.u k f j⟩
theorem f47 {w : World} {b bu bd : Nat} {p : Pool} (hP : PoolAt w b bu bd p) (hT : Tz w) (hd : ¬ Own b bu bd 3) (first n : Int) (hf : -9223372036854775808 ≤ first ∧ first ≤ 9223372036854775807) (hn : n ≤ 9223372036854775807) :
    Ret prog 47 #[.pointer (some ⟨b, 0, none⟩), .int .i64 first, .int .i64 n] w fun v w' =>
      ((p.run first n).2 ≠ 0 ∧ v = .tuple #[.int .i64 0, .int .i64 ((p.run first n).2 : Nat)] ∧ Qt w w') ∨
      ((p.run first n).2 = 0 ∧ v = .tuple #[.int .i64 (((p.turned (first - p.first).toNat (· - 1) n.toNat).free : Int) - p.free), .int .i64 0] ∧ PoolAt w' b bu bd (p.turned (first - p.first).toNat (· - 1) n.toNat) ∧ Fr (Own b bu bd) w w') := by
  have hN := hP.ok.n
  have hL := hP.ok.le
  refine F47_of _ _ _ _ _ ?_
  unfold F47; try dsimp only [Uii, li_, ls_, ui_]
  refine Ret.use (f95 hP hT first n hf hn) ?_
  rintro v w1 ⟨rfl, hq⟩
  simp only [AsTup_tuple, UnC_cons, AsI_int, UnN_nil]
  by_cases h0 : (p.run first n).2 = 0
  · have hb : (((p.run first n).2 : Int) != (0 : Int)) = false := by rw [h0]; rfl
    rw [hb, BIf_false]
    obtain ⟨r1, r2, r3, r4, r5⟩ := run_ok h0
    obtain ⟨k, hk⟩ : ∃ k : Nat, first - (p.first : Int) = k := ⟨(first - p.first).toNat, by omega⟩
    obtain ⟨m, rfl⟩ : ∃ m : Nat, n = m := ⟨n.toNat, by omega⟩
    have hkN : (first - (p.first : Int)).toNat = k := by omega
    have hmN : ((m : Int)).toNat = m := rfl
    simp only [hkN, hmN] at r4 r5 ⊢
    rw [r4]
    have hP1 := hP.qt hq
    simp only [at0_mk, Nat.zero_add]
    refine hP1.st.ld rfl ?_
    simp only [AsI_int]
    refine Loop.by (fun s w' => ∃ j : Nat, s = [.int .i64 (j : Int)] ∧ j ≤ m ∧ PoolAt w' b bu bd (p.turned k (· - 1) j) ∧ Fr (Own b bu bd) w w') (fun s _ => match s with | [.int _ j] => m - j.toNat | _ => 0)
      ⟨0, rfl, by omega, hP1, hq.fr⟩ ?_
    rintro _ w2 ⟨j, rfl, hj, hP2, hf2⟩
    simp only [UnC_cons, AsI_int, UnN_nil]
    have hlen : (p.turned k (· - 1) j).u.length = p.u.length := turn_len _ _ _ _
    by_cases hjm : j < m
    · rw [decide_eq_true (show (j : Int) < (m : Int) by omega), BIf_true]
      refine hP2.st.ld rfl ?_
      simp only [AsSl_slice, NilP_some]
      have hkj : k + j < p.u.length := by rw [hlen] at *; omega
      have hkj2 : k + j < (p.turned k (· - 1) j).u.length := by omega
      rw [w64 (n := (k : Int) + (j : Int)) (by omega) (by omega), show (k : Int) + (j : Int) = ((k + j : Nat) : Int) from by omega]
      refine ⟨by omega, by omega, ?_⟩
      simp only [at0_mk, Int.toNat_natCast, Nat.mul_one, Nat.zero_add]
      refine hP2.us.ld (u8s_get hkj2) ?_
      simp only [AsI_int]
      have hval : (p.turned k (· - 1) j).u[k + j] = p.u.getD (k + j) 0 := by
        rw [← getD_get hkj2]
        show (turn p.u k (· - 1) j).getD (k + j) 0 = _
        rw [turn_get _ _ _ _ _ (by omega), if_neg (by omega)]
      have hpos := r5 (k + j) (by omega) (by omega)
      have hle : p.u.getD (k + j) 0 ≤ 255 := by rw [getD_get hkj]; exact hP.ok.u _ (List.getElem_mem hkj)
      rw [hval, wu8 (by omega) (by omega), show ((p.u.getD (k + j) 0 : Nat) : Int) - 1 = ((p.u.getD (k + j) 0 - 1 : Nat) : Int) from by omega]
      refine Ret.use (f94 hP2 (k + j) (p.u.getD (k + j) 0 - 1) hkj2 (by omega)) ?_
      rintro v w3 ⟨rfl, hP3, hf3⟩
      simp only [AsTup_tuple, UnN_nil]
      rw [w64 (n := (j : Int) + 1) (by omega) (by omega)]
      exact ⟨⟨j + 1, rfl, by omega, hP3, hf2.trans hf3⟩, by show m - ((j : Int) + 1).toNat < m - (j : Int).toNat; omega⟩
    · rw [decide_eq_false (show ¬ (j : Int) < (m : Int) by omega), BIf_false]
      obtain rfl : j = m := by omega
      refine hP2.st.ld rfl ?_
      simp only [AsI_int]
      have c1 : p.free ≤ p.u.length := List.countP_le_length
      have c2 : (p.turned k (· - 1) j).free ≤ p.u.length := by rw [← hlen]; exact List.countP_le_length
      rw [w64 (by omega) (by omega)]
      exact .inr ⟨h0, by trivial, hP2, hf2⟩
  · have hb : (((p.run first n).2 : Int) != (0 : Int)) = true := bne_iff_ne.2 (by omega)
    rw [hb, BIf_true]
    exact .inl ⟨h0, by trivial, hq⟩
end Go.Proofs.YtmgjicnipgdjhaaGreatDoor
namespace Go.Fr
def up (m al : Nat) : Nat := (m + al - 1) / al * al
theorem up_le {m al : Nat} (h : 0 < al) : m ≤ up m al ∧ up m al < m + al := by
  unfold up
  have h1 := Nat.div_add_mod (m + al - 1) al
  have h2 := Nat.mod_lt (m + al - 1) h
  rw [Nat.mul_comm] at h1
  generalize (m + al - 1) / al * al = q at *
  omega
theorem up_mod (m al : Nat) : up m al % al = 0 := by unfold up; exact Nat.mul_mod_left _ _
theorem up_least {m al x : Nat} (h : 0 < al) (hx : x % al = 0) (hm : m ≤ x) : up m al ≤ x := by
  unfold up
  obtain ⟨t, rfl⟩ : ∃ t, x = t * al := ⟨x / al, by rw [Nat.div_mul_cancel (Nat.dvd_of_mod_eq_zero hx)]⟩
  apply Nat.mul_le_mul_right
  have : (m + al - 1) / al < t + 1 := by
    rw [Nat.div_lt_iff_lt_mul h, Nat.add_mul, Nat.one_mul]
    omega
  omega
def Fit (first : Nat) (u : List Nat) (n al a : Nat) : Prop := (first + a) % al = 0 ∧ a + n ≤ u.length ∧ ∀ x, a ≤ x → x < a + n → u.getD x 0 = 0
theorem free_at {u : List Nat} {x : Nat} (h : u.getD x 0 = 0) (hx : x < u.length) : decide (0 < u[x]) = false := by
  rw [getD_get hx] at h; simp [h]
theorem fit_round {first n al at0 : Nat} {u : List Nat} (hn : 1 ≤ n) (hal : 0 < al) (hno : ∀ a, a < at0 → ¬ Fit first u n al a) (hat : at0 ≤ u.length) :
    let at1 := next u false at0
    let at2 := up (first + at1) al - first
    at0 ≤ at1 ∧ at1 ≤ at2 ∧ first + at2 = up (first + at1) al ∧ (∀ a, a < at2 → ¬ Fit first u n al a) ∧
    ((at2 ≥ u.length ∨ n > u.length - at2) → ∀ a, ¬ Fit first u n al a) ∧
    (at2 < u.length → n ≤ u.length - at2 → (next u true at2 < at2 + n → next u true at2 < u.length ∧ at2 ≤ next u true at2 ∧ ∀ a, a < next u true at2 + 1 → ¬ Fit first u n al a) ∧
      (at2 + n ≤ next u true at2 → Fit first u n al at2)) := by
  intro at1 at2
  obtain ⟨s1, s2, s3, s4⟩ := next_spec u false at0
  have hup := up_le (m := first + at1) hal
  have h01 : at0 ≤ at1 := s2 hat
  have h12 : at1 ≤ at2 := by omega
  have hf : first + at2 = up (first + at1) al := by omega
  have hlt : ∀ a, a < at2 → ¬ Fit first u n al a := by
    intro a ha hfit
    by_cases h1 : a < at0
    · exact hno a h1 hfit
    · have hal1 : a < u.length := by have := hfit.2.1; omega
      have h2 : at1 ≤ a := by
        rcases Nat.lt_or_ge a at1 with h | h
        · exact absurd (free_at (hfit.2.2 a (Nat.le_refl _) (by omega)) hal1) (s4 a (by omega) h hal1)
        · exact h
      have := up_least hal hfit.1 (show first + at1 ≤ first + a by omega)
      omega
  refine ⟨h01, h12, hf, hlt, fun h a hfit => ?_, fun h1 h2 => ⟨fun h3 => ?_, fun h3 => ?_⟩⟩
  · have := hfit.2.1
    exact hlt a (by omega) hfit
  · obtain ⟨t1, t2, t3, t4⟩ := next_spec u true at2
    have h4 := t2 (by omega)
    refine ⟨by omega, h4, fun a ha hfit => ?_⟩
    by_cases h5 : a < at2
    · exact hlt a h5 hfit
    · have hb : next u true at2 < u.length := by omega
      have := t3 hb
      rw [free_at (hfit.2.2 _ (by omega) (by omega)) hb] at this
      cases this
  · obtain ⟨t1, t2, t3, t4⟩ := next_spec u true at2
    refine ⟨by rw [hf]; exact up_mod _ _, by omega, fun x hx1 hx2 => ?_⟩
    have hx : x < u.length := by omega
    have := t4 x hx1 (by omega) hx
    rw [getD_get hx]
    have h5 : ¬ 0 < u[x] := by simpa using this
    omega
end Go.Fr
namespace Go.Proofs.YtmgjicnipgdjhaaGreatDoor
open Go Go.Sh Go.Fr
def badTake (n al : Int) : Prop := n < 1 ∨ al < 1 ∨ al > 4096 ∨ pow2B al.toNat = false
def TakeR (p : Pool) (n al : Int) (b bu bd : Nat) (w : World) (v : Value) (w' : World) : Prop :=
  (badTake n al ∧ v = .tuple #[.int .i64 0, .int .i64 41] ∧ Qt w w') ∨
  (¬ badTake n al ∧ (∀ a, ¬ Fit p.first p.u n.toNat al.toNat a) ∧ v = .tuple #[.int .i64 0, .int .i64 42] ∧ Qt w w') ∨
  (¬ badTake n al ∧ ∃ a, Fit p.first p.u n.toNat al.toNat a ∧ (∀ a', a' < a → ¬ Fit p.first p.u n.toNat al.toNat a') ∧ v = .tuple #[.int .i64 (p.first + a : Nat), .int .i64 0] ∧
    PoolAt w' b bu bd (p.turned a (fun _ => 1) n.toNat) ∧ Fr (Own b bu bd) w w')
theorem f46 {w : World} {b bu bd : Nat} {p : Pool} (hP : PoolAt w b bu bd p) (hT : Tz w) (hd : ¬ Own b bu bd 3) (n al : Int) (hn : n ≤ 9223372036854775807) :
    Ret prog 46 #[.pointer (some ⟨b, 0, none⟩), .int .i64 n, .int .i64 al] w (TakeR p n al b bu bd w) := by
  have hN := hP.ok.n
  have hL := hP.ok.le
  refine F46_of _ _ _ _ _ ?_
  unfold F46; try dsimp only [Uiii, li_, ui_]
  by_cases h1 : n < 1
  · rw [decide_eq_true h1, BIf_true]; exact .inl ⟨.inl h1, rfl, Qt.refl w⟩
  rw [decide_eq_false h1, BIf_false]
  by_cases h2 : al < 1
  · rw [decide_eq_true h2, BIf_true]; exact .inl ⟨.inr (.inl h2), rfl, Qt.refl w⟩
  rw [decide_eq_false h2, BIf_false]
  by_cases h3 : al > 4096
  · rw [decide_eq_true h3, BIf_true]; exact .inl ⟨.inr (.inr (.inl h3)), rfl, Qt.refl w⟩
  rw [decide_eq_false h3, BIf_false, wu64 (n := al) (by omega) (by omega)]
  obtain ⟨l, rfl⟩ : ∃ l : Nat, al = l := ⟨al.toNat, by omega⟩
  obtain ⟨m, rfl⟩ : ∃ m : Nat, n = m := ⟨n.toNat, by omega⟩
  refine Ret.use (f92 l (by omega)) ?_
  rintro _ w1 ⟨⟨c, rfl, hc⟩, hw⟩
  obtain rfl := hw.symm
  simp only [AsI_int]
  rw [hc]
  cases h4 : pow2B l with
  | false =>
    rw [Bool.not_false, BIf_true]; exact .inl ⟨.inr (.inr (.inr h4)), rfl, Qt.refl _⟩
  | true =>
  have hgood : ¬ badTake (m : Int) (l : Int) := by
    rintro (h | h | h | h)
    · omega
    · omega
    · omega
    · rw [Int.toNat_natCast, h4] at h; cases h
  rw [Bool.not_true, BIf_false]
  simp only [at0_mk, Nat.zero_add]
  have hl : 0 < l := by omega
  have hl2 : l ≤ 4096 := by omega
  refine Loop.by (fun s w' => ∃ a : Nat, s = [.int .i64 (a : Int), .int .i64 0, .int .i64 0] ∧ a ≤ p.u.length ∧ (∀ a', a' < a → ¬ Fit p.first p.u m l a') ∧ Qt w w')
    (fun s _ => match s with | [.int _ a, _, _] => p.u.length + 1 - a.toNat | _ => 0) ⟨0, rfl, by omega, fun a' h => by omega, Qt.refl w⟩ ?_
  rintro _ w2 ⟨a, rfl, ha, hno, hq⟩
  simp only [UnC_cons, AsI_int, UnN_nil]
  obtain ⟨r1, r2, r3, r4, r5, r6⟩ := fit_round (first := p.first) (n := m) (al := l) (by omega) hl hno ha
  refine Ret.use (f93 (hP.qt hq) (hT.qt hq) a (by omega) false) ?_
  rintro _ w3 ⟨rfl, hq3⟩
  have hq := hq.trans hq3
  have hP3 := hP.qt hq
  have ha1 : next p.u false a ≤ p.u.length := (next_spec p.u false a).1
  generalize next p.u false a = a1 at *
  simp only [AsI_int]
  refine hP3.st.ld rfl ?_
  simp only [AsI_int]
  refine NZ.mk (by omega) ?_
  refine hP3.st.ld rfl ?_
  simp only [AsI_int]
  refine hP3.st.ld rfl ?_
  simp only [AsI_int]
  have hup := up_le (m := p.first + a1) hl
  have e1 : IntKind.i64.wrap (IntKind.i64.wrap ((IntKind.i64.wrap (IntKind.i64.wrap (IntKind.i64.wrap ((p.first : Int) + (a1 : Int)) + (l : Int)) - 1)).tdiv (l : Int)) * (l : Int)) = ((up (p.first + a1) l : Nat) : Int) := by
    have hdiv : (((p.first : Int) + (a1 : Int) + (l : Int) - 1) / (l : Int)) = (((p.first + a1 + l - 1) / l : Nat) : Int) := by
      rw [Int.natCast_ediv]; congr 1; omega
    have hle : (p.first + a1 + l - 1) / l ≤ p.first + a1 + l - 1 := Nat.div_le_self _ _
    rw [w64 (n := (p.first : Int) + (a1 : Int)) (by omega) (by omega), w64 (n := (p.first : Int) + (a1 : Int) + (l : Int)) (by omega) (by omega),
      w64 (n := (p.first : Int) + (a1 : Int) + (l : Int) - 1) (by omega) (by omega), IntWalk.i64_quo _ _ ⟨by omega, by omega, by omega⟩, hdiv,
      show (((p.first + a1 + l - 1) / l : Nat) : Int) * (l : Int) = ((up (p.first + a1) l : Nat) : Int) from by unfold up; push_cast; rfl]
    exact w64 (by omega) (by omega)
  simp only [e1]
  have e2 : IntKind.i64.wrap (((up (p.first + a1) l : Nat) : Int) - (p.first : Int)) = ((up (p.first + a1) l - p.first : Nat) : Int) := by rw [w64 (by omega) (by omega)]; omega
  simp only [e2]
  clear e1 e2
  generalize up (p.first + a1) l - p.first = a2 at *
  rw [← r3]
  by_cases h5 : a2 ≥ p.u.length
  · rw [decide_eq_true (show (a2 : Int) ≥ (p.u.length : Int) by omega), BIf_true]
    exact .inr (.inl ⟨hgood, r5 (.inl h5), rfl, hq⟩)
  rw [decide_eq_false (show ¬ (a2 : Int) ≥ (p.u.length : Int) by omega), BIf_false]
  refine hP3.st.ld rfl ?_
  simp only [AsI_int]
  rw [w64 (n := (p.u.length : Int) - (a2 : Int)) (by omega) (by omega)]
  by_cases h6 : m > p.u.length - a2
  · rw [decide_eq_true (show (m : Int) > (p.u.length : Int) - (a2 : Int) by omega), BIf_true]
    exact .inr (.inl ⟨hgood, r5 (.inr h6), rfl, hq⟩)
  rw [decide_eq_false (show ¬ (m : Int) > (p.u.length : Int) - (a2 : Int) by omega), BIf_false]
  obtain ⟨r7, r8⟩ := r6 (by omega) (by omega)
  refine Ret.use (f93 hP3 (hT.qt hq) a2 (by omega) true) ?_
  rintro _ w4 ⟨rfl, hq4⟩
  have hq4 := hq.trans hq4
  generalize next p.u true a2 = bz at *
  simp only [AsI_int]
  rw [w64 (n := (a2 : Int) + (m : Int)) (by omega) (by omega)]
  by_cases h7 : bz < a2 + m
  · rw [decide_eq_true (show (bz : Int) < (a2 : Int) + (m : Int) by omega), BIf_true]
    obtain ⟨r9, r10, r11⟩ := r7 h7
    rw [w64 (n := (bz : Int) + 1) (by omega) (by omega)]
    refine ⟨⟨bz + 1, rfl, by omega, r11, hq4⟩, ?_⟩
    show p.u.length + 1 - ((bz : Int) + 1).toNat < p.u.length + 1 - (a : Int).toNat
    omega
  rw [decide_eq_false (show ¬ (bz : Int) < (a2 : Int) + (m : Int) by omega), BIf_false]
  refine Loop.by (fun s w' => ∃ i : Nat, s = [.int .i64 (i : Int)] ∧ i ≤ m ∧ PoolAt w' b bu bd (p.turned a2 (fun _ => 1) i) ∧ Fr (Own b bu bd) w w') (fun s _ => match s with | [.int _ i] => m - i.toNat | _ => 0)
    ⟨0, rfl, by omega, hP.qt hq4, hq4.fr⟩ ?_
  rintro _ w5 ⟨i, rfl, hi, hP5, hf5⟩
  simp only [UnC_cons, AsI_int, UnN_nil]
  have hlen : (p.turned a2 (fun _ => 1) i).u.length = p.u.length := turn_len _ _ _ _
  by_cases him : i < m
  · rw [decide_eq_true (show (i : Int) < (m : Int) by omega), BIf_true, w64 (n := (a2 : Int) + (i : Int)) (by omega) (by omega), show (a2 : Int) + (i : Int) = ((a2 + i : Nat) : Int) from by omega]
    refine Ret.use (f94 hP5 (a2 + i) 1 (by omega) (by omega)) ?_
    rintro v w6 ⟨rfl, hP6, hf6⟩
    simp only [AsTup_tuple, UnN_nil]
    rw [w64 (n := (i : Int) + 1) (by omega) (by omega)]
    exact ⟨⟨i + 1, rfl, by omega, hP6, hf5.trans hf6⟩, by show m - ((i : Int) + 1).toNat < m - (i : Int).toNat; omega⟩
  · rw [decide_eq_false (show ¬ (i : Int) < (m : Int) by omega), BIf_false]
    obtain rfl : i = m := by omega
    exact .inr (.inr ⟨hgood, a2, r8 (by omega), r4, rfl, hP5, hf5⟩)
end Go.Proofs.YtmgjicnipgdjhaaGreatDoor
namespace Go.Sh
variable {P : Program}
theorem Ld_drew {w : World} {a : Addr} {K : Value → Prop} : Ld w.drew a K ↔ Ld w a K := Iff.rfl
theorem BIf_pos {p : Prop} [Decidable p] {x y : Prop} (h : p) (k : x) : BIf (decide p) x y := by rw [decide_eq_true h]; exact k
theorem BIf_neg {p : Prop} [Decidable p] {x y : Prop} (h : ¬ p) (k : y) : BIf (decide p) x y := by rw [decide_eq_false h]; exact k
theorem BIf_cases {p : Prop} [Decidable p] {x y : Prop} (h : p → x) (k : ¬ p → y) : BIf (decide p) x y := by
  by_cases hp : p
  · exact BIf_pos hp (h hp)
  · exact BIf_neg hp (k hp)
theorem BIf_eq {a b : Int} {x y : Prop} (h : a = b → x) (k : a ≠ b → y) : BIf (a == b) x y := by
  by_cases hp : a = b
  · rw [beq_iff_eq.2 hp]; exact h hp
  · rw [beq_eq_false_iff_ne.2 hp]; exact k hp
theorem BIf_ne {a b : Int} {x y : Prop} (h : a ≠ b → x) (k : a = b → y) : BIf (a != b) x y := by
  by_cases hp : a = b
  · rw [bne_eq_false_iff_eq.2 hp]; exact k hp
  · rw [bne_iff_ne.2 hp]; exact h hp
theorem BIf_not {b : Bool} {x y : Prop} : BIf (!b) x y ↔ BIf b y x := by cases b <;> exact Iff.rfl
theorem BIf_b {b : Bool} {x y : Prop} (h : b = true → x) (k : b = false → y) : BIf b x y := by
  cases b
  · exact k rfl
  · exact h rfl
def Rd (w : World) (p : Option Addr) (xs : List Value) : Prop := ∀ i v, xs[i]? = some v → ∃ b o, p = some ⟨b, o, none⟩ ∧ w.cell? ⟨b, o + i, none⟩ = some v
theorem Rd.nil (w : World) (p : Option Addr) : Rd w p [] := fun i v h => by simp at h
theorem Rd.qt {w w' : World} {p : Option Addr} {xs : List Value} (h : Rd w p xs) (q : Qt w w') : Rd w' p xs := fun i v hv => by
  obtain ⟨b, o, hp, hc⟩ := h i v hv
  exact ⟨b, o, hp, by rw [← hc]; simp [World.cell?, q.heap]⟩
def On (p : Option Addr) (b : Nat) : Prop := ∃ a, p = some a ∧ a.block = b
theorem cell_lt {w : World} {a : Addr} {v : Value} (h : w.cell? a = some v) : a.block < w.heap.size := by
  rcases Nat.lt_or_ge a.block w.heap.size with h1 | h1
  · exact h1
  · simp [World.cell?, Array.getElem?_eq_none h1] at h
theorem cell_fr {S : Nat → Prop} {w w' : World} {a : Addr} {v : Value} (h : w.cell? a = some v) (f : Fr S w w') (hS : ¬ S a.block) : w'.cell? a = some v := by
  rw [← h]; simp only [World.cell?, f.block _ (cell_lt h) hS]
theorem Rd.fr {S : Nat → Prop} {w w' : World} {p : Option Addr} {xs : List Value} (h : Rd w p xs) (f : Fr S w w') (hS : ∀ b, On p b → ¬ S b) : Rd w' p xs := fun i v hv => by
  obtain ⟨b, o, hp, hc⟩ := h i v hv
  exact ⟨b, o, hp, cell_fr hc f (hS _ ⟨_, hp, rfl⟩)⟩
theorem Rd.ld {w : World} {p : Option Addr} {xs : List Value} (h : Rd w p xs) {i : Nat} {v : Value} (hv : xs[i]? = some v) {K : Addr → Prop} (k : ∀ b o, p = some ⟨b, o, none⟩ → w.cell? ⟨b, o + i, none⟩ = some v → K ⟨b, o, none⟩) : NilP p K := by
  obtain ⟨b, o, rfl, hc⟩ := h i v hv
  exact k b o rfl hc
theorem Rd.int {w : World} {p : Option Addr} {n : Nat} {l : List Int} {k : IntKind} (h : Rd w p (l.map (Value.int k))) (hn : l.length = n) {i : Int} (h0 : 0 ≤ i) {x : Int} (hi : l[i.toNat]? = some x) {K : Int → Prop} (hK : K x) :
    NilP p fun a => (0 : Int) ≤ i ∧ i < (n : Int) ∧ Ld w (at0 a (i.toNat * 1)) fun v => AsI k v K := by
  refine h.ld (i := i.toNat) (v := .int k x) (by simp [hi]) fun b o _ hc => ⟨h0, ?_, ?_⟩
  · have := (List.getElem?_eq_some_iff.1 hi).1; omega
  · rw [at0_mk, Nat.mul_one]; exact ⟨_, hc, AsI_int.2 hK⟩
def Sl (w : World) (B : Nat) (e : TypeId) (size : Nat) (p : Option Addr) (n c : Nat) (xs : List Value) : Prop := w.ownsRow B e size (.slice p n c) n xs
theorem Sl.nil (w : World) (B : Nat) (e : TypeId) (size : Nat) : Sl w B e size none 0 0 [] := World.ownsRow_nil w B e size
section sl
variable {w w' : World} {B : Nat} {e : TypeId} {size n c : Nat} {p : Option Addr} {xs : List Value}
theorem Sl.len (h : Sl w B e size p n c xs) : xs.length = n * size := h.1
theorem Sl.some_ (h : Sl w B e size p n c xs) (hn : 0 < n) : ∃ g sp, p = some ⟨g, 0, none⟩ ∧ B ≤ g ∧ Has w g (xs ++ sp) := by
  rcases h.2 with ⟨_, h0⟩ | ⟨g, cap, cur, hv, hb, hg, hnc, hcm, hcs, ht⟩
  · omega
  · injection hv with h1 h2 h3
    refine ⟨g, cur.toList.drop (n * size), h1, hb, e, ?_⟩
    rw [← ht, List.take_append_drop]; simpa using hg
theorem Sl.cases (h : Sl w B e size p n c xs) : (p = none ∧ n = 0 ∧ c = 0 ∧ xs = []) ∨ ∃ g sp, p = some ⟨g, 0, none⟩ ∧ B ≤ g ∧ Has w g (xs ++ sp) ∧ n ≤ c ∧ (xs ++ sp).length = c * size := by
  rcases h.2 with ⟨h0, h1⟩ | ⟨g, cap, cur, hv, hb, hg, hnc, hcm, hcs, ht⟩
  · injection h0 with h0 h2 h3; subst h1; refine .inl ⟨h0, rfl, h3, ?_⟩; have := h.1; simp at this; exact this
  · injection hv with h1 h2 h3
    refine .inr ⟨g, cur.toList.drop (n * size), h1, hb, ⟨e, ?_⟩, by omega, ?_⟩
    · rw [← ht, List.take_append_drop]; simpa using hg
    · rw [← ht, List.take_append_drop]; simp [hcs, h3]
theorem Sl.rd (h : Sl w B e size p n c xs) : Rd w p xs := fun i v hv => by
  rcases h.cases with ⟨_, _, _, rfl⟩ | ⟨g, sp, hp, _, hh, _, _⟩
  · simp at hv
  · refine ⟨g, 0, hp, ?_⟩
    rw [Nat.zero_add, hh.cell, List.getElem?_append_left (List.getElem?_eq_some_iff.1 hv).1, hv]
theorem Sl.lt (h : Sl w B e size p n c xs) : ∀ b, On p b → B ≤ b ∧ b < w.heap.size := by
  rintro b ⟨a, rfl, rfl⟩
  rcases h.cases with ⟨h, _⟩ | ⟨g, sp, hp, hb, hh, _, _⟩
  · cases h
  · injection hp with hp; subst hp; exact ⟨hb, hh.lt⟩
theorem Sl.qt (h : Sl w B e size p n c xs) (q : Qt w w') : Sl w' B e size p n c xs := by
  refine ⟨h.1, ?_⟩
  rw [q.heap]; exact h.2
theorem Sl.fr {S : Nat → Prop} (h : Sl w B e size p n c xs) (f : Fr S w w') (hS : ∀ b, On p b → ¬ S b) : Sl w' B e size p n c xs := by
  have hl := h.lt
  refine ⟨h.1, ?_⟩
  rcases h.2 with h0 | ⟨g, cap, cur, hv, hb, hg, hr⟩
  · exact .inl h0
  · injection hv with h1 h2 h3
    refine .inr ⟨g, cap, cur, by rw [h1, h3], hb, ?_, hr⟩
    rw [f.block _ (hl g ⟨_, h1, rfl⟩).2 (hS g ⟨_, h1, rfl⟩)]; exact hg
theorem Sl.mono {B' : Nat} (h : Sl w B e size p n c xs) (hB : B' ≤ B) : Sl w B' e size p n c xs := by
  refine ⟨h.1, ?_⟩
  rcases h.2 with h0 | ⟨g, cap, cur, hv, hb, hr⟩
  · exact .inl h0
  · exact .inr ⟨g, cap, cur, hv, Nat.le_trans hB hb, hr⟩
theorem On.own {b : Nat} : some b = (Value.slice p n c).ownBlock ↔ On p b := by
  cases p with
  | none => simp [Value.ownBlock, On]
  | some a => simp [Value.ownBlock, On]; exact eq_comm
theorem Fr.own {S : Nat → Prop} {w0 : World} (f : Fr S w0 w) (g : Fr (On p) w w') (h : ∀ b, On p b → b < w0.heap.size → S b) : Fr S w0 w' :=
  ⟨g.os.trans f.os, g.output.trans f.output, g.tape.trans f.tape, Nat.le_trans f.size g.size, fun b hb hn =>
    (g.block b (Nat.lt_of_lt_of_le hb f.size) fun ho => hn (h b ho hb)).trans (f.block b hb hn)⟩
end sl
abbrev Fr0 (w w' : World) : Prop := Fr (fun _ => False) w w'
theorem Has.fr0 {w w' : World} {b : Nat} {l : List Value} (h : Has w b l) (f : Fr0 w w') : Has w' b l := h.fr f fun h => h
theorem Rd.fr0 {w w' : World} {p : Option Addr} {xs : List Value} (h : Rd w p xs) (f : Fr0 w w') : Rd w' p xs := h.fr f fun _ _ h => h
theorem Sl.fr0 {w w' : World} {B : Nat} {e : TypeId} {size n c : Nat} {p : Option Addr} {xs : List Value} (h : Sl w B e size p n c xs) (f : Fr0 w w') : Sl w' B e size p n c xs := h.fr f fun _ _ h => h
theorem append_sl {t e ty : TypeId} {z : Value} {size bytes : Nat} (E : ElemT P t e z size bytes) {w : World} {K : Value → World → Prop} {B : Nat}
    {p : Option Addr} {n c : Nat} {xs : List Value} (h : Sl w B e size p n c xs) (hB : B ≤ w.heap.size)
    {b o m c' : Nat} {news : List Value} (hx : ∀ j u, news[j]? = some u → w.cell? ⟨b, o + j, none⟩ = some u) (hl : news.length = m * size) (h1 : ∀ u ∈ news, u.oneCell' = true)
    (h63 : n + m ≤ maxLen) (hbytes : (n + m) * bytes ≤ 140737488355328)
    (k : ∀ p' c' w', Sl w' B e size p' (n + m) c' (xs ++ news) → Fr (On p) w w' → (∀ b, On p' b → On p b ∨ w.heap.size ≤ b) → K (.slice p' (n + m) c') w') :
    RunV P (Builtin.append_ #[t, t] ty #[.slice p n c, .slice (some ⟨b, o, none⟩) m c']) w K := by
  have hi := E.info
  cases hinf : P.info? e with
  | none => rw [hinf] at hi; cases hi
  | some i =>
    rw [hinf] at hi
    simp only [Option.map_some, Option.some.injEq, Prod.mk.injEq] at hi
    obtain ⟨hz, hs, hb⟩ := hi
    have hcell : ∀ j u, news[j]? = some u → w.cell? ((⟨b, o, none⟩ : Addr).add j) = some u := by
      intro j u hj
      rw [← at0_add, at0_mk]; exact hx j u hj
    obtain ⟨v', w', hrun, how, hgr, hiff⟩ := run_append_own w B t ty e i z size bytes E.und hinf hz hs hb E.zs E.pos (.slice p n c) n xs h ⟨b, o, none⟩ m c' news hl hcell h1 h63 hbytes hB
    obtain ⟨p', c1, rfl⟩ : ∃ p' c1, v' = .slice p' (n + m) c1 := by
      rcases how.2 with ⟨h0, h1⟩ | ⟨g, cap, cur, h0, _⟩
      · exact ⟨none, 0, by rw [h0, h1]⟩
      · exact ⟨_, _, h0⟩
    refine ⟨_, w', hrun, k p' c1 w' how ⟨hgr.os, hgr.output, hgr.tape, hgr.size, fun k hk hn => hgr.block k hk fun h' => hn (On.own.1 h')⟩ fun b' hb' => ?_⟩
    rcases Nat.lt_or_ge b' w.heap.size with hlt | hge
    · left
      obtain ⟨a', rfl, rfl⟩ := hb'
      rcases h.2 with ⟨h0, hn0⟩ | ⟨g, cap, cur, hv, hbg, hg, hnc, hcm, hcs, htake⟩
      · injection h0 with h0 h2 h3; subst h0 h2 h3
        by_cases hm : m = 0
        · subst hm; have := hiff.2 ⟨rfl, rfl⟩; injection this with this; cases this
        · subst hs hb
          have hr := run_append_nil (P := P) w t ty e i z E.und hinf hz ⟨b, o, none⟩ m c' news hl hcell (by omega) (by simp only [maxLen] at h63; omega) (by have hb := hbytes; simp only [Nat.zero_add] at hb; omega)
          rw [hrun] at hr
          injection hr with h1 h2
          injection h1 with h1
          injection h1 with h1
          rw [h1] at hlt
          exact absurd hlt (by show ¬ w.heap.size < w.heap.size; omega)
      · injection hv with h1 h2 h3; subst h1 h3
        subst hs hb
        by_cases hroom : n + m ≤ c
        · have hfit : n * i.size + news.length ≤ cur.size := by rw [hl, hcs, ← Nat.add_mul]; exact Nat.mul_le_mul_right _ hroom
          have hr := run_append_room (P := P) (ty := ty) w t e i E.und hinf g n c cur hg ⟨b, o, none⟩ m c' news hl hcell (by assumption) hroom hfit
          rw [hrun] at hr
          injection hr with h1 h2
          injection h1 with h1
          injection h1 with h1
          exact ⟨_, rfl, by rw [h1]⟩
        · have holds : ∀ j u, xs[j]? = some u → w.cell? ((⟨g, 0, none⟩ : Addr).add j) = some u := World.ownsRow.cells h (g := g) rfl
          have hr := run_append_grow (P := P) w t ty e i z E.und hinf hz ⟨g, 0, none⟩ n c xs h.1 holds ⟨b, o, none⟩ m c' news hl hcell (by omega) (by simp only [maxLen] at h63; omega) (growslice_fits (by omega) hbytes)
          rw [hrun] at hr
          injection hr with h1 h2
          injection h1 with h1
          injection h1 with h1
          rw [h1] at hlt
          exact absurd hlt (by show ¬ w.heap.size < w.heap.size; omega)
    · exact .inr hge
theorem push_sl {t e : TypeId} {z : Value} {size bytes : Nat} (E : ElemT P t e z size bytes) (hsz : size ≤ 16777216) {w : World} {K : Value → World → Prop} {B : Nat}
    {p : Option Addr} {n c : Nat} {xs : List Value} (h : Sl w B e size p n c xs) (hB : B ≤ w.heap.size) {v : Value} (hv : v.cells.size = size) (h1 : ∀ u ∈ v.cells.toList, u.oneCell' = true)
    (h63 : n + 1 ≤ maxLen) (hbytes : (n + 1) * bytes ≤ 140737488355328)
    (k : ∀ p' c' w', Sl w' B e size p' (n + 1) c' (xs ++ v.cells.toList) → Fr (On p) w w' → (∀ b, On p' b → On p b ∨ w.heap.size ≤ b) → K (.slice p' (n + 1) c') w') :
    RunV P (Instr.buildSlice t 1 #[(0, v)]) w fun v1 w1 => AsSl v1 fun q m d => RunV P (Builtin.append_ #[t, t] t #[.slice p n c, .slice q m d]) w1 K := by
  refine RunV.build1 E hsz hv fun w1 hw1 hf1 hs1 => ?_
  rw [AsSl_slice]
  have hp : ∀ b, On p b → ¬ (fun _ : Nat => False) b := fun _ _ h => h
  refine append_sl E (h.fr hf1 hp) (Nat.le_trans hB hf1.size) (news := v.cells.toList) (fun j u hj => by rw [Nat.zero_add, hw1.cell]; exact hj) (by simp [hv]) h1 h63 hbytes fun p' c' w' h2 hf2 hon => ?_
  refine k p' c' w' h2 ⟨hf2.os.trans hf1.os, hf2.output.trans hf1.output, hf2.tape.trans hf1.tape, Nat.le_trans hf1.size hf2.size, fun b hb hn => (hf2.block b (Nat.lt_of_lt_of_le hb hf1.size) hn).trans (hf1.block b hb fun h => h)⟩ fun b hb => ?_
  rcases hon b hb with h | h
  · exact .inl h
  · exact .inr (by omega)
/-- the usual rewriting rules, in one -/
theorem sb_ : (∀ {w : World} {a : Addr} {K : Value → Prop}, Ld w.drew a K ↔ Ld w a K) ∧ (∀ {b o n : Nat}, at0 ⟨b, o, none⟩ n = ⟨b, o + n, none⟩) ∧ (∀ {a : Value} {l : List Value}, (a :: l)[0]? = some a) ∧ (∀ {a : Value} {l : List Value} {n : Nat}, (a :: l)[n + 1]? = l[n]?) ∧
    (∀ {a b : Value}, (some a = some b) = (a = b)) ∧ (∀ {p : Value → Prop} {a : Value}, (∃ x, a = x ∧ p x) ↔ p a) ∧ (∀ {k : IntKind} {x : Int} {K : Int → Prop}, AsI k (.int k x) K ↔ K x) ∧ (∀ {x : Bool} {K : Bool → Prop}, AsB (.bool x) K ↔ K x) ∧
    (∀ {x : Option Addr} {K : Option Addr → Prop}, AsP (.pointer x) K ↔ K x) ∧ (∀ {a : Option Addr} {n c : Nat} {K : Option Addr → Nat → Nat → Prop}, AsSl (.slice a n c) K ↔ K a n c) ∧ (∀ {x : Option Nat} {K : Option Nat → Prop}, AsM (.map x) K ↔ K x) ∧
    (∀ {l : List Value} {K : List Value → Prop}, AsTup (.tuple l.toArray) K ↔ K l) ∧ (∀ {l : List Value} {K : List Value → Prop}, AsAgg (.agg l.toArray) K ↔ K l) ∧ (∀ {v : Value} {s : List Value} {K : Value → List Value → Prop}, UnC (v :: s) K ↔ K v s) ∧ (∀ {K : Prop}, UnN [] K ↔ K) ∧
    (∀ {a : Addr} {K : Addr → Prop}, NilP (some a) K ↔ K a) ∧ (∀ n : Nat, 0 + n = n) ∧ (∀ n : Nat, n * 1 = n) :=
  ⟨Ld_drew, at0_mk, List.getElem?_cons_zero, List.getElem?_cons_succ, Option.some.injEq _ _, exists_eq_left', AsI_int, AsB_bool, AsP_pointer, AsSl_slice, AsM_map, AsTup_tuple, AsAgg_agg, UnC_cons, UnN_nil, NilP_some, Nat.zero_add, Nat.mul_one⟩
end Go.Sh
namespace Go.Fr
end Go.Fr
namespace Go.Proofs.YtmgjicnipgdjhaaGreatDoor
open Go Go.Sh Go.Fr
theorem E55 : ElemT prog 47 68 (.agg #[.int .i64 0, .int .i64 0]) 2 16 := ⟨by kernel_rfl, by kernel_rfl, rfl, by decide⟩
theorem E38 : ElemT prog 70 3 (.int .i64 0) 1 8 := ⟨by kernel_rfl, by kernel_rfl, rfl, by decide⟩
end Go.Proofs.YtmgjicnipgdjhaaGreatDoor
namespace Go.Sh
variable {P : Program}
theorem slAddr_zero {p : Option Addr} {c size : Nat} : slAddr p 0 c size = p := by
  unfold slAddr
  split
  · rfl
  · rw [Nat.zero_mul]; cases p <;> rfl
def SrcOk (w : World) (size : Nat) (q : Option Addr) (m c : Nat) (news : List Value) : Prop :=
  news.length = m * size ∧ ((q = none ∧ m = 0 ∧ c = 0) ∨ ∃ b o, q = some ⟨b, o, none⟩ ∧ ∀ j u, news[j]? = some u → w.cell? ⟨b, o + j, none⟩ = some u)
section
variable {w w' : World} {B : Nat} {e : TypeId} {size n c : Nat} {p : Option Addr} {xs : List Value}
theorem Sl.src (h : Sl w B e size p n c xs) : SrcOk w size p n c xs := by
  refine ⟨h.len, ?_⟩
  rcases h.cases with ⟨h1, h2, h3, _⟩ | ⟨g, sp, hp, _, hh, _⟩
  · exact .inl ⟨h1, h2, h3⟩
  · refine .inr ⟨g, 0, hp, fun j u hj => ?_⟩
    rw [Nat.zero_add, hh.cell, List.getElem?_append_left (List.getElem?_eq_some_iff.1 hj).1, hj]
theorem Sl.src_sub (h : Sl w B e size p n c xs) {lo hi : Nat} (hlo : lo ≤ hi) (hhi : hi ≤ n) : SrcOk w size (slAddr p lo c size) (hi - lo) (c - lo) ((xs.drop (lo * size)).take ((hi - lo) * size)) := by
  have hlen := h.len
  have h1 : hi * size ≤ n * size := Nat.mul_le_mul_right _ hhi
  have h2 : (hi - lo) * size = hi * size - lo * size := Nat.sub_mul _ _ _
  refine ⟨by simp [hlen, h2]; omega, ?_⟩
  rcases h.cases with ⟨rfl, rfl, rfl, _⟩ | ⟨g, sp, rfl, _, hh, hnc, _⟩
  · exact .inl ⟨by unfold slAddr; split <;> rfl, by omega, by omega⟩
  · by_cases hc : c = lo
    · refine .inr ⟨g, 0, by unfold slAddr; rw [if_pos hc], fun j u hj => ?_⟩
      have : hi - lo = 0 := by omega
      rw [this] at hj; simp at hj
    · refine .inr ⟨g, lo * size, by unfold slAddr; rw [if_neg hc]; simp [at0_mk], fun j u hj => ?_⟩
      rw [List.getElem?_take] at hj
      split at hj
      · rw [List.getElem?_drop] at hj
        rw [hh.cell, List.getElem?_append_left (List.getElem?_eq_some_iff.1 hj).1, hj]
      · cases hj
theorem Sl.pre (h : Sl w B e size p n c xs) {i : Nat} (hi : i ≤ n) : Sl w B e size p i c (xs.take (i * size)) := by
  have h1 : i * size ≤ n * size := Nat.mul_le_mul_right _ hi
  refine ⟨by rw [List.length_take, h.len]; omega, ?_⟩
  rcases h.2 with ⟨h0, h2⟩ | ⟨g, cap, cur, hv, hb, hg, hnc, hcm, hcs, ht⟩
  · injection h0 with h0 _ h3; subst h0 h3; exact .inl ⟨by rw [show i = 0 by omega], by omega⟩
  · injection hv with h1 h2 h3; subst h1 h3
    refine .inr ⟨g, c, cur, rfl, hb, hg, by omega, hcm, hcs, ?_⟩
    rw [← ht, List.take_take, Nat.min_eq_left (by assumption)]
theorem Sl.set (h : Sl w B e size p n c xs) {g i : Nat} (hp : p = some ⟨g, 0, none⟩) {v : Value} (hi : i < xs.length) : Sl (w.setCell ⟨g, i, none⟩ v) B e size p n c (xs.set i v) := by
  refine ⟨by simp [h.len], ?_⟩
  rcases h.2 with ⟨h0, h2⟩ | ⟨g', cap, cur, hv, hb, hg, hnc, hcm, hcs, ht⟩
  · injection h0 with h0; rw [h0] at hp; cases hp
  · injection hv with h1 h2 h3
    rw [h1] at hp; injection hp with hp; injection hp with hp; subst hp
    refine .inr ⟨g', cap, cur.setIfInBounds i v, by rw [h1, h3], hb, ?_, hnc, hcm, by simpa using hcs, ?_⟩
    · simp only [World.setCell, Array.getElem?_modify, hg]; simp
    · rw [← ht, Array.toList_setIfInBounds]; rw [List.take_set]
theorem Sl.st (h : Sl w B e size p n c xs) {g i : Nat} (hp : p = some ⟨g, 0, none⟩) {v : Value} (hi : i < xs.length) (h1 : v.oneCell' = true) {K : World → Prop}
    (k : ∀ w', Sl w' B e size p n c (xs.set i v) → Fr (On p) w w' → w'.heap.size = w.heap.size → K w') : St w ⟨g, i, none⟩ v K := by
  obtain ⟨b, o, hb, hc⟩ := h.rd i _ (List.getElem?_eq_getElem hi)
  rw [hp] at hb; injection hb with hb; injection hb with hb1 hb2; subst hb1 hb2
  rw [Nat.zero_add] at hc
  have hfz : w.frozen? ⟨g, i, none⟩ = false := by
    rcases h.cases with ⟨h0, _⟩ | ⟨g', sp, h0, _, hh, _⟩
    · rw [h0] at hp; cases hp
    · rw [h0] at hp; injection hp with hp; injection hp with hp; subst hp; exact hh.frozen
  refine ⟨⟨_, hc⟩, hfz, h1, k _ (h.set hp hi) ⟨rfl, rfl, rfl, by rw [size_setCell]; exact Nat.le_refl _, fun b _ hn => heap_setCell _ _ _ _ fun e => hn ?_⟩ (size_setCell _ _ _)⟩
  exact ⟨_, hp, e.symm⟩
end
theorem Sl.le {w : World} {B : Nat} {e : TypeId} {size n c : Nat} {p : Option Addr} {xs : List Value} (h : Sl w B e size p n c xs) : n ≤ c := by
  rcases h.cases with ⟨_, h1, h2, _⟩ | ⟨g, sp, _, _, _, h, _⟩ <;> omega
theorem append_src {t e ty : TypeId} {z : Value} {size bytes : Nat} (E : ElemT P t e z size bytes) {w : World} {K : Value → World → Prop} {B : Nat}
    {p : Option Addr} {n c : Nat} {xs : List Value} (h : Sl w B e size p n c xs) (hB : B ≤ w.heap.size)
    {q : Option Addr} {m c' : Nat} {news : List Value} (hs : SrcOk w size q m c' news) (h1 : ∀ u ∈ news, u.oneCell' = true)
    (h63 : n + m ≤ maxLen) (hbytes : (n + m) * bytes ≤ 140737488355328)
    (k : ∀ p' c' w', Sl w' B e size p' (n + m) c' (xs ++ news) → Fr (On p) w w' → (∀ b, On p' b → On p b ∨ w.heap.size ≤ b) → K (.slice p' (n + m) c') w') :
    RunV P (Builtin.append_ #[t, t] ty #[.slice p n c, .slice q m c']) w K := by
  rcases hs.2 with ⟨rfl, rfl, rfl⟩ | ⟨b, o, rfl, hx⟩
  · have hn : news = [] := by have := hs.1; simpa using this
    subst hn
    have hi := E.info
    cases hinf : P.info? e with
    | none => rw [hinf] at hi; cases hi
    | some i =>
      rw [hinf] at hi
      simp only [Option.map_some, Option.some.injEq, Prod.mk.injEq] at hi
      refine ⟨_, _, run_append_owned_none (ty := ty) w B t e i size E.und hinf (.slice p n c) n xs h, ?_⟩
      have := k p c w (by simpa using h) (Fr.refl _ _) (fun b hb => .inl hb)
      simpa using this
  · exact append_sl E h hB hx hs.1 h1 h63 hbytes k
theorem make_sl {t e : TypeId} {z : Value} {size bytes : Nat} (E : ElemT P t e z size bytes) {w : World} {K : Value → World → Prop} (B : Nat) (hB : B ≤ w.heap.size) (c : Nat) (hc : c ≤ maxLen) (hbytes : bytes * c ≤ 281474976710656)
    (k : ∀ p w', Sl w' B e size p 0 c [] → Fr0 w w' → (∀ b, On p b → w.heap.size ≤ b) → K (.slice p 0 c) w') :
    RunV P (Instr.makeSlice t (.int .i64 0) (.int .i64 (c : Int))) w K := by
  have hi := E.info
  cases hinf : P.info? e with
  | none => rw [hinf] at hi; cases hi
  | some i =>
    rw [hinf] at hi
    simp only [Option.map_some, Option.some.injEq, Prod.mk.injEq] at hi
    obtain ⟨hz, hs, hb⟩ := hi
    obtain ⟨w', hrun, how, hgr⟩ := run_make_own (P := P) w B t e i z size E.und hinf hz hs .i64 .i64 c (by rw [hb]; exact hbytes) hc hB
    refine ⟨_, w', hrun, k _ w' how ⟨hgr.os, hgr.output, hgr.tape, hgr.size, fun b hb _ => hgr.block b hb (by simp)⟩ ?_⟩
    rintro b ⟨a, ha, rfl⟩
    injection ha with ha; subst ha; exact Nat.le_refl _
theorem flat_len {α : Type} {g : α → List Value} {size : Nat} (hg : ∀ x, (g x).length = size) (l : List α) : (l.flatMap g).length = l.length * size := by
  induction l with
  | nil => simp
  | cons x r ih => simp [List.flatMap_cons, ih, hg, Nat.add_mul, Nat.add_comm]
theorem flat_get {α : Type} {g : α → List Value} {size : Nat} (hg : ∀ x, (g x).length = size) : ∀ (l : List α) (i j : Nat), j < size → ∀ x, l[i]? = some x → (l.flatMap g)[i * size + j]? = (g x)[j]?
  | [], i, j, _, x, hx => by simp at hx
  | y :: r, 0, j, hj, x, hx => by
    simp at hx; subst hx
    rw [List.flatMap_cons, Nat.zero_mul, Nat.zero_add, List.getElem?_append_left (by rw [hg]; exact hj)]
  | y :: r, i + 1, j, hj, x, hx => by
    simp only [List.getElem?_cons_succ] at hx
    rw [List.flatMap_cons, List.getElem?_append_right (by rw [hg, Nat.add_mul]; omega), hg]
    rw [show (i + 1) * size + j - size = i * size + j by rw [Nat.add_mul]; omega]
    exact flat_get hg r i j hj x hx
theorem flat_set {α : Type} {g : α → List Value} {size : Nat} (hg : ∀ x, (g x).length = size) {v : Value} : ∀ (l : List α) (i j : Nat), j < size → ∀ x y, l[i]? = some x → g y = (g x).set j v → (l.flatMap g).set (i * size + j) v = (l.set i y).flatMap g
  | [], i, j, _, x, y, hx, _ => by simp at hx
  | a :: r, 0, j, hj, x, y, hx, hy => by
    simp at hx; subst hx
    rw [List.flatMap_cons, Nat.zero_mul, Nat.zero_add, List.set_append_left _ _ (by rw [hg]; exact hj), List.set_cons_zero, List.flatMap_cons, hy]
  | a :: r, i + 1, j, hj, x, y, hx, hy => by
    simp only [List.getElem?_cons_succ] at hx
    rw [List.flatMap_cons, List.set_append_right _ _ (by rw [hg, Nat.add_mul]; omega), hg]
    rw [show (i + 1) * size + j - size = i * size + j by rw [Nat.add_mul]; omega]
    rw [flat_set hg r i j hj x y hx hy, List.set_cons_succ, List.flatMap_cons]
theorem flat_take {α : Type} {g : α → List Value} {size : Nat} (hg : ∀ x, (g x).length = size) : ∀ (l : List α) (i : Nat), (l.flatMap g).take (i * size) = (l.take i).flatMap g
  | [], i => by simp
  | a :: r, 0 => by simp
  | a :: r, i + 1 => by
    rw [List.flatMap_cons, List.take_append, hg, List.take_succ_cons, List.flatMap_cons, List.take_of_length_le (by rw [hg, Nat.add_mul]; omega)]
    rw [show (i + 1) * size - size = i * size by rw [Nat.add_mul]; omega, flat_take hg r i]
theorem flat_drop {α : Type} {g : α → List Value} {size : Nat} (hg : ∀ x, (g x).length = size) : ∀ (l : List α) (i : Nat), (l.flatMap g).drop (i * size) = (l.drop i).flatMap g
  | [], i => by simp
  | a :: r, 0 => by simp
  | a :: r, i + 1 => by
    rw [List.flatMap_cons, List.drop_append, hg, List.drop_succ_cons, List.drop_of_length_le (by rw [hg, Nat.add_mul]; omega)]
    rw [show (i + 1) * size - size = i * size by rw [Nat.add_mul]; omega, flat_drop hg r i, List.nil_append]
end Go.Sh
namespace Go.Proofs.YtmgjicnipgdjhaaGreatDoor
open Go Go.Sh Go.Fr
structure Qr where
  f : Nat
  u : Nat → Bool
def Qr.set (q : Qr) (k : Nat) (v : Bool) : Qr := ⟨q.f, fun j => if j = k then v else q.u j⟩
def Qr.new (f : Nat) : Qr := ⟨f, fun k => decide (k = 0)⟩
def Qr.tabs (q : Qr) (k : Nat) : List Nat := ((List.range k).filter q.u).map fun k => 4 * q.f + k
def tabs (l : List Qr) : List Nat := l.flatMap fun q => q.tabs 4
def qCells (q : Qr) : List Value := [.int .i64 ((q.f : Nat) : Int), .bool (q.u 0), .bool (q.u 1), .bool (q.u 2), .bool (q.u 3)]
def qsCells (l : List Qr) : List Value := l.flatMap qCells
def i64n (l : List Nat) : List Value := l.map fun n => Value.int .i64 ((n : Nat) : Int)
structure SlabOk (l : List Qr) : Prop where
  lt : ∀ q ∈ l, q.f < 268435456
  rise : l.Pairwise fun a b => a.f < b.f
  any : ∀ q ∈ l, ∃ k, k < 4 ∧ q.u k = true
structure SlabAt (w : World) (s b : Nat) (g : Option Addr) (c : Nat) (l : List Qr) : Prop where
  st : Has w s [.pointer (some ⟨b, 0, none⟩), .slice g l.length c]
  sl : Sl w 0 222 5 g l.length c (qsCells l)
  ne : ¬ On g s
  ok : SlabOk l
theorem E78 : ElemT prog 217 222 (.agg #[.int .i64 0, .bool false, .bool false, .bool false, .bool false]) 5 16 := ⟨by kernel_rfl, by kernel_rfl, rfl, by decide⟩
theorem SlabAt.fr {S : Nat → Prop} {w w' : World} {s b c : Nat} {g : Option Addr} {l : List Qr} (h : SlabAt w s b g c l) (f : Fr S w w') (h1 : ¬ S s) (h2 : ∀ x, On g x → ¬ S x) : SlabAt w' s b g c l :=
  ⟨h.st.fr f h1, h.sl.fr f h2, h.ne, h.ok⟩
theorem SlabAt.fr0 {w w' : World} {s b c : Nat} {g : Option Addr} {l : List Qr} (h : SlabAt w s b g c l) (f : Fr0 w w') : SlabAt w' s b g c l := h.fr f (fun h => h) fun _ _ h => h
theorem SlabAt.qt {w w' : World} {s b c : Nat} {g : Option Addr} {l : List Qr} (h : SlabAt w s b g c l) (f : Qt w w') : SlabAt w' s b g c l := h.fr0 f.fr
theorem q_len (q : Qr) : (qCells q).length = 5 := rfl
theorem q_get {l : List Qr} {i : Nat} {q : Qr} (h : l[i]? = some q) (sp : List Value) (j : Nat) (hj : j < 5) : (qsCells l ++ sp)[i * 5 + j]? = (qCells q)[j]? := by
  rw [List.getElem?_append_left (by rw [qsCells, flat_len q_len]; have := (List.getElem?_eq_some_iff.1 h).1; omega)]
  exact flat_get q_len l i j hj q h
theorem q_get0 {l : List Qr} {i : Nat} {q : Qr} (h : l[i]? = some q) (sp : List Value) : (qsCells l ++ sp)[i * 5]? = some (.int .i64 ((q.f : Nat) : Int)) := q_get h sp 0 (by decide)
theorem q_getk {l : List Qr} {i : Nat} {q : Qr} (h : l[i]? = some q) (sp : List Value) (k : Nat) (hk : k < 4) : (qsCells l ++ sp)[i * 5 + 1 + k]? = some (.bool (q.u k)) := by
  rw [Nat.add_assoc, q_get h sp (1 + k) (by omega)]
  rcases k with _ | _ | _ | _ | k
  · rfl
  · rfl
  · rfl
  · rfl
  · omega
theorem rise_len : ∀ {l : List Qr} {m N : Nat}, (∀ q ∈ l, m ≤ q.f ∧ q.f < N) → l.Pairwise (fun a b => a.f < b.f) → l.length ≤ N - m
  | [], m, N, _, _ => by simp
  | q :: r, m, N, h, hp => by
    have h1 := h q (by simp)
    obtain ⟨h2, h3⟩ := List.pairwise_cons.1 hp
    have := rise_len (l := r) (m := q.f + 1) (N := N) (fun x hx => ⟨h2 x hx, (h x (by simp [hx])).2⟩) h3
    simp only [List.length_cons]; omega
theorem SlabOk.len {l : List Qr} (h : SlabOk l) : l.length ≤ 268435456 := rise_len (fun q hq => ⟨Nat.zero_le _, h.lt q hq⟩) h.rise
theorem f119 {w : World} {s b c : Nat} {g : Option Addr} {l : List Qr} (hS : SlabAt w s b g c l) :
    Ret prog 119 #[.pointer (some ⟨s, 0, none⟩)] w fun v w' => ∃ q d, v = .slice q l.length d ∧ Sl w' w.heap.size 3 1 q l.length d (i64n (l.map Qr.f)) ∧ Fr0 w w' := by
  have hN := hS.ok.len
  refine F119_of _ _ _ ?_
  unfold F119; try dsimp only [Libbbb, S_5, Uis, lb_, li_, ls_, ui_, us_]
  simp only [at0_mk, Nat.zero_add]
  refine hS.st.ld rfl ?_
  rw [AsSl_slice]
  refine Loop.by (fun s w' => ∃ (i : Nat) (q : Option Addr) (d : Nat), s = [.int .i64 (i : Int), .slice q i d] ∧ i ≤ l.length ∧ Sl w' w.heap.size 3 1 q i d (i64n ((l.take i).map Qr.f)) ∧ Fr0 w w')
    (fun s _ => match s with | [.int _ k, _] => l.length - k.toNat | _ => 0)
    ⟨0, none, 0, rfl, by omega, Sl.nil _ _ _ _, Fr.refl _ _⟩ ?_
  rintro _ w1 ⟨i, q, d, rfl, hi, hsl, hf⟩
  simp only [UnC_cons, UnN_nil, AsI_int, AsSl_slice]
  refine BIf_cases (fun hlt => ?_) (fun hge => ?_)
  · have hil : i < l.length := by omega
    obtain ⟨x, hx⟩ : ∃ x, l[i]? = some x := ⟨_, List.getElem?_eq_getElem hil⟩
    have hxm : x ∈ l := List.mem_of_getElem? hx
    obtain ⟨gb, sp, rfl, _, hh⟩ := (hS.sl.fr0 hf).some_ (by omega)
    simp only [NilP_some, at0_mk, Nat.zero_add, Int.toNat_natCast]
    refine ⟨by omega, by omega, ?_⟩
    refine hh.ld (q_get0 hx sp) ?_
    rw [AsI_int]
    refine hh.ld (q_get hx sp 1 (by decide)) ?_
    rw [AsB_bool]
    refine hh.ld (q_get hx sp 2 (by decide)) ?_
    rw [AsB_bool]
    refine hh.ld (q_get hx sp 3 (by decide)) ?_
    rw [AsB_bool]
    refine hh.ld (q_get hx sp 4 (by decide)) ?_
    rw [AsB_bool]
    refine New.mk fun w2 n2 f2 s2 => ?_
    simp only [at0_mk, Nat.zero_add]
    refine n2.st (by simp) rfl fun w3 n3 f3 s3 => ?_
    refine n3.st (by simp) rfl fun w4 n4 f4 s4 => ?_
    refine n4.st (by simp) rfl fun w5 n5 f5 s5 => ?_
    refine n5.st (by simp) rfl fun w6 n6 f6 s6 => ?_
    refine n6.st (by simp) rfl fun w7 n7 f7 s7 => ?_
    refine n7.ld rfl ?_
    rw [AsI_int]
    have hf7 : Fr0 w1 w7 := (((((f2.mono fun _ _ h => h.elim).trans f3).trans f4).trans f5).trans f6 |>.trans f7).mono fun x hx h => by omega
    refine push_sl E38 (by decide) (hsl.fr0 hf7) (by have := hf.size; have := hf7.size; omega) rfl (by intro u hu; simp [Value.cells] at hu; subst hu; rfl) (by simp only [maxLen]; omega) (by omega) ?_
    intro p' c' w8 hsl8 hf8 hon8
    rw [AsSl_slice, w64 (n := (i : Int) + 1) (by omega) (by omega)]
    refine ⟨⟨i + 1, p', c', rfl, by omega, ?_, (hf.trans hf7).own hf8 (fun b hb hlt => by have := (hsl.lt b hb).1; omega)⟩, ?_⟩
    · have e : i64n ((l.take (i + 1)).map Qr.f) = i64n ((l.take i).map Qr.f) ++ [.int .i64 ((x.f : Nat) : Int)] := by
        rw [List.take_add_one, hx]; simp [i64n]
      rw [e]; exact hsl8
    · show l.length - ((i : Int) + 1).toNat < l.length - (i : Int).toNat
      omega
  · obtain rfl : i = l.length := by omega
    rw [List.take_length] at hsl
    exact ⟨q, d, rfl, hsl, hf⟩
theorem Qr.tabs_len (q : Qr) (k : Nat) : (q.tabs k).length ≤ k := by
  unfold Qr.tabs
  rw [List.length_map]
  have := List.length_filter_le q.u (List.range k)
  simpa using this
theorem tabs_len : ∀ (l : List Qr), (tabs l).length ≤ 4 * l.length
  | [] => by simp [tabs]
  | q :: r => by
    have h1 := tabs_len r
    have h2 := q.tabs_len 4
    simp only [tabs, List.flatMap_cons, List.length_append, List.length_cons] at *
    omega
theorem Qr.tabs_succ (q : Qr) (k : Nat) : q.tabs (k + 1) = q.tabs k ++ (if q.u k then [4 * q.f + k] else []) := by
  unfold Qr.tabs
  rw [List.range_succ, List.filter_append, List.map_append]
  congr 1
  by_cases h : q.u k <;> simp [h]
theorem tabs_take {l : List Qr} {i : Nat} {x : Qr} (h : l[i]? = some x) : tabs (l.take (i + 1)) = tabs (l.take i) ++ x.tabs 4 := by
  rw [List.take_add_one, h]; simp [tabs, List.flatMap_append]
theorem f59 {w : World} {s b c : Nat} {g : Option Addr} {l : List Qr} (hS : SlabAt w s b g c l) :
    Ret prog 59 #[.pointer (some ⟨s, 0, none⟩)] w fun v w' => ∃ q d, v = .slice q (tabs l).length d ∧ Sl w' w.heap.size 3 1 q (tabs l).length d (i64n (tabs l)) ∧ Fr0 w w' := by
  have hN := hS.ok.len
  refine F59_of _ _ _ ?_
  unfold F59; try dsimp only [Lbbbb, Libbbb, S_5, Uis, lb_, li_, ls_, ui_, us_]
  simp only [at0_mk, Nat.zero_add]
  refine hS.st.ld rfl ?_
  rw [AsSl_slice]
  refine Loop.by (fun s w' => ∃ (i : Nat) (q : Option Addr) (d : Nat), s = [.int .i64 (i : Int), .slice q (tabs (l.take i)).length d] ∧ i ≤ l.length ∧ Sl w' w.heap.size 3 1 q (tabs (l.take i)).length d (i64n (tabs (l.take i))) ∧ Fr0 w w')
    (fun s _ => match s with | [.int _ k, _] => l.length - k.toNat | _ => 0)
    ⟨0, none, 0, rfl, by omega, Sl.nil _ _ _ _, Fr.refl _ _⟩ ?_
  rintro _ w1 ⟨i, q, d, rfl, hi, hsl, hf⟩
  simp only [UnC_cons, UnN_nil, AsI_int, AsSl_slice]
  refine BIf_cases (fun hlt => ?_) (fun hge => ?_)
  · have hil : i < l.length := by omega
    obtain ⟨x, hx⟩ : ∃ x, l[i]? = some x := ⟨_, List.getElem?_eq_getElem hil⟩
    have hxm : x ∈ l := List.mem_of_getElem? hx
    have hxf := hS.ok.lt x hxm
    obtain ⟨gb, sp, rfl, _, hh⟩ := (hS.sl.fr0 hf).some_ (by omega)
    simp only [NilP_some, at0_mk, Nat.zero_add, Int.toNat_natCast]
    refine ⟨by omega, by omega, ?_⟩
    refine hh.ld (q_get0 hx sp) ?_
    rw [AsI_int]
    refine hh.ld (q_get hx sp 1 (by decide)) ?_
    rw [AsB_bool]
    refine hh.ld (q_get hx sp 2 (by decide)) ?_
    rw [AsB_bool]
    refine hh.ld (q_get hx sp 3 (by decide)) ?_
    rw [AsB_bool]
    refine hh.ld (q_get hx sp 4 (by decide)) ?_
    rw [AsB_bool]
    refine New.mk fun w2 n2 f2 s2 => ?_
    simp only [at0_mk, Nat.zero_add]
    refine n2.st (by simp) rfl fun w3 n3 f3 s3 => ?_
    refine n3.st (by simp) rfl fun w4 n4 f4 s4 => ?_
    refine n4.st (by simp) rfl fun w5 n5 f5 s5 => ?_
    refine n5.st (by simp) rfl fun w6 n6 f6 s6 => ?_
    refine n6.st (by simp) rfl fun w7 n7 f7 s7 => ?_
    replace n7 : Has w7 w1.heap.size (qCells x) := n7
    refine n7.ld rfl ?_
    rw [AsB_bool]
    refine n7.ld rfl ?_
    rw [AsB_bool]
    refine n7.ld rfl ?_
    rw [AsB_bool]
    refine n7.ld rfl ?_
    rw [AsB_bool]
    have hf7 : Fr0 w1 w7 := (((((f2.mono fun _ _ h => h.elim).trans f3).trans f4).trans f5).trans f6 |>.trans f7).mono fun x hx h => by omega
    have hsz7 : w1.heap.size < w7.heap.size := by omega
    have htl := tabs_len (l.take i)
    rw [List.length_take, Nat.min_eq_left (by omega)] at htl
    refine Loop.by (fun s w' => ∃ (k : Nat) (q : Option Addr) (d : Nat), s = [.int .i64 (k : Int), .slice q (tabs (l.take i) ++ x.tabs k).length d] ∧ k ≤ 4 ∧ Sl w' w.heap.size 3 1 q (tabs (l.take i) ++ x.tabs k).length d (i64n (tabs (l.take i) ++ x.tabs k)) ∧ Fr0 w w' ∧
        Has w' w1.heap.size (qCells x) ∧ ¬ On q w1.heap.size ∧ w1.heap.size < w'.heap.size)
      (fun s _ => match s with | [.int _ k, _] => 4 - k.toNat | _ => 0)
      ⟨0, q, d, by simp [Qr.tabs], by omega, by simpa [Qr.tabs] using hsl.fr0 hf7, hf.trans hf7, n7, fun h => by have := (hsl.lt _ h).2; omega, hsz7⟩ ?_
    rintro _ w8 ⟨k, q1, d1, rfl, hk, hsl1, hf1, hn1, hon1, hsz1⟩
    simp only [UnC_cons, UnN_nil, AsI_int, AsSl_slice]
    have hkl := x.tabs_len k
    refine BIf_cases (fun hlt => ?_) (fun hge => ?_)
    · have hk4 : k < 4 := by omega
      refine Join.triv ?_
      simp only [Int.toNat_natCast, Nat.mul_one]
      refine ⟨by omega, by omega, .bool (x.u k), ?_, ?_⟩
      · rcases k with _ | _ | _ | _ | k
        · rfl
        · rfl
        · rfl
        · rfl
        · omega
      rw [AsB_bool]
      refine BIf_b (fun hu => ?_) (fun hu => ?_)
      · refine hn1.ld rfl ?_
        rw [AsI_int, w64 (n := (4 : Int) * ((x.f : Nat) : Int)) (by omega) (by omega), w64 (n := (4 : Int) * ((x.f : Nat) : Int) + (k : Int)) (by omega) (by omega)]
        refine push_sl E38 (by decide) hsl1 hf1.size rfl (by intro u hu; simp [Value.cells] at hu; subst hu; rfl) (by simp only [maxLen, List.length_append]; omega) (by simp only [List.length_append]; omega) ?_
        intro p' c' w9 hsl9 hf9 hon9
        simp only [UnC_cons, UnN_nil, AsSl_slice]
        rw [w64 (n := (k : Int) + 1) (by omega) (by omega)]
        have e : tabs (l.take i) ++ x.tabs (k + 1) = (tabs (l.take i) ++ x.tabs k) ++ [4 * x.f + k] := by rw [x.tabs_succ, if_pos hu, List.append_assoc]
        refine ⟨⟨k + 1, p', c', by rw [e]; simp [Nat.add_assoc], by omega, ?_, hf1.own hf9 (fun b hb hlt => by have := (hsl1.lt b hb).1; omega), hn1.fr hf9 hon1, ?_, by have := hf9.size; omega⟩, ?_⟩
        · rw [e, List.length_append]
          have : i64n ((tabs (l.take i) ++ x.tabs k) ++ [4 * x.f + k]) = i64n (tabs (l.take i) ++ x.tabs k) ++ [.int .i64 (4 * ((x.f : Nat) : Int) + ((k : Nat) : Int))] := by simp [i64n]
          rw [this]; exact hsl9
        · intro h
          rcases hon9 _ h with h | h
          · exact hon1 h
          · omega
        · show 4 - ((k : Int) + 1).toNat < 4 - (k : Int).toNat
          omega
      · simp only [UnC_cons, UnN_nil, AsSl_slice]
        rw [w64 (n := (k : Int) + 1) (by omega) (by omega)]
        have e : tabs (l.take i) ++ x.tabs (k + 1) = (tabs (l.take i) ++ x.tabs k) := by rw [x.tabs_succ, hu]; simp
        refine ⟨⟨k + 1, q1, d1, by rw [e]; rfl, by omega, by rw [e]; exact hsl1, hf1, hn1, hon1, hsz1⟩, ?_⟩
        show 4 - ((k : Int) + 1).toNat < 4 - (k : Int).toNat
        omega
    · obtain rfl : k = 4 := by omega
      rw [w64 (n := (i : Int) + 1) (by omega) (by omega)]
      refine ⟨⟨i + 1, q1, d1, by rw [tabs_take hx]; rfl, by omega, by rw [tabs_take hx]; exact hsl1, hf1⟩, ?_⟩
      show l.length - ((i : Int) + 1).toNat < l.length - (i : Int).toNat
      omega
  · obtain rfl : i = l.length := by omega
    rw [List.take_length] at hsl ⊢
    exact ⟨q, d, rfl, hsl, hf⟩
theorem qs_one {l : List Qr} : ∀ u ∈ qsCells l, u.oneCell' = true := by
  intro u hu
  obtain ⟨q, _, hq⟩ := List.mem_flatMap.1 hu
  simp only [qCells, List.mem_cons, List.not_mem_nil, or_false] at hq
  rcases hq with rfl | rfl | rfl | rfl | rfl <;> rfl
def insq (f : Nat) : List Qr → List Qr
  | [] => [Qr.new f]
  | q :: r => if q.f < f then q :: insq f r else Qr.new f :: q :: r
theorem insq_at (f : Nat) : ∀ (l : List Qr) (k : Nat), (∀ q ∈ l.take k, q.f < f) → (∀ q, l[k]? = some q → ¬ q.f < f) → k ≤ l.length → insq f l = l.take k ++ Qr.new f :: l.drop k
  | [], k, _, _, hk => by simp at hk; subst hk; rfl
  | q :: r, 0, _, h, _ => by
    have := h q (by simp)
    simp [insq, this]
  | q :: r, k + 1, h1, h2, hk => by
    have h3 := h1 q (by simp)
    have := insq_at f r k (fun x hx => h1 x (by simp [hx])) (fun x hx => h2 x (by simpa using hx)) (by simpa using hk)
    simp [insq, h3, this]
theorem rise_drop {f : Nat} : ∀ {l : List Qr} {k : Nat}, l.Pairwise (fun a b => a.f < b.f) → (∀ q, l[k]? = some q → f < q.f) → ∀ q ∈ l.drop k, f < q.f
  | [], k, _, _, q, hq => by simp at hq
  | x :: r, 0, hp, h, q, hq => by
    have h0 := h x (by simp)
    simp at hq
    rcases hq with rfl | hq
    · exact h0
    · have := (List.pairwise_cons.1 hp).1 q hq; omega
  | x :: r, k + 1, hp, h, q, hq => rise_drop (List.pairwise_cons.1 hp).2 (fun y hy => h y (by simpa using hy)) q (by simpa using hq)
theorem SlabOk.ins {l : List Qr} (h : SlabOk l) {f k : Nat} (hf : f < 268435456) (h1 : ∀ q ∈ l.take k, q.f < f) (h2 : ∀ q ∈ l.drop k, f < q.f) : SlabOk (l.take k ++ Qr.new f :: l.drop k) := by
  refine ⟨fun q hq => ?_, ?_, fun q hq => ?_⟩
  · simp only [List.mem_append, List.mem_cons] at hq
    rcases hq with hq | rfl | hq
    · exact h.lt q (List.mem_of_mem_take hq)
    · exact hf
    · exact h.lt q (List.mem_of_mem_drop hq)
  · rw [List.pairwise_append]
    refine ⟨h.rise.sublist (List.take_sublist _ _), List.pairwise_cons.2 ⟨h2, h.rise.sublist (List.drop_sublist _ _)⟩, fun a ha b hb => ?_⟩
    have := h1 a ha
    simp only [List.mem_cons] at hb
    rcases hb with rfl | hb
    · exact this
    · have := h2 b hb; omega
  · simp only [List.mem_append, List.mem_cons] at hq
    rcases hq with hq | rfl | hq
    · exact h.any q (List.mem_of_mem_take hq)
    · exact ⟨0, by decide, rfl⟩
    · exact h.any q (List.mem_of_mem_drop hq)
def F120tail (s0 : Addr) (i65 i56 : Int) (w62 : World) (Q : Value → World → Prop) : Prop :=
  Ld w62 (at0 s0 (1 : Nat)) fun v115 => AsSl v115 fun p116 n117 n118 => RunV prog (Instr.makeSlice (217 : Nat) (.int .i64 (0 : Int)) (.int .i64 (IntKind.i64.wrap ((↑n117 : Int) + (1 : Int))))) w62 fun v119 w120 => AsSl v119 fun p121 n122 n123 => Ld w120 (at0 s0 (1 : Nat)) fun v124 => AsSl v124 fun p125 n126 n127 => (0 : Int) ≤ i65 ∧ i65 ≤ (↑n127 : Int) ∧ RunV prog (Builtin.append_ #[(217 : Nat), (217 : Nat)] (217 : Nat) #[Value.slice p121 n122 n123, Value.slice (slAddr p125 (0 : Nat) n127 (5 : Nat)) (i65.toNat - (0 : Nat)) (n127 - (0 : Nat))]) w120 fun v128 w129 => AsSl v128 fun p130 n131 n132 => RunV prog (Instr.buildSlice (217 : Nat) (1 : Nat) #[((0 : Nat), Value.agg #[.int .i64 i56, .bool true, .bool false, .bool false, .bool false])]) w129 fun v133 w134 => AsSl v133 fun p135 n136 n137 => RunV prog (Builtin.append_ #[(217 : Nat), (217 : Nat)] (217 : Nat) #[Value.slice p130 n131 n132, Value.slice p135 n136 n137]) w134 fun v138 w139 => AsSl v138 fun p140 n141 n142 => Ld w139 (at0 s0 (1 : Nat)) fun v143 => AsSl v143 fun p144 n145 n146 => (0 : Int) ≤ i65 ∧ i65 ≤ (↑n145 : Int) ∧ RunV prog (Builtin.append_ #[(217 : Nat), (217 : Nat)] (217 : Nat) #[Value.slice p140 n141 n142, Value.slice (slAddr p144 i65.toNat n146 (5 : Nat)) (n145 - i65.toNat) (n146 - i65.toNat)]) w139 fun v147 w148 => AsSl v147 fun p149 n150 n151 => St w148 (at0 s0 (1 : Nat)) (Value.slice p149 n150 n151) fun w152 => Q (Value.tuple #[.int .i64 (IntKind.i64.wrap ((4 : Int) * i56)), .int .i64 (0 : Int)]) w152
theorem f30tail {w : World} {s b c : Nat} {g : Option Addr} {l : List Qr} (hS : SlabAt w s b g c l) (at_ f : Nat) (hat : at_ ≤ l.length) (hlt : ∀ q ∈ l.take at_, q.f < f) (hge : ∀ q ∈ l.drop at_, f < q.f) (hf : f < 268435456)
    {Q : Value → World → Prop} (k : ∀ g' c' w', SlabAt w' s b g' c' (l.take at_ ++ Qr.new f :: l.drop at_) → Fr (fun x => x = s) w w' → (∀ x, On g' x → w.heap.size ≤ x) → Q (.tuple #[.int .i64 (4 * (f : Int)), .int .i64 0]) w') :
    F120tail ⟨s, 0, none⟩ (at_ : Int) (f : Int) w Q := by
  have hN := hS.ok.len
  have hsl := hS.st.lt
  have hle := hS.sl.le
  unfold F120tail
  simp only [at0_mk, Nat.zero_add]
  refine hS.st.ld rfl ?_
  rw [AsSl_slice, w64 (n := (l.length : Int) + 1) (by omega) (by omega), show (l.length : Int) + 1 = ((l.length + 1 : Nat) : Int) by omega]
  refine make_sl E78 w.heap.size (Nat.le_refl _) (l.length + 1) (by simp only [maxLen]; omega) (by omega) fun p1 w1 sl1 f1 on1 => ?_
  rw [AsSl_slice]
  refine (hS.fr0 f1).st.ld rfl ?_
  rw [AsSl_slice]
  refine ⟨by omega, by omega, ?_⟩
  simp only [Int.toNat_natCast]
  have hx1 : qsCells (l.take at_) = ((qsCells l).drop (0 * 5)).take ((at_ - 0) * 5) := by
    rw [Nat.zero_mul, List.drop_zero, Nat.sub_zero, qsCells, qsCells, flat_take q_len]
  have src1 := (hS.fr0 f1).sl.src_sub (lo := 0) (hi := at_) (by omega) hat
  rw [← hx1] at src1
  refine append_src E78 sl1 f1.size src1 qs_one (by simp only [maxLen]; omega) (by omega) fun p2 c2 w2 sl2 f2 on2 => ?_
  rw [AsSl_slice]
  have f02 : Fr0 w w2 := f1.own f2 fun x hx hl => by have := on1 x hx; omega
  refine push_sl E78 (by decide) sl2 f02.size rfl (by intro u hu; simp [Value.cells] at hu; rcases hu with rfl | rfl | rfl | rfl | rfl <;> rfl) (by simp only [maxLen]; omega) (by omega) fun p3 c3 w3 sl3 f3 on3 => ?_
  rw [AsSl_slice]
  have f03 : Fr0 w w3 := f02.own f3 fun x hx hl => by have := (sl2.lt x hx).1; omega
  refine (hS.fr0 f03).st.ld rfl ?_
  rw [AsSl_slice]
  refine ⟨by omega, by omega, ?_⟩
  have hx2 : qsCells (l.drop at_) = ((qsCells l).drop (at_ * 5)).take ((l.length - at_) * 5) := by
    rw [qsCells, qsCells, flat_drop q_len, List.take_of_length_le (by rw [flat_len q_len, List.length_drop]; omega)]
  have src2 := (hS.fr0 f03).sl.src_sub (lo := at_) (hi := l.length) hat (Nat.le_refl _)
  rw [← hx2] at src2
  refine append_src E78 sl3 f03.size src2 qs_one (by simp only [maxLen]; omega) (by omega) fun p4 c4 w4 sl4 f4 on4 => ?_
  rw [AsSl_slice]
  have f04 : Fr0 w w4 := f03.own f4 fun x hx hl => by have := (sl3.lt x hx).1; omega
  refine (hS.fr0 f04).st.st (by simp) rfl fun w5 st5 f5 s5 => ?_
  have hon4 : ∀ x, On p4 x → w.heap.size ≤ x := fun x hx => (sl4.lt x hx).1
  rw [w64 (n := (4 : Int) * (f : Int)) (by omega) (by omega)]
  have hlen : 0 + (at_ - 0) + 1 + (l.length - at_) = (l.take at_ ++ Qr.new f :: l.drop at_).length := by
    simp only [List.length_append, List.length_take, List.length_cons, List.length_drop, Nat.min_eq_left hat]; omega
  refine k p4 c4 w5 ⟨?_, ?_, fun h => by have := hon4 _ h; omega, hS.ok.ins hf hlt hge⟩ (f04.mono (fun _ _ h => h.elim) |>.trans f5) hon4
  · rw [← hlen]; exact st5
  · have := (sl4.mono (Nat.zero_le _)).fr f5 fun x hx h => by have := hon4 x hx; omega
    rw [← hlen]
    have e : qsCells (l.take at_ ++ Qr.new f :: l.drop at_) = [] ++ qsCells (l.take at_) ++ [.int .i64 ((f : Nat) : Int), .bool true, .bool false, .bool false, .bool false] ++ qsCells (l.drop at_) := by
      simp [qsCells, qCells, Qr.new]
    rw [e]; exact this
def Held (p : Pool) (l : List Qr) : Prop := ∀ q ∈ l, p.first ≤ q.f ∧ q.f < p.first + p.u.length ∧ 0 < p.u.getD (q.f - p.first) 0
inductive STake (p : Pool) (l : List Qr) : Nat → Nat → Pool → List Qr → Prop
  | old (i k : Nat) (q : Qr) (h : l[i]? = some q) (hk : k < 4) (h0 : q.u k = false) (h1 : ∀ k', k' < k → q.u k' = true) (h2 : ∀ i' q', i' < i → l[i']? = some q' → ∀ k', k' < 4 → q'.u k' = true) :
      STake p l (4 * q.f + k) 0 p (l.set i (q.set k true))
  | none (h : ∀ q ∈ l, ∀ k, k < 4 → q.u k = true) (hn : ∀ a, ¬ Fit p.first p.u 1 1 a) : STake p l 0 42 p l
  | fresh (h : ∀ q ∈ l, ∀ k, k < 4 → q.u k = true) (a : Nat) (hf : Fit p.first p.u 1 1 a) (hl : ∀ a', a' < a → ¬ Fit p.first p.u 1 1 a') :
      STake p l (4 * (p.first + a)) 0 (p.turned a (fun _ => 1) 1) (insq (p.first + a) l)
theorem badTake11 : ¬ badTake 1 1 := by
  unfold badTake
  have : pow2B (1 : Int).toNat = true := by decide
  rw [this]; simp
theorem q_set (q : Qr) (k : Nat) (hk : k < 4) (v : Bool) : qCells (q.set k v) = (qCells q).set (1 + k) (.bool v) := by
  rcases k with _ | _ | _ | _ | k
  · rfl
  · rfl
  · rfl
  · rfl
  · omega
theorem set_f {l : List Qr} {i : Nat} {q y : Qr} (h : l[i]? = some q) (hy : y.f = q.f) : (l.set i y).map Qr.f = l.map Qr.f := by
  rw [List.map_set, hy]
  apply List.ext_getElem? ; intro j
  rw [List.getElem?_set]
  split
  · rename_i e; subst e
    have hl := (List.getElem?_eq_some_iff.1 h).1
    simp [hl, (List.getElem?_eq_some_iff.1 h).2]
  · rfl
theorem SlabOk.of_f {l l' : List Qr} (h : SlabOk l) (e : l'.map Qr.f = l.map Qr.f) (hs : ∀ q ∈ l', ∃ k, k < 4 ∧ q.u k = true) : SlabOk l' := by
  refine ⟨fun q hq => ?_, ?_, hs⟩
  · have h1 : q.f ∈ l'.map Qr.f := List.mem_map_of_mem hq
    rw [e] at h1
    obtain ⟨x, hx, hx2⟩ := List.mem_map.1 h1
    rw [← hx2]; exact h.lt x hx
  · have h1 : (l.map Qr.f).Pairwise (· < ·) := List.pairwise_map.2 h.rise
    rw [← e] at h1
    exact List.pairwise_map.1 h1
theorem SlabOk.set {l : List Qr} (h : SlabOk l) {i k : Nat} {q : Qr} (hq : l[i]? = some q) (hk : k < 4) : SlabOk (l.set i (q.set k true)) := by
  refine h.of_f (set_f hq rfl) fun x hx => ?_
  rcases List.mem_or_eq_of_mem_set hx with hx | rfl
  · exact h.any x hx
  · exact ⟨k, hk, by simp [Qr.set]⟩
def OwnS (b bu bd s : Nat) (g : Option Addr) (x : Nat) : Prop := Own b bu bd x ∨ x = s ∨ On g x
theorem f120 {w : World} {b bu bd s c : Nat} {g : Option Addr} {p : Pool} {l : List Qr} (hP : PoolAt w b bu bd p) (hT : Tz w) (hd : ¬ Own b bu bd 3) (hS : SlabAt w s b g c l) (hH : Held p l)
    (hs : ¬ Own b bu bd s) (hg : ∀ x, On g x → ¬ Own b bu bd x) :
    Ret prog 120 #[.pointer (some ⟨s, 0, none⟩)] w fun v w' => ∃ (r e : Nat) (p' : Pool) (l' : List Qr) (g' : Option Addr) (c' : Nat), v = .tuple #[.int .i64 (r : Int), .int .i64 (e : Int)] ∧ STake p l r e p' l' ∧
      PoolAt w' b bu bd p' ∧ SlabAt w' s b g' c' l' ∧ Fr (OwnS b bu bd s g) w w' ∧ ∀ x, On g' x → On g x ∨ w.heap.size ≤ x := by
  have hN := hS.ok.len
  have hL := hP.ok.le
  refine F120_of _ _ _ ?_
  unfold F120; try dsimp only [Uii, Uiii, lb_, li_, lp_, ls_, ui_]
  simp only [at0_mk, Nat.zero_add]
  refine hS.st.ld rfl ?_
  rw [AsSl_slice]
  refine Loop.by (fun s w' => ∃ (i : Nat) (a b : Int), s = [.int .i64 (i : Int), .int .i64 a, .int .i64 b] ∧ i ≤ l.length ∧ w' = w ∧ ∀ i' q', i' < i → l[i']? = some q' → ∀ k', k' < 4 → q'.u k' = true)
    (fun s _ => match s with | [.int _ k, _, _] => l.length - k.toNat | _ => 0)
    ⟨0, 0, 0, rfl, by omega, rfl, fun i' q' h => by omega⟩ ?_
  rintro _ _ ⟨i, a, b', rfl, hi, hw, hfull⟩
  obtain rfl := hw.symm
  simp only [UnC_cons, UnN_nil, AsI_int]
  refine BIf_cases (fun hlt => ?_) (fun hge => ?_)
  · have hil : i < l.length := by omega
    obtain ⟨x, hx⟩ : ∃ x, l[i]? = some x := ⟨_, List.getElem?_eq_getElem hil⟩
    have hxf := hS.ok.lt x (List.mem_of_getElem? hx)
    obtain ⟨gb, sp, rfl, _, hh⟩ := hS.sl.some_ (by omega)
    refine Loop.by (fun s w' => ∃ (k : Nat) (a b : Int), s = [.int .i64 (k : Int), .int .i64 a, .int .i64 b] ∧ k ≤ 4 ∧ w' = w ∧ ∀ k', k' < k → x.u k' = true)
      (fun s _ => match s with | [.int _ k, _, _] => 4 - k.toNat | _ => 0)
      ⟨0, a, b', rfl, by omega, rfl, fun k' h => by omega⟩ ?_
    rintro _ _ ⟨k, a, b', rfl, hk, hw, hused⟩
    obtain rfl := hw.symm
    simp only [UnC_cons, UnN_nil, AsI_int]
    refine BIf_cases (fun hlt => ?_) (fun hge => ?_)
    · have hk4 : k < 4 := by omega
      refine hS.st.ld rfl ?_
      simp only [AsSl_slice, NilP_some, at0_mk, Nat.zero_add, Int.toNat_natCast, Nat.mul_one]
      refine ⟨by omega, by omega, by omega, by omega, ?_⟩
      refine hh.ld (q_getk hx sp k hk4) ?_
      rw [AsB_bool, BIf_not]
      refine BIf_b (fun hu => ?_) (fun hu => ?_)
      · rw [w64 (n := (k : Int) + 1) (by omega) (by omega)]
        refine ⟨⟨k + 1, a, b', by trivial, by omega, by trivial, fun k' hk' => ?_⟩, ?_⟩
        · by_cases e : k' = k
          · subst e; exact hu
          · exact hused k' (by omega)
        · show 4 - ((k : Int) + 1).toNat < 4 - (k : Int).toNat
          omega
      · refine hS.st.ld rfl ?_
        simp only [AsSl_slice, NilP_some, at0_mk, Nat.zero_add, Int.toNat_natCast, Nat.mul_one]
        refine ⟨by omega, by omega, by omega, by omega, ?_⟩
        refine hS.sl.st rfl (by rw [hS.sl.len]; omega) rfl fun w1 sl1 f1 s1 => ?_
        have st1 := hS.st.fr f1 hS.ne
        refine st1.ld rfl ?_
        simp only [AsSl_slice, NilP_some, at0_mk, Nat.zero_add, Int.toNat_natCast, Nat.mul_one]
        refine ⟨by omega, by omega, ?_⟩
        have e : (qsCells l).set (i * 5 + 1 + k) (.bool true) = qsCells (l.set i (x.set k true)) := by
          rw [Nat.add_assoc]; exact flat_set q_len l i (1 + k) (by omega) x _ hx (q_set x k hk4 true)
        rw [e] at sl1
        obtain ⟨gb', sp', e2, _, hh1⟩ := sl1.some_ (by omega)
        injection e2 with e2; injection e2 with e2; subst e2
        refine hh1.ld (q_get0 (q := x.set k true) (by simp [hil]) sp') ?_
        rw [AsI_int]
        show ∃ _, _
        rw [w64 (n := (4 : Int) * (((x.set k true).f : Nat) : Int)) (by show -9223372036854775808 ≤ (4 : Int) * ((x.f : Nat) : Int); omega) (by show (4 : Int) * ((x.f : Nat) : Int) ≤ 9223372036854775807; omega)]
        show ∃ _, _
        rw [w64 (n := (4 : Int) * (((x.set k true).f : Nat) : Int) + (k : Int)) (by show -9223372036854775808 ≤ (4 : Int) * ((x.f : Nat) : Int) + (k : Int); omega) (by show (4 : Int) * ((x.f : Nat) : Int) + (k : Int) ≤ 9223372036854775807; omega)]
        refine ⟨4 * x.f + k, 0, p, l.set i (x.set k true), some ⟨gb, 0, none⟩, c, ?_, .old i k x hx hk4 hu hused hfull, ?_, ⟨?_, ?_, hS.ne, hS.ok.set hx hk4⟩, f1.mono (fun _ _ h => .inr (.inr h)), fun x hx => .inl hx⟩
        · simp [Qr.set]
        · exact hP.fr f1 (fun h => hg _ h (.inl rfl)) (fun h => hg _ h (.inr (.inl rfl))) (fun h => hg _ h (.inr (.inr rfl)))
        · simpa using st1
        · simpa using sl1
    · have hk4 : k = 4 := by omega
      rw [w64 (n := (i : Int) + 1) (by omega) (by omega)]
      refine ⟨⟨i + 1, a, b', by trivial, by omega, by trivial, fun i' q' h h2 => ?_⟩, ?_⟩
      · by_cases e : i' = i
        · subst e; rw [hx] at h2; injection h2 with h2; subst h2; exact fun k' hk' => hused k' (by omega)
        · exact hfull i' q' (by omega) h2
      · show l.length - ((i : Int) + 1).toNat < l.length - (i : Int).toNat
        omega
  · obtain rfl : i = l.length := by omega
    have hall : ∀ q ∈ l, ∀ k, k < 4 → q.u k = true := by
      intro q hq
      obtain ⟨j, hj, rfl⟩ := List.getElem_of_mem hq
      exact hfull j _ hj (List.getElem?_eq_getElem hj)
    refine hS.st.ld rfl ?_
    rw [AsP_pointer]
    refine Ret.use (f46 hP hT hd 1 1 (by omega)) ?_
    rintro v w1 h
    rcases h with ⟨hb, _⟩ | ⟨_, hno, rfl, hq⟩ | ⟨_, a1, hfit, hleast, rfl, hP1, hf1⟩
    · exact absurd hb badTake11
    · simp only [AsTup_tuple, UnC_cons, UnN_nil, AsI_int]
      refine BIf_ne (fun _ => ?_) (fun h => by cases h)
      exact ⟨0, 42, p, l, g, c, rfl, .none hall hno, hP.qt hq, hS.qt hq, hq.fr, fun x hx => .inl hx⟩
    · simp only [AsTup_tuple, UnC_cons, UnN_nil, AsI_int]
      refine BIf_ne (fun h => absurd rfl h) (fun _ => ?_)
      have hS1 := hS.fr hf1 hs hg
      have ha : a1 + 1 ≤ p.u.length := hfit.2.1
      have hf28 : p.first + a1 < 268435456 := by omega
      have h0 : p.u.getD a1 0 = 0 := hfit.2.2 a1 (Nat.le_refl _) (by omega)
      have hnew : ∀ q ∈ l, q.f ≠ p.first + a1 := by
        intro q hq e
        obtain ⟨h1, h2, h3⟩ := hH q hq
        rw [e, Nat.add_sub_cancel_left, h0] at h3
        omega
      have tl : ∀ at_ : Nat, at_ ≤ l.length → (∀ q ∈ l.take at_, q.f < p.first + a1) → (∀ q, l[at_]? = some q → ¬ q.f < p.first + a1) →
          F120tail ⟨s, 0, none⟩ (at_ : Int) ((p.first + a1 : Nat) : Int) w1 fun v w' => ∃ (r e : Nat) (p' : Pool) (l' : List Qr) (g' : Option Addr) (c' : Nat), v = .tuple #[.int .i64 (r : Int), .int .i64 (e : Int)] ∧ STake p l r e p' l' ∧
            PoolAt w' b bu bd p' ∧ SlabAt w' s b g' c' l' ∧ Fr (OwnS b bu bd s g) w w' ∧ ∀ x, On g' x → On g x ∨ w.heap.size ≤ x := by
        intro at_ hat hlt hge
        refine f30tail hS1 at_ (p.first + a1) hat hlt (rise_drop hS.ok.rise fun q hq => ?_) hf28 fun g' c' w' hS' hf' hon' => ?_
        · have := hge q hq; have := hnew q (List.mem_of_getElem? hq); omega
        · refine ⟨4 * (p.first + a1), 0, _, _, g', c', by simp, .fresh hall a1 hfit hleast, hP1.fr hf' (fun h => hs (.inl h.symm)) (fun h => hs (.inr (.inl h.symm))) (fun h => hs (.inr (.inr h.symm))), ?_, ?_, ?_⟩
          · rw [insq_at _ _ at_ hlt hge hat]; exact hS'
          · exact (hf1.mono fun x _ h => .inl h).trans (hf'.mono fun x _ h => .inr (.inl h))
          · intro x hx
            have := hon' x hx; have := hf1.size
            exact .inr (by omega)
      refine Join.triv ?_
      refine Loop.by (fun s w' => ∃ (i : Nat), s = [.int .i64 (i : Int)] ∧ i ≤ l.length ∧ w' = w1 ∧ ∀ q ∈ l.take i, q.f < p.first + a1)
        (fun s _ => match s with | [.int _ k] => l.length - k.toNat | _ => 0)
        ⟨0, rfl, by omega, rfl, fun q h => by simp at h⟩ ?_
      rintro _ _ ⟨i, rfl, hi, hw, hlt⟩
      obtain rfl := hw.symm
      simp only [UnC_cons, UnN_nil, AsI_int]
      refine hS1.st.ld rfl ?_
      rw [AsSl_slice]
      refine BIf_cases (fun hil => ?_) (fun hge => ?_)
      · have hil : i < l.length := by omega
        obtain ⟨x, hx⟩ : ∃ x, l[i]? = some x := ⟨_, List.getElem?_eq_getElem hil⟩
        refine hS1.st.ld rfl ?_
        rw [AsSl_slice]
        obtain ⟨gb, sp, rfl, _, hh⟩ := hS1.sl.some_ (by omega)
        simp only [NilP_some, at0_mk, Nat.zero_add, Int.toNat_natCast]
        refine ⟨by omega, by omega, ?_⟩
        refine hh.ld (q_get0 hx sp) ?_
        rw [AsI_int]
        refine BIf_cases (fun h => ?_) (fun h => ?_)
        · rw [w64 (n := (i : Int) + 1) (by omega) (by omega)]
          refine ⟨⟨i + 1, by trivial, by omega, by trivial, fun q hq => ?_⟩, ?_⟩
          · rw [List.take_add_one, hx] at hq
            simp only [Option.toList_some, List.mem_append, List.mem_singleton] at hq
            rcases hq with hq | rfl
            · exact hlt q hq
            · omega
          · show l.length - ((i : Int) + 1).toNat < l.length - (i : Int).toNat
            omega
        · have := tl i hi hlt (fun q hq => by rw [hx] at hq; injection hq with hq; subst hq; omega)
          unfold F120tail at this
          simp only [at0_mk, Nat.zero_add, Int.toNat_natCast] at this
          exact this
      · have := tl i hi hlt (fun q hq => by have := (List.getElem?_eq_some_iff.1 hq).1; omega)
        unfold F120tail at this
        simp only [at0_mk, Nat.zero_add] at this
        exact this
end Go.Proofs.YtmgjicnipgdjhaaGreatDoor
namespace Go.Sh
variable {P : Program}
structure LeafT (P : Program) (e : TypeId) : Prop where
  plain : P.plainKey e = true
  und : (∃ k, P.underlying e = some (.int k)) ∨ P.underlying e = some .bool
def LeafT.Fits (P : Program) (e : TypeId) (a b : Value) : Prop := (∃ k k' x y, P.underlying e = some (.int k') ∧ a = .int k x ∧ b = .int k y) ∨ (∃ x y, P.underlying e = some .bool ∧ a = .bool x ∧ b = .bool y)
theorem run_leaf {e : TypeId} {a b : Value} (h : LeafT.Fits P e a b) (d : Nat) (w : World) : ∃ r : Bool, (Op.equalIn (d + 1) e a b).run P w = .ok r w ∧ (r = true ↔ a = b) := by
  rcases h with ⟨k, k', x, y, h, rfl, rfl⟩ | ⟨x, y, h, rfl, rfl⟩
  · exact ⟨_, run_equalIn_int w d e k k' x y h, by simp⟩
  · exact ⟨_, run_equalIn_bool' w d e x y h, by simp⟩
theorem run_eqItems_leaf (d : Nat) {e : TypeId} (hp : P.plainKey e = true) {c : Nat} (xs ys : Array Value) (w : World) : ∀ (is : List Nat), (∀ i ∈ is, ∃ a b, xs[i * c]? = some a ∧ ys[i * c]? = some b ∧ LeafT.Fits P e a b) →
    ∃ r : Bool, (Op.eqItems (d + 1) e c xs ys is).run P w = .ok r w ∧ (r = true ↔ ∀ i ∈ is, xs[i * c]? = ys[i * c]?)
  | [], _ => ⟨true, by simp [Op.eqItems], by simp⟩
  | f :: fs, h => by
    obtain ⟨a, b, ha, hb, hfit⟩ := h f (by simp)
    obtain ⟨r, hr, hri⟩ := run_leaf hfit d w
    obtain ⟨r', hr', hri'⟩ := run_eqItems_leaf d hp xs ys w fs fun g hg => h g (by simp [hg])
    have p1 := run_part_plain w hp ha
    have p2 := run_part_plain w hp hb
    cases r with
    | false => 
      refine ⟨false, by simp [Op.eqItems, p1, p2, hr], ?_⟩
      simp only [Bool.false_eq_true, false_iff]
      intro hall
      have := hall f (by simp)
      rw [ha, hb] at this
      injection this with this
      exact absurd (hri.2 this) (by simp)
    | true =>
      refine ⟨r', by simp [Op.eqItems, p1, p2, hr, hr'], ?_⟩
      rw [hri']
      constructor
      · intro hall g hg
        rcases List.mem_cons.1 hg with rfl | hg
        · rw [ha, hb, hri.1 rfl]
        · exact hall g hg
      · exact fun hall g hg => hall g (by simp [hg])
structure StructT (P : Program) (t : TypeId) (fs : Array Field) : Prop where
  und : P.underlying t = some (.struct fs)
  stood : P.stoodInHeld t = false
  guard : P.eqGuardType P.depth t = false
structure ArrT (P : Program) (t e : TypeId) (n : Nat) : Prop where
  und : P.underlying t = some (.array n e)
  info : (P.info? e).isSome = true
  cells : P.cellsOf e = 1
  plain : P.plainKey e = true
  guard : P.eqGuardType P.depth t = false
theorem arr_run {t e : TypeId} {n : Nat} (E : ArrT P t e n) {xs ys : Array Value} (h : ∀ i, i < n → ∃ a b, xs[i]? = some a ∧ ys[i]? = some b ∧ LeafT.Fits P e a b) (w : World) :
    ∃ r : Bool, (Op.equalIn 10000 t (.agg xs) (.agg ys)).run P w = .ok r w ∧ (r = true ↔ ∀ i, i < n → xs[i]? = ys[i]?) := by
  obtain ⟨i, hi⟩ := Option.isSome_iff_exists.1 E.info
  have h1 := run_equalIn_array (P := P) w 9999 xs ys E.und hi
  rw [E.cells] at h1
  obtain ⟨r, hr, hri⟩ := run_eqItems_leaf 9998 E.plain (c := 1) xs ys w (List.range n) fun i hi => by rw [Nat.mul_one]; exact h i (List.mem_range.1 hi)
  refine ⟨r, h1.trans hr, hri.trans ?_⟩
  simp
theorem RunP.eqlArr {t e : TypeId} {n : Nat} (E : ArrT P t e n) {x y : Operand} {xs ys : Array Value} (h : ∀ i, i < n → ∃ a b, xs[i]? = some a ∧ ys[i]? = some b ∧ LeafT.Fits P e a b)
    {K : Value → Prop} (k : ∀ r : Bool, (r = true ↔ ∀ i, i < n → xs[i]? = ys[i]?) → K (.bool r)) : RunP P (binSem .eql t x y (.agg xs) (.agg ys)) K := by
  obtain ⟨r, hr, hri⟩ := arr_run E h default
  refine ⟨.bool r, fun w => ?_, k r hri⟩
  obtain ⟨r1, hr1, hri1⟩ := arr_run E h w
  have : r1 = r := by rw [Bool.eq_iff_iff]; exact hri1.trans hri.symm
  subst this
  unfold binSem
  simp only [Sem.run_bind, run_eqGuard_agg w _ t x y xs ys E.guard, Result.andThen_ok, run_eql_struct, hr1]
end Go.Sh
namespace Go.Proofs.YtmgjicnipgdjhaaGreatDoor
open Go Go.Sh Go.Fr
theorem A84 : ArrT prog 220 4 4 := ⟨by kernel_rfl, by kernel_rfl, by kernel_rfl, by kernel_rfl, by kernel_rfl⟩
theorem und4 : prog.underlying 4 = some .bool := by kernel_rfl
theorem run_held {p : Pool} {f : Nat} (h1 : p.first ≤ f) (h2 : f < p.first + p.u.length) (h3 : 0 < p.u.getD (f - p.first) 0) : p.run (f : Int) 1 = (f - p.first, 0) := by
  have e : ((f : Int) - (p.first : Int)).toNat = f - p.first := by omega
  have hk : f - p.first < p.u.length := by omega
  obtain ⟨n1, n2, n3, n4⟩ := next_spec p.u false (f - p.first)
  have hn : f - p.first + 1 ≤ next p.u false (f - p.first) := by
    rcases Nat.lt_or_ge (f - p.first) (next p.u false (f - p.first)) with h | h
    · exact h
    · have h5 := n2 (by omega)
      have e2 : next p.u false (f - p.first) = f - p.first := by omega
      have := n3 (by omega)
      simp only [e2] at this
      rw [getD_get hk] at h3
      simp at this; omega
  unfold Pool.run
  rw [if_neg (by omega), if_neg (by omega), e, if_neg (by omega)]
inductive SDrop (p : Pool) (l : List Qr) (t : Int) : Nat → Pool → List Qr → Prop
  | none (h : ∀ q ∈ l, ∀ k : Nat, k < 4 → q.u k = true → t ≠ 4 * (q.f : Int) + k) : SDrop p l t 45 p l
  | more (i k : Nat) (q : Qr) (h : l[i]? = some q) (hk : k < 4) (hu : q.u k = true) (ht : t = 4 * (q.f : Int) + k) (hm : ∃ k', k' < 4 ∧ k' ≠ k ∧ q.u k' = true) : SDrop p l t 0 p (l.set i (q.set k false))
  | last (i k : Nat) (q : Qr) (h : l[i]? = some q) (hk : k < 4) (hu : q.u k = true) (ht : t = 4 * (q.f : Int) + k) (hm : ∀ k', k' < 4 → k' ≠ k → q.u k' = false) :
      SDrop p l t 0 (p.turned (q.f - p.first) (· - 1) 1) (l.take i ++ l.drop (i + 1))
theorem SlabOk.cut {l : List Qr} (h : SlabOk l) (i : Nat) : SlabOk (l.take i ++ l.drop (i + 1)) := by
  have hs : (l.take i ++ l.drop (i + 1)).Sublist l := by
    rw [← List.eraseIdx_eq_take_drop_succ]; exact List.eraseIdx_sublist _ _
  exact ⟨fun q hq => h.lt q (hs.subset hq), h.rise.sublist hs, fun q hq => h.any q (hs.subset hq)⟩
theorem f113 {w : World} {b bu bd s c : Nat} {g : Option Addr} {p : Pool} {l : List Qr} (hP : PoolAt w b bu bd p) (hT : Tz w) (hd : ¬ OwnS b bu bd s g 3) (hS : SlabAt w s b g c l) (hH : Held p l)
    (hs : ¬ Own b bu bd s) (hg : ∀ x, On g x → ¬ Own b bu bd x) (t : Int) (ht : -9223372036854775808 ≤ t ∧ t ≤ 9223372036854775807) :
    Ret prog 113 #[.pointer (some ⟨s, 0, none⟩), .int .i64 t] w fun v w' => ∃ (e : Nat) (p' : Pool) (l' : List Qr) (g' : Option Addr) (c' : Nat), v = .int .i64 (e : Int) ∧ SDrop p l t e p' l' ∧
      PoolAt w' b bu bd p' ∧ SlabAt w' s b g' c' l' ∧ Fr (OwnS b bu bd s g) w w' ∧ ∀ x, On g' x → On g x ∨ w.heap.size ≤ x := by
  have hN := hS.ok.len
  have hL := hP.ok.le
  refine F113_of _ _ _ _ ?_
  unfold F113; try dsimp only [Uii, lb_, li_, lp_, ls_, ui_]
  simp only [at0_mk, Nat.zero_add]
  refine hS.st.ld rfl ?_
  rw [AsSl_slice]
  refine Loop.by (fun s w' => ∃ (i : Nat) (a : Int), s = [.int .i64 (i : Int), .int .i64 a] ∧ i ≤ l.length ∧ w' = w ∧ ∀ i' q', i' < i → l[i']? = some q' → ∀ k : Nat, k < 4 → q'.u k = true → t ≠ 4 * (q'.f : Int) + k)
    (fun s _ => match s with | [.int _ k, _] => l.length - k.toNat | _ => 0)
    ⟨0, 0, rfl, by omega, rfl, fun i' q' h => by omega⟩ ?_
  rintro _ _ ⟨i, a, rfl, hi, hw, hno⟩
  obtain rfl := hw.symm
  simp only [UnC_cons, UnN_nil, AsI_int]
  refine BIf_cases (fun hlt => ?_) (fun hge => ?_)
  · have hil : i < l.length := by omega
    obtain ⟨x, hx⟩ : ∃ x, l[i]? = some x := ⟨_, List.getElem?_eq_getElem hil⟩
    have hxm := List.mem_of_getElem? hx
    have hxf := hS.ok.lt x hxm
    refine Join.triv ?_
    simp only [UnC_cons, UnN_nil, AsI_int]
    refine hS.st.ld rfl ?_
    obtain ⟨gb, sp, rfl, _, hh⟩ := hS.sl.some_ (by omega)
    simp only [AsSl_slice, NilP_some, at0_mk, Nat.zero_add, Int.toNat_natCast]
    refine ⟨by omega, by omega, ?_⟩
    refine hh.ld (q_get0 hx sp) ?_
    rw [AsI_int, w64 (n := (4 : Int) * ((x.f : Nat) : Int)) (by omega) (by omega), w64 (n := (i : Int) + 1) (by omega) (by omega)]
    have hW1 : ∀ k : Nat, k < 4 → t = 4 * (x.f : Int) + k → IntKind.i64.wrap (t - 4 * (x.f : Int)) = k := by
      intro k hk e; rw [IntKind.wrap_i64]; omega
    have hW2 : 0 ≤ IntKind.i64.wrap (t - 4 * (x.f : Int)) → IntKind.i64.wrap (t - 4 * (x.f : Int)) ≤ 3 → t = 4 * (x.f : Int) + IntKind.i64.wrap (t - 4 * (x.f : Int)) := by
      rw [IntKind.wrap_i64]; omega
    generalize IntKind.i64.wrap (t - 4 * (x.f : Int)) = W at hW1 hW2 ⊢
    have hmeas : l.length - ((i : Int) + 1).toNat < l.length - (i : Int).toNat := by omega
    have goOn : (∀ k : Nat, k < 4 → x.u k = true → t ≠ 4 * (x.f : Int) + k) → ∃ (i_1 : Nat) (a_1 : Int), [Value.int .i64 ((i : Int) + 1), .int .i64 a] = [.int .i64 (i_1 : Int), .int .i64 a_1] ∧ i_1 ≤ l.length ∧ w = w ∧ ∀ i' q', i' < i_1 → l[i']? = some q' → ∀ k : Nat, k < 4 → q'.u k = true → t ≠ 4 * (q'.f : Int) + k := by
      intro hx2
      refine ⟨i + 1, a, rfl, by omega, rfl, fun i' q' h h2 => ?_⟩
      by_cases e : i' = i
      · subst e; rw [hx] at h2; injection h2 with h2; subst h2; exact hx2
      · exact hno i' q' (by omega) h2
    refine BIf_cases (fun h1 => ?_) (fun h1 => ?_)
    · refine ⟨?_, hmeas⟩
      simpa using goOn (fun k hk hu e => by have := hW1 k hk e; omega)
    refine BIf_cases (fun h2 => ?_) (fun h2 => ?_)
    · refine ⟨?_, hmeas⟩
      simpa using goOn (fun k hk hu e => by have := hW1 k hk e; omega)
    obtain ⟨k, rfl⟩ : ∃ k : Nat, W = k := ⟨W.toNat, by omega⟩
    have hk : k < 4 := by omega
    have htk := hW2 (by omega) (by omega)
    simp only [Int.toNat_natCast, Nat.mul_one]
    refine ⟨by omega, by omega, ?_⟩
    refine hh.ld (q_getk hx sp k hk) ?_
    rw [AsB_bool, BIf_not]
    refine BIf_b (fun hu => ?_) (fun hu => ?_)
    rotate_left
    · refine ⟨?_, hmeas⟩
      simpa using goOn (fun k' hk' hu' e => by
        have : k' = k := by omega
        subst this; rw [hu] at hu'; cases hu')
    refine ⟨by omega, by omega, ?_⟩
    refine hS.sl.st rfl (by rw [hS.sl.len]; omega) rfl fun w1 sl1 f1 s1 => ?_
    have e : (qsCells l).set (i * 5 + 1 + k) (.bool false) = qsCells (l.set i (x.set k false)) := by
      rw [Nat.add_assoc]; exact flat_set q_len l i (1 + k) (by omega) x _ hx (q_set x k hk false)
    rw [e] at sl1
    obtain ⟨gb', sp', e2, _, hh1⟩ := sl1.some_ (by omega)
    injection e2 with e2; injection e2 with e2; subst e2
    have hy : (l.set i (x.set k false))[i]? = some (x.set k false) := by simp [hil]
    refine hh1.ld (q_get hy sp' 1 (by decide)) ?_
    rw [AsB_bool]
    refine hh1.ld (q_get hy sp' 2 (by decide)) ?_
    rw [AsB_bool]
    refine hh1.ld (q_get hy sp' 3 (by decide)) ?_
    rw [AsB_bool]
    refine hh1.ld (q_get hy sp' 4 (by decide)) ?_
    rw [AsB_bool]
    have hP1 : PoolAt w1 b bu bd p := hP.fr f1 (fun h => hg _ h (.inl rfl)) (fun h => hg _ h (.inr (.inl rfl))) (fun h => hg _ h (.inr (.inr rfl)))
    have st1 := hS.st.fr f1 hS.ne
    have hset : ∀ j, (x.set k false).u j = if j = k then false else x.u j := fun j => rfl
    refine RunP.eqlArr A84 (fun j hj => ?_) (fun r hr => ?_)
    · rcases j with _ | _ | _ | _ | j
      · exact ⟨_, _, rfl, rfl, .inr ⟨_, _, und4, rfl, rfl⟩⟩
      · exact ⟨_, _, rfl, rfl, .inr ⟨_, _, und4, rfl, rfl⟩⟩
      · exact ⟨_, _, rfl, rfl, .inr ⟨_, _, und4, rfl, rfl⟩⟩
      · exact ⟨_, _, rfl, rfl, .inr ⟨_, _, und4, rfl, rfl⟩⟩
      · omega
    have hr' : r = true ↔ ∀ j, j < 4 → (x.set k false).u j = false := by
      rw [hr]
      constructor
      · intro h j hj
        have := h j hj
        rcases j with _ | _ | _ | _ | j
        · injection this with this; injection this
        · injection this with this; injection this
        · injection this with this; injection this
        · injection this with this; injection this
        · omega
      · intro h j hj
        have := h j hj
        rcases j with _ | _ | _ | _ | j
        · show some (Value.bool _) = some (Value.bool _); rw [this]
        · show some (Value.bool _) = some (Value.bool _); rw [this]
        · show some (Value.bool _) = some (Value.bool _); rw [this]
        · show some (Value.bool _) = some (Value.bool _); rw [this]
        · omega
    rw [AsB_bool]
    refine BIf_b (fun hb => ?_) (fun hb => ?_)
    · have hall := hr'.1 hb
      refine hh1.ld (q_get0 hy sp') ?_
      rw [AsI_int]
      refine st1.drew.ld rfl ?_
      rw [AsSl_slice]
      have hle := sl1.le
      refine ⟨by omega, by omega, ?_⟩
      refine st1.drew.ld rfl ?_
      rw [AsSl_slice]
      refine ⟨by omega, by omega, ?_⟩
      rw [slAddr_zero, Nat.sub_zero, Nat.sub_zero]
      have slD := sl1.qt (Qt.refl w1).drew
      have src := slD.src_sub (lo := i + 1) (hi := l.length) (by omega) (Nat.le_refl _)
      have ex : ((qsCells (l.set i (x.set k false))).drop ((i + 1) * 5)).take ((l.length - (i + 1)) * 5) = qsCells (l.drop (i + 1)) := by
        rw [qsCells, flat_drop q_len, List.take_of_length_le (by rw [flat_len q_len, List.length_drop, List.length_set]; omega)]
        rw [List.drop_set_of_lt (by omega)]
        rfl
      have ex2 : (qsCells (l.set i (x.set k false))).take (i * 5) = qsCells (l.take i) := by
        rw [qsCells, flat_take q_len, List.take_set_of_le (Nat.le_refl _)]
        rfl
      have pre := slD.pre (i := i) (by omega)
      rw [ex] at src
      rw [ex2] at pre
      have e3 : ((i : Int) + 1).toNat = i + 1 := by omega
      rw [e3]
      refine append_src E78 pre (Nat.zero_le _) src qs_one (by simp only [maxLen]; omega) (by omega) fun p2 c2 w2 sl2 f2 on2 => ?_
      rw [AsSl_slice]
      have st2 := (st1.drew).fr f2 hS.ne
      refine st2.st (by simp) rfl fun w3 st3 f3 s3 => ?_
      refine st3.ld rfl ?_
      rw [AsP_pointer]
      have f2' : Fr (On (some ⟨gb, 0, none⟩)) w1 w2 := f2.of_drew
      have hP2 : PoolAt w2 b bu bd p := hP1.fr f2' (fun h => hg _ h (.inl rfl)) (fun h => hg _ h (.inr (.inl rfl))) (fun h => hg _ h (.inr (.inr rfl)))
      have hP3 : PoolAt w3 b bu bd p := hP2.fr f3 (fun h => hs (.inl h.symm)) (fun h => hs (.inr (.inl h.symm))) (fun h => hs (.inr (.inr h.symm)))
      have fall : Fr (OwnS b bu bd s (some ⟨gb, 0, none⟩)) w w3 := ((f1.mono fun _ _ h => .inr (.inr h)).trans (f2'.mono fun _ _ h => .inr (.inr h))).trans (f3.mono fun _ _ h => .inr (.inl h))
      have hT3 := hT.fr fall hd
      obtain ⟨m1, m2, m3⟩ := hH x hxm
      refine Ret.use (f47 hP3 hT3 (fun h => hd (.inl h)) ((x.set k false).f : Int) 1 (by show -9223372036854775808 ≤ ((x.f : Nat) : Int) ∧ ((x.f : Nat) : Int) ≤ 9223372036854775807; omega) (by omega)) ?_
      have hrun := run_held m1 m2 m3
      rintro v w4 (⟨hbad, _⟩ | ⟨_, rfl, hP4, f4⟩)
      · exact absurd (show (p.run ((x.set k false).f : Int) 1).2 = 0 by show (p.run ((x.f : Nat) : Int) 1).2 = 0; rw [hrun]) hbad
      simp only [AsTup_tuple, UnC_cons, UnN_nil, AsI_int]
      have hsz : w.heap.size ≤ w2.heap.size := Nat.le_trans f1.size f2'.size
      have hon : ∀ y, On p2 y → On (some ⟨gb, 0, none⟩) y ∨ w.heap.size ≤ y := by
        intro y hy
        rcases on2 y hy with h | h
        · exact .inl h
        · have h6 : w1.drew.heap.size = w1.heap.size := rfl
          have := f1.size
          exact .inr (by omega)
      have hneo : ∀ y, On p2 y → ¬ Own b bu bd y ∧ y ≠ s := by
        intro y hy
        have hsl := hS.st.lt
        have l1 := hP.st.lt; have l2 := hP.us.lt
        obtain ⟨ws, _, hws⟩ := hP.ws
        have l3 := hws.lt
        rcases hon y hy with h | h
        · exact ⟨hg y h, fun e => hS.ne (e ▸ h)⟩
        · refine ⟨fun h' => ?_, by omega⟩
          unfold Own at h'; omega
      refine ⟨0, p.turned (x.f - p.first) (· - 1) 1, l.take i ++ l.drop (i + 1), p2, c2, rfl, .last i k x hx hk hu htk fun k' hk' hne => ?_, ?_, ⟨?_, ?_, fun h => ?_, hS.ok.cut i⟩, fall.trans (f4.mono fun _ _ h => .inl h), hon⟩
      · have := hall k' hk'; rw [hset, if_neg hne] at this; exact this
      · have e4 : (((x.set k false).f : Int) - (p.first : Int)).toNat = x.f - p.first := by show (((x.f : Nat) : Int) - (p.first : Int)).toNat = _; omega
        rw [e4] at hP4; exact hP4
      · have := st3.fr f4 hs
        have e5 : (l.take i ++ l.drop (i + 1)).length = i + (l.length - (i + 1)) := by simp; omega
        rw [e5]; exact this
      · have e5 : (l.take i ++ l.drop (i + 1)).length = i + (l.length - (i + 1)) := by simp; omega
        rw [e5, qsCells, List.flatMap_append]
        exact (sl2.fr f3 fun y hy h => (hneo y hy).2 h).fr f4 fun y hy h => (hneo y hy).1 h
      · exact (hneo _ h).2 rfl
    · have hany : ∃ k', k' < 4 ∧ k' ≠ k ∧ x.u k' = true := by
        refine Classical.byContradiction fun hn => ?_
        have : r = true := hr'.2 fun j hj => by
          rw [hset]; split
          · rfl
          · rename_i hne
            cases hxu : x.u j
            · rfl
            · exact absurd ⟨j, hj, hne, hxu⟩ hn
        rw [hb] at this; cases this
      refine ⟨0, p, l.set i (x.set k false), some ⟨gb, 0, none⟩, c, rfl, .more i k x hx hk hu htk hany, hP1, ⟨by rw [List.length_set]; exact st1, by rw [List.length_set]; exact sl1, hS.ne, hS.ok.of_f (set_f hx rfl) fun y hy => ?_⟩, f1.mono (fun _ _ h => .inr (.inr h)), fun y hy => .inl hy⟩
      rcases List.mem_or_eq_of_mem_set hy with hy | rfl
      · exact hS.ok.any y hy
      · obtain ⟨k', h1, h2, h3⟩ := hany
        exact ⟨k', h1, by rw [hset, if_neg h2]; exact h3⟩
  · obtain rfl : i = l.length := by omega
    refine ⟨45, p, l, g, c, rfl, .none fun q hq => ?_, hP, hS, Fr.refl _ _, fun x hx => .inl hx⟩
    obtain ⟨j, hj, rfl⟩ := List.getElem_of_mem hq
    exact hno j _ hj (List.getElem?_eq_getElem hj)
theorem f87 {w : World} (b : Nat) : Ret prog 87 #[.pointer (some ⟨b, 0, none⟩)] w fun v w' => v = .tuple #[.pointer (some ⟨w.heap.size, 0, none⟩), .int .i64 0] ∧ SlabAt w' w.heap.size b none 0 [] ∧ Fr0 w w' ∧ w'.heap.size = w.heap.size + 1 := by
  refine F87_of _ _ _ ?_
  unfold F87
  refine New.mk fun w1 n1 f1 s1 => ?_
  exact ⟨rfl, ⟨n1, Sl.nil _ _ _ _, (fun ⟨a, h, _⟩ => by cases h), ⟨fun q h => by simp at h, by simp, fun q h => by simp at h⟩⟩, f1, s1⟩
end Go.Proofs.YtmgjicnipgdjhaaGreatDoor
namespace Go.Fr
def zeros (u : List Nat) : Nat := u.countP (· = 0)
theorem countP_none {l : List Nat} (h : ∀ x ∈ l, x ≠ 0) : l.countP (· = 0) = 0 := by
  rw [List.countP_eq_zero]; intro x hx; simpa using h x hx
end Go.Fr
namespace Go.Proofs.YtmgjicnipgdjhaaGreatDoor
open Go Go.Sh Go.Fr
inductive PTake (p : Pool) (n al : Int) : Nat → Nat → Pool → Prop
  | bad (h : badTake n al) : PTake p n al 0 41 p
  | none (h : ¬ badTake n al) (hn : ∀ a, ¬ Fit p.first p.u n.toNat al.toNat a) : PTake p n al 0 42 p
  | ok (h : ¬ badTake n al) (a : Nat) (hf : Fit p.first p.u n.toNat al.toNat a) (hl : ∀ a', a' < a → ¬ Fit p.first p.u n.toNat al.toNat a') : PTake p n al (p.first + a) 0 (p.turned a (fun _ => 1) n.toNat)
theorem PTake.eq {p p' : Pool} {n al : Int} {r e : Nat} (h : PTake p n al r e p') (hb : ¬ badTake n al) {a : Nat} (hf : Fit p.first p.u n.toNat al.toNat a) (hl : ∀ a', a' < a → ¬ Fit p.first p.u n.toNat al.toNat a') :
    r = p.first + a ∧ e = 0 ∧ p' = p.turned a (fun _ => 1) n.toNat := by
  cases h with
  | bad h => exact absurd h hb
  | none _ hn => exact absurd hf (hn a)
  | ok _ a' hf' hl' =>
    have : a' = a := by
      rcases Nat.lt_trichotomy a' a with h | h | h
      · exact absurd hf' (hl a' h)
      · exact h
      · exact absurd hf (hl' a h)
    subst this; exact ⟨rfl, rfl, rfl⟩
theorem ins_mem {f : Nat} : ∀ {l : List Qr} {q : Qr}, q ∈ insq f l → q = Qr.new f ∨ q ∈ l
  | [], q, h => by simp [insq] at h; exact .inl h
  | x :: r, q, h => by
    unfold insq at h
    split at h
    · rcases List.mem_cons.1 h with rfl | h
      · exact .inr (by simp)
      · rcases ins_mem h with h | h
        · exact .inl h
        · exact .inr (by simp [h])
    · rcases List.mem_cons.1 h with rfl | h
      · exact .inl rfl
      · exact .inr h
theorem set_mem_f {l : List Qr} {i : Nat} {q y x : Qr} (hq : l[i]? = some q) (hy : y.f = q.f) (h : x ∈ l.set i y) : ∃ z ∈ l, z.f = x.f := by
  rcases List.mem_or_eq_of_mem_set h with h | rfl
  · exact ⟨x, h, rfl⟩
  · exact ⟨q, List.mem_of_getElem? hq, hy.symm⟩
theorem turned_get (p : Pool) (k : Nat) (fn : Nat → Nat) (x : Nat) (h : k < p.u.length) : (p.turned k fn 1).u.getD x 0 = if x = k then fn (p.u.getD k 0) else p.u.getD x 0 := by
  show (turn p.u k fn 1).getD x 0 = _
  rw [turn_get _ _ _ _ _ (by omega)]
  by_cases e : x = k
  · subst e; rw [if_pos (by omega), if_pos rfl]
  · rw [if_neg (by omega), if_neg e]
theorem STake.held {p p' : Pool} {l l' : List Qr} {r e : Nat} (h : STake p l r e p' l') (hH : Held p l) : Held p' l' ∧ (∀ lb, Held p lb → Held p' lb) ∧ ∀ lb, Held p lb → (∀ q ∈ l, ∀ q' ∈ lb, q.f ≠ q'.f) → ∀ q ∈ l', ∀ q' ∈ lb, q.f ≠ q'.f := by
  cases h with
  | old i k q hq hk h0 h1 h2 =>
    refine ⟨fun x hx => ?_, fun lb h => h, fun lb _ hd x hx y hy => ?_⟩
    · obtain ⟨z, hz, e⟩ := set_mem_f (y := q.set k true) hq rfl hx
      rw [← e]; exact hH z hz
    · obtain ⟨z, hz, e⟩ := set_mem_f (y := q.set k true) hq rfl hx
      rw [← e]; exact hd z hz y hy
  | none => exact ⟨hH, fun lb h => h, fun lb _ hd => hd⟩
  | fresh h a hf hl =>
    have ha : a < p.u.length := by have := hf.2.1; omega
    have hz : p.u.getD a 0 = 0 := hf.2.2 a (Nat.le_refl _) (by omega)
    have keep : ∀ lb, Held p lb → Held (p.turned a (fun _ => 1) 1) lb := by
      intro lb hb q hq
      obtain ⟨h1, h2, h3⟩ := hb q hq
      refine ⟨h1, by simp only [Pool.turned, turn_len]; exact h2, ?_⟩
      show 0 < (p.turned a (fun _ => 1) 1).u.getD (q.f - p.first) 0
      rw [turned_get _ _ _ _ ha]; split <;> omega
    refine ⟨fun q hq => ?_, keep, fun lb hb hd q hq q' hq' e => ?_⟩
    · rcases ins_mem hq with rfl | hq
      · refine ⟨Nat.le_add_right _ _, by simp only [Pool.turned, turn_len, Qr.new]; omega, ?_⟩
        show 0 < (p.turned a (fun _ => 1) 1).u.getD (p.first + a - p.first) 0
        rw [turned_get _ _ _ _ ha, if_pos (by omega)]; omega
      · exact keep l hH q hq
    · rcases ins_mem hq with rfl | hq
      · obtain ⟨h1, h2, h3⟩ := hb q' hq'
        have e2 : p.first + a = q'.f := e
        rw [← e2, Nat.add_sub_cancel_left] at h3
        omega
      · exact hd q hq q' hq' e
theorem cut_mem {l : List Qr} {i : Nat} {x : Qr} (h : x ∈ l.take i ++ l.drop (i + 1)) : x ∈ l := by
  rw [← List.eraseIdx_eq_take_drop_succ] at h; exact List.mem_of_mem_eraseIdx h
theorem cut_ne {l : List Qr} {i : Nat} {q x : Qr} (hr : l.Pairwise fun a b => a.f < b.f) (hq : l[i]? = some q) (h : x ∈ l.take i ++ l.drop (i + 1)) : x.f ≠ q.f := by
  obtain ⟨hi, rfl⟩ := List.getElem?_eq_some_iff.1 hq
  rcases List.mem_append.1 h with h | h
  · obtain ⟨j, hj, rfl⟩ := List.getElem_of_mem h
    rw [List.length_take] at hj
    have := List.pairwise_iff_getElem.1 hr j i (by omega) hi (by omega)
    rw [List.getElem_take]; omega
  · obtain ⟨j, hj, rfl⟩ := List.getElem_of_mem h
    rw [List.length_drop] at hj
    have := List.pairwise_iff_getElem.1 hr i (i + 1 + j) hi (by omega) (by omega)
    rw [List.getElem_drop]; omega
theorem SDrop.held {p p' : Pool} {l l' : List Qr} {t : Int} {e : Nat} (h : SDrop p l t e p' l') (hO : SlabOk l) (hH : Held p l) : Held p' l' ∧ (∀ lb, Held p lb → (∀ q ∈ l, ∀ q' ∈ lb, q.f ≠ q'.f) → Held p' lb) ∧ ∀ lb : List Qr, (∀ q ∈ l, ∀ q' ∈ lb, q.f ≠ q'.f) → ∀ q ∈ l', ∀ q' ∈ lb, q.f ≠ q'.f := by
  cases h with
  | none => exact ⟨hH, fun lb h _ => h, fun lb hd => hd⟩
  | more i k q hq hk hu ht hm =>
    refine ⟨fun x hx => ?_, fun lb h _ => h, fun lb hd x hx y hy => ?_⟩
    · obtain ⟨z, hz, e⟩ := set_mem_f (y := q.set k false) hq rfl hx
      rw [← e]; exact hH z hz
    · obtain ⟨z, hz, e⟩ := set_mem_f (y := q.set k false) hq rfl hx
      rw [← e]; exact hd z hz y hy
  | last i k q hq hk hu ht hm =>
    have hqm := List.mem_of_getElem? hq
    obtain ⟨a1, a2, a3⟩ := hH q hqm
    have keep : ∀ lb, Held p lb → (∀ x ∈ lb, x.f ≠ q.f) → Held (p.turned (q.f - p.first) (· - 1) 1) lb := by
      intro lb hb hn x hx
      obtain ⟨h1, h2, h3⟩ := hb x hx
      refine ⟨h1, by simp only [Pool.turned, turn_len]; exact h2, ?_⟩
      show 0 < (p.turned (q.f - p.first) (· - 1) 1).u.getD (x.f - p.first) 0
      rw [turned_get _ _ _ _ (by omega), if_neg (by have := hn x hx; omega)]; exact h3
    refine ⟨keep _ (fun x hx => hH x (cut_mem hx)) fun x hx => cut_ne hO.rise hq hx, fun lb hb hd => keep lb hb fun x hx e => hd q hqm x hx e.symm, fun lb hd x hx y hy => hd x (cut_mem hx) y hy⟩
theorem mem_qtabs {q : Qr} {x : Nat} : x ∈ q.tabs 4 ↔ ∃ k, k < 4 ∧ q.u k = true ∧ x = 4 * q.f + k := by
  unfold Qr.tabs
  simp only [List.mem_map, List.mem_filter, List.mem_range]
  constructor
  · rintro ⟨k, ⟨h1, h2⟩, h3⟩; exact ⟨k, h1, h2, h3.symm⟩
  · rintro ⟨k, h1, h2, h3⟩; exact ⟨k, ⟨h1, h2⟩, h3.symm⟩
theorem mem_tabs {l : List Qr} {x : Nat} : x ∈ tabs l ↔ ∃ q ∈ l, ∃ k, k < 4 ∧ q.u k = true ∧ x = 4 * q.f + k := by
  unfold tabs
  simp only [List.mem_flatMap, mem_qtabs]
theorem tabs_rise {l : List Qr} (h : l.Pairwise fun a b => a.f < b.f) : (tabs l).Pairwise (· < ·) := by
  unfold tabs
  rw [List.pairwise_flatMap]
  refine ⟨fun q _ => ?_, h.imp fun {a b} hab x hx y hy => ?_⟩
  · unfold Qr.tabs
    rw [List.pairwise_map]
    exact (List.pairwise_lt_range.filter _).imp fun hab => by omega
  · obtain ⟨k, h1, _, rfl⟩ := mem_qtabs.1 hx
    obtain ⟨k', h1', _, rfl⟩ := mem_qtabs.1 hy
    omega
def base (l : List Qr) (i : Nat) : Nat := (tabs (l.take i)).length
theorem tabs_cut {l : List Qr} {i : Nat} {q : Qr} (h : l[i]? = some q) : tabs l = tabs (l.take i) ++ (q.tabs 4 ++ tabs (l.drop (i + 1))) := by
  obtain ⟨hi, rfl⟩ := List.getElem?_eq_some_iff.1 h
  have e : l = l.take i ++ l[i] :: l.drop (i + 1) := by rw [← List.drop_eq_getElem_cons hi, List.take_append_drop]
  unfold tabs
  conv => lhs; rw [e]
  rw [List.flatMap_append, List.flatMap_cons]
theorem tabs_at {l : List Qr} {i n : Nat} {q : Qr} (h : l[i]? = some q) (hn : n < (q.tabs 4).length) : (tabs l)[base l i + n]? = some (q.tabs 4)[n] := by
  rw [tabs_cut h, List.getElem?_append_right (by unfold base; omega)]
  unfold base
  rw [Nat.add_sub_cancel_left, List.getElem?_append_left hn, List.getElem?_eq_getElem hn]
theorem qtabs_div {q : Qr} {n : Nat} (hn : n < (q.tabs 4).length) : (q.tabs 4)[n] / 4 = q.f := by
  obtain ⟨k, hk, _, e⟩ := mem_qtabs.1 (List.getElem_mem hn)
  rw [e]; omega
theorem qtabs_pos {l : List Qr} (h : SlabOk l) {q : Qr} (hq : q ∈ l) : 0 < (q.tabs 4).length := by
  obtain ⟨k, hk, hu⟩ := h.any q hq
  exact List.length_pos_of_mem (mem_qtabs.2 ⟨k, hk, hu, rfl⟩)
theorem tabs_lt {l : List Qr} (h : SlabOk l) {x : Nat} (hx : x ∈ tabs l) : x < 1073741824 := by
  obtain ⟨q, hq, k, hk, _, rfl⟩ := mem_tabs.1 hx
  have := h.lt q hq; omega
def Miss (L : List Nat) (x : Nat) : Prop := ∃ j k y : Nat, L[j]? = some y ∧ k < 4 ∧ x = 4 * (y / 4) + k ∧ x ∉ L ∧ (∀ j' y' k' : Nat, j' < j → L[j']? = some y' → k' < 4 → 4 * (y' / 4) + k' ∈ L) ∧ ∀ k', k' < k → 4 * (y / 4) + k' ∈ L
def Full (L : List Nat) : Prop := ∀ y ∈ L, ∀ k, k < 4 → 4 * (y / 4) + k ∈ L
theorem same_f {l : List Qr} (h : SlabOk l) {q q' : Qr} (hq : q ∈ l) (hq' : q' ∈ l) (e : q.f = q'.f) : q = q' := by
  obtain ⟨i, hi, rfl⟩ := List.getElem_of_mem hq
  obtain ⟨j, hj, rfl⟩ := List.getElem_of_mem hq'
  rcases Nat.lt_trichotomy i j with h1 | h1 | h1
  · have := List.pairwise_iff_getElem.1 h.rise i j hi hj h1; omega
  · subst h1; rfl
  · have := List.pairwise_iff_getElem.1 h.rise j i hj hi h1; omega
theorem has_tab {l : List Qr} (h : SlabOk l) {q : Qr} (hq : q ∈ l) {k : Nat} (hk : k < 4) : 4 * q.f + k ∈ tabs l ↔ q.u k = true := by
  rw [mem_tabs]
  constructor
  · rintro ⟨q', hq', k', hk', hu, e⟩
    have := same_f h hq hq' (by omega)
    subst this
    have : k = k' := by omega
    subst this; exact hu
  · intro hu; exact ⟨q, hq, k, hk, hu, rfl⟩
theorem full_of {l : List Qr} (h : SlabOk l) (hf : ∀ q ∈ l, ∀ k, k < 4 → q.u k = true) : Full (tabs l) := by
  intro y hy k hk
  obtain ⟨q, hq, k', hk', _, rfl⟩ := mem_tabs.1 hy
  rw [show (4 * q.f + k') / 4 = q.f by omega]
  exact (has_tab h hq hk).2 (hf q hq k hk)
theorem miss_of {l : List Qr} (h : SlabOk l) {i k : Nat} {q : Qr} (hq : l[i]? = some q) (hk : k < 4) (h0 : q.u k = false) (h1 : ∀ k', k' < k → q.u k' = true) (h2 : ∀ i' q', i' < i → l[i']? = some q' → ∀ k', k' < 4 → q'.u k' = true) :
    Miss (tabs l) (4 * q.f + k) := by
  have hqm := List.mem_of_getElem? hq
  have hpos := qtabs_pos h hqm
  have hat := tabs_at hq hpos
  rw [Nat.add_zero] at hat
  have hdiv := qtabs_div hpos
  refine ⟨base l i, k, _, hat, hk, by rw [hdiv], fun hm => ?_, fun j' y' k' hj hy hk' => ?_, fun k' hk' => ?_⟩
  · rw [has_tab h hqm hk] at hm; rw [h0] at hm; cases hm
  · rw [tabs_cut hq, List.getElem?_append_left hj] at hy
    have hym := List.mem_of_getElem? hy
    obtain ⟨q', hq', k'', hk'', _, rfl⟩ := mem_tabs.1 hym
    obtain ⟨i', hi', e⟩ := List.getElem_of_mem hq'
    rw [List.length_take] at hi'
    rw [List.getElem_take] at e
    have hql : l[i']? = some q' := by rw [List.getElem?_eq_getElem (by omega), e]
    rw [show (4 * q'.f + k'') / 4 = q'.f by omega]
    exact (has_tab h (List.mem_of_getElem? hql) hk').2 (h2 i' q' (by omega) hql k' hk')
  · rw [hdiv]
    exact (has_tab h hqm (by omega)).2 (h1 k' hk')
theorem free_pos {first : Nat} {u : List Nat} {a : Nat} (h : Fit first u 1 1 a) : 0 < zeros u := by
  have ha : a < u.length := by have := h.2.1; omega
  have h0 := h.2.2 a (Nat.le_refl _) (by omega)
  rw [getD_get ha] at h0
  exact List.countP_pos_iff.2 ⟨u[a], List.getElem_mem ha, by simp [h0]⟩
theorem free_none {first : Nat} {u : List Nat} (h : ∀ a, ¬ Fit first u 1 1 a) : zeros u = 0 := by
  refine countP_none fun x hx e => ?_
  obtain ⟨i, hi, rfl⟩ := List.getElem_of_mem hx
  refine h i ⟨by rw [Nat.mod_one], by omega, fun y h1 h2 => ?_⟩
  have : y = i := by omega
  subst this; rw [getD_get hi, e]
theorem free_take {u : List Nat} {a : Nat} (ha : a < u.length) (h0 : u.getD a 0 = 0) : zeros (turn u a (fun _ => 1) 1) + 1 = zeros u := by
  have := count_set u a 1 ha
  rw [getD_get ha] at h0
  rw [if_pos h0, if_neg (by decide)] at this
  simp only [zeros, turn, Nat.add_zero] at *
  exact this
theorem STake.least {p p' : Pool} {l l' : List Qr} {r e : Nat} (h : STake p l r e p' l') (hok : SlabOk l) :
    (∃ x, Miss (tabs l) x ∧ r = x ∧ e = 0 ∧ p'.free = p.free ∧ r ∈ tabs l') ∨ (Full (tabs l) ∧ p.free = 0 ∧ e = 42 ∧ r = 0 ∧ l' = l) ∨
    (Full (tabs l) ∧ p.free ≠ 0 ∧ e = 0 ∧ r % 4 = 0 ∧ p'.free + 1 = p.free ∧ (Held p l → r ∉ tabs l) ∧ r ∈ tabs l') := by
  cases h with
  | old i k q hq hk h0 h1 h2 =>
    refine .inl ⟨_, miss_of hok hq hk h0 h1 h2, rfl, rfl, rfl, mem_tabs.2 ⟨q.set k true, ?_, k, hk, by simp [Qr.set], rfl⟩⟩
    exact List.mem_of_getElem? (by rw [List.getElem?_set]; simp [(List.getElem?_eq_some_iff.1 hq).1] : (l.set i (q.set k true))[i]? = some (q.set k true))
  | none hf hn => exact .inr (.inl ⟨full_of hok hf, free_none hn, rfl, rfl, rfl⟩)
  | fresh hf a hfit hl =>
    have ha : a < p.u.length := by have := hfit.2.1; omega
    have hz := hfit.2.2 a (Nat.le_refl _) (by omega)
    have hp : 0 < p.free := free_pos hfit
    refine .inr (.inr ⟨full_of hok hf, by omega, rfl, by omega, free_take ha hz, fun hH hm => ?_, mem_tabs.2 ⟨Qr.new (p.first + a), ?_, 0, by decide, rfl, rfl⟩⟩)
    · obtain ⟨q, hq, k, hk, _, e⟩ := mem_tabs.1 hm
      obtain ⟨h1, h2, h3⟩ := hH q hq
      rw [show q.f - p.first = a by omega] at h3
      omega
    · have : ∀ l : List Qr, Qr.new (p.first + a) ∈ insq (p.first + a) l := by
        intro l
        induction l with
        | nil => simp [insq]
        | cons x r ih => unfold insq; split <;> simp [ih]
      exact this l
theorem qset_tabs {q : Qr} {k : Nat} (hk : k < 4) : (q.set k false).tabs 4 = (q.tabs 4).filter fun x => decide (x ≠ 4 * q.f + k) := by
  unfold Qr.tabs
  rw [List.filter_map, List.filter_filter]
  show ((List.range 4).filter (q.set k false).u).map (fun j => 4 * q.f + j) = _
  congr 1
  apply List.filter_congr
  intro j hj
  simp only [Qr.set, Function.comp_apply]
  by_cases e : j = k
  · subst e; simp
  · rw [if_neg e]
    have : decide (4 * q.f + j ≠ 4 * q.f + k) = true := by simp; omega
    rw [this]; simp
theorem tabs_filter_ne {l : List Qr} {q : Qr} {k : Nat} (h : ∀ x ∈ l, x.f ≠ q.f) (hk : k < 4) : (tabs l).filter (fun x => decide (x ≠ 4 * q.f + k)) = tabs l := by
  rw [List.filter_eq_self]
  intro x hx
  obtain ⟨q', hq', k', hk', _, rfl⟩ := mem_tabs.1 hx
  have := h q' hq'
  simp; omega
theorem tabs_append (l l' : List Qr) : tabs (l ++ l') = tabs l ++ tabs l' := by simp [tabs]
theorem take_ne {l : List Qr} {i : Nat} {q : Qr} (hr : l.Pairwise fun a b => a.f < b.f) (hq : l[i]? = some q) : (∀ x ∈ l.take i, x.f ≠ q.f) ∧ ∀ x ∈ l.drop (i + 1), x.f ≠ q.f :=
  ⟨fun x hx => cut_ne hr hq (by simp [hx]), fun x hx => cut_ne hr hq (by simp [hx])⟩
theorem SDrop.tabs_eq {p p' : Pool} {l l' : List Qr} {t : Int} {e : Nat} (h : SDrop p l t e p' l') (hok : SlabOk l) {x : Nat} (hx : t = x) : (e = 45 ∧ x ∉ tabs l ∧ l' = l ∧ p' = p) ∨ (e = 0 ∧ x ∈ tabs l ∧ tabs l' = (tabs l).filter fun y => decide (y ≠ x)) := by
  cases h with
  | none h =>
    refine .inl ⟨rfl, fun hm => ?_, rfl, rfl⟩
    obtain ⟨q, hq, k, hk, hu, e⟩ := mem_tabs.1 hm
    exact h q hq k hk hu (by omega)
  | more i k q hq hk hu ht hm =>
    have ex : x = 4 * q.f + k := by omega
    subst ex
    have hqm := List.mem_of_getElem? hq
    refine .inr ⟨rfl, (has_tab hok hqm hk).2 hu, ?_⟩
    have hil := (List.getElem?_eq_some_iff.1 hq).1
    have hy : (l.set i (q.set k false))[i]? = some (q.set k false) := by simp [hil]
    obtain ⟨n1, n2⟩ := take_ne hok.rise hq
    rw [tabs_cut hy, tabs_cut hq, List.filter_append, List.filter_append, tabs_filter_ne n1 hk, tabs_filter_ne n2 hk, qset_tabs hk, List.take_set_of_le (Nat.le_refl _), List.drop_set_of_lt (by omega)]
  | last i k q hq hk hu ht hm =>
    have ex : x = 4 * q.f + k := by omega
    subst ex
    have hqm := List.mem_of_getElem? hq
    refine .inr ⟨rfl, (has_tab hok hqm hk).2 hu, ?_⟩
    obtain ⟨n1, n2⟩ := take_ne hok.rise hq
    have hqt : (q.tabs 4).filter (fun x => decide (x ≠ 4 * q.f + k)) = [] := by
      rw [List.filter_eq_nil_iff]
      intro y hy
      obtain ⟨k', hk', hu', rfl⟩ := mem_qtabs.1 hy
      have : k' = k := by
        refine Classical.byContradiction fun hne => ?_
        rw [hm k' hk' hne] at hu'; cases hu'
      subst this; simp
    rw [tabs_append, tabs_cut hq, List.filter_append, List.filter_append, tabs_filter_ne n1 hk, tabs_filter_ne n2 hk, hqt, List.nil_append]
theorem rise_nodup {L : List Nat} (h : L.Pairwise (· < ·)) : L.Nodup := h.imp fun hab => by omega
theorem tabs_nil {l : List Qr} (h : SlabOk l) (e : tabs l = []) : l = [] := by
  cases l with
  | nil => rfl
  | cons q r =>
    have := qtabs_pos h (q := q) (by simp)
    have h2 : (tabs (q :: r)).length = 0 := by rw [e]; rfl
    simp only [tabs, List.flatMap_cons, List.length_append] at h2
    omega
def Ones (p : Pool) (l : List Qr) : Prop := ∀ q ∈ l, p.u.getD (q.f - p.first) 0 = 1
theorem STake.ones {p p' : Pool} {l l' : List Qr} {r e : Nat} (h : STake p l r e p' l') (hH : Held p l) (h1 : Ones p l) : Ones p' l' ∧ (∀ lb, Held p lb → Ones p lb → Ones p' lb) ∧ p'.free + l'.length = p.free + l.length ∧ p'.first = p.first ∧ p'.u.length = p.u.length := by
  cases h with
  | old i k q hq hk h0 _ _ =>
    refine ⟨fun x hx => ?_, fun lb _ h => h, by rw [List.length_set], rfl, rfl⟩
    obtain ⟨z, hz, e⟩ := set_mem_f (y := q.set k true) hq rfl hx
    rw [← e]; exact h1 z hz
  | none => exact ⟨h1, fun lb _ h => h, rfl, rfl, rfl⟩
  | fresh h a hf hl =>
    have ha : a < p.u.length := by have := hf.2.1; omega
    have hz : p.u.getD a 0 = 0 := hf.2.2 a (Nat.le_refl _) (by omega)
    have keep : ∀ lb, Held p lb → Ones p lb → Ones (p.turned a (fun _ => 1) 1) lb := by
      intro lb hb h1 q hq
      show (p.turned a (fun _ => 1) 1).u.getD (q.f - p.first) 0 = 1
      rw [turned_get _ _ _ _ ha]
      split
      · rfl
      · exact h1 q hq
    refine ⟨fun q hq => ?_, keep, ?_, rfl, turn_len _ _ _ _⟩
    · rcases ins_mem hq with rfl | hq
      · show (p.turned a (fun _ => 1) 1).u.getD (p.first + a - p.first) 0 = 1
        rw [turned_get _ _ _ _ ha, if_pos (by omega)]
      · exact keep l hH h1 q hq
    · have h2 : zeros (turn p.u a (fun _ => 1) 1) + 1 = zeros p.u := free_take ha hz
      have h3 : ∀ l : List Qr, (insq (p.first + a) l).length = l.length + 1 := by
        intro l
        induction l with
        | nil => rfl
        | cons x r ih => unfold insq; split <;> simp [ih]
      rw [h3]
      show zeros (turn p.u a (fun _ => 1) 1) + _ = zeros p.u + _
      omega
theorem ins_iff {f : Nat} {q : Qr} : ∀ {l : List Qr}, q ∈ insq f l ↔ q = Qr.new f ∨ q ∈ l
  | [] => by simp [insq]
  | x :: r => by
    unfold insq
    split
    · simp only [List.mem_cons, ins_iff (l := r)]
      constructor
      · rintro (h | h | h)
        · exact .inr (.inl h)
        · exact .inl h
        · exact .inr (.inr h)
      · rintro (h | h | h)
        · exact .inr (.inl h)
        · exact .inl h
        · exact .inr (.inr h)
    · simp
theorem ins_rise {f : Nat} : ∀ {l : List Qr}, l.Pairwise (fun a b => a.f < b.f) → (∀ q ∈ l, q.f ≠ f) → (insq f l).Pairwise fun a b => a.f < b.f
  | [], _, _ => by simp [insq]
  | x :: r, h, hn => by
    obtain ⟨h1, h2⟩ := List.pairwise_cons.1 h
    have hx := hn x (by simp)
    unfold insq
    split
    · refine List.pairwise_cons.2 ⟨fun y hy => ?_, ins_rise h2 fun q hq => hn q (by simp [hq])⟩
      rcases ins_iff.1 hy with rfl | hy
      · assumption
      · exact h1 y hy
    · refine List.pairwise_cons.2 ⟨fun y hy => ?_, h⟩
      rcases List.mem_cons.1 hy with rfl | hy
      · show f < y.f; omega
      · have := h1 y hy; show f < y.f; omega
theorem SlabOk.insq {l : List Qr} (h : SlabOk l) {f : Nat} (hf : f < 268435456) (hn : ∀ q ∈ l, q.f ≠ f) : SlabOk (insq f l) := by
  refine ⟨fun q hq => ?_, ins_rise h.rise hn, fun q hq => ?_⟩
  · rcases ins_iff.1 hq with rfl | hq
    · exact hf
    · exact h.lt q hq
  · rcases ins_iff.1 hq with rfl | hq
    · exact ⟨0, by decide, rfl⟩
    · exact h.any q hq
theorem STake.det {p p1 p2 : Pool} {l l1 l2 : List Qr} {r1 r2 e1 e2 : Nat} (h1 : STake p l r1 e1 p1 l1) (h2 : STake p l r2 e2 p2 l2) : r1 = r2 ∧ e1 = e2 ∧ p1 = p2 ∧ l1 = l2 := by
  cases h1 with
  | old i k q hq hk h0 hu hf => cases h2 with
    | old i' k' q' hq' hk' h0' hu' hf' =>
      have ei : i = i' := by
        rcases Nat.lt_trichotomy i i' with h | h | h
        · have := hf' i q h hq k hk; rw [h0] at this; cases this
        · exact h
        · have := hf i' q' h hq' k' hk'; rw [h0'] at this; cases this
      subst ei
      rw [hq] at hq'; injection hq' with hq'; subst hq'
      have ek : k = k' := by
        rcases Nat.lt_trichotomy k k' with h | h | h
        · have := hu' k h; rw [h0] at this; cases this
        · exact h
        · have := hu k' h; rw [h0'] at this; cases this
      subst ek
      exact ⟨rfl, rfl, rfl, rfl⟩
    | none h => have := h q (List.mem_of_getElem? hq) k hk; rw [h0] at this; cases this
    | fresh h => have := h q (List.mem_of_getElem? hq) k hk; rw [h0] at this; cases this
  | none h hn => cases h2 with
    | old i k q hq hk h0 => have := h q (List.mem_of_getElem? hq) k hk; rw [h0] at this; cases this
    | none => exact ⟨rfl, rfl, rfl, rfl⟩
    | fresh _ a hf => exact absurd hf (hn a)
  | fresh h a hf hl => cases h2 with
    | old i k q hq hk h0 => have := h q (List.mem_of_getElem? hq) k hk; rw [h0] at this; cases this
    | none _ hn => exact absurd hf (hn a)
    | fresh _ a' hf' hl' =>
      have : a = a' := by
        rcases Nat.lt_trichotomy a a' with h | h | h
        · exact absurd hf (hl' a h)
        · exact h
        · exact absurd hf' (hl a' h)
      subst this; exact ⟨rfl, rfl, rfl, rfl⟩
theorem SDrop.det {p p1 p2 : Pool} {l l1 l2 : List Qr} {t : Int} {e1 e2 : Nat} (hok : SlabOk l) (h1 : SDrop p l t e1 p1 l1) (h2 : SDrop p l t e2 p2 l2) : e1 = e2 ∧ p1 = p2 ∧ l1 = l2 := by
  have uni : ∀ {i k i' k' : Nat} {q q' : Qr}, l[i]? = some q → l[i']? = some q' → k < 4 → k' < 4 → t = 4 * (q.f : Int) + k → t = 4 * (q'.f : Int) + k' → i = i' ∧ k = k' ∧ q = q' := by
    intro i k i' k' q q' hq hq' hk hk' e e'
    have hqq := same_f hok (List.mem_of_getElem? hq) (List.mem_of_getElem? hq') (by omega)
    subst hqq
    refine ⟨?_, by omega, rfl⟩
    obtain ⟨hi, hi2⟩ := List.getElem?_eq_some_iff.1 hq
    obtain ⟨hi', hi2'⟩ := List.getElem?_eq_some_iff.1 hq'
    rcases Nat.lt_trichotomy i i' with h | h | h
    · have := List.pairwise_iff_getElem.1 hok.rise i i' hi hi' h; rw [hi2, hi2'] at this; omega
    · exact h
    · have := List.pairwise_iff_getElem.1 hok.rise i' i hi' hi h; rw [hi2, hi2'] at this; omega
  cases h1 with
  | none h => cases h2 with
    | none => exact ⟨rfl, rfl, rfl⟩
    | more i k q hq hk hu ht => exact absurd ht (h q (List.mem_of_getElem? hq) k hk hu)
    | last i k q hq hk hu ht => exact absurd ht (h q (List.mem_of_getElem? hq) k hk hu)
  | more i k q hq hk hu ht hm => cases h2 with
    | none h => exact absurd ht (h q (List.mem_of_getElem? hq) k hk hu)
    | more i' k' q' hq' hk' hu' ht' hm' =>
      obtain ⟨rfl, rfl, rfl⟩ := uni hq hq' hk hk' ht ht'
      exact ⟨rfl, rfl, rfl⟩
    | last i' k' q' hq' hk' hu' ht' hm' =>
      obtain ⟨rfl, rfl, rfl⟩ := uni hq hq' hk hk' ht ht'
      obtain ⟨j, j1, j2, j3⟩ := hm
      rw [hm' j j1 j2] at j3; cases j3
  | last i k q hq hk hu ht hm => cases h2 with
    | none h => exact absurd ht (h q (List.mem_of_getElem? hq) k hk hu)
    | more i' k' q' hq' hk' hu' ht' hm' =>
      obtain ⟨rfl, rfl, rfl⟩ := uni hq hq' hk hk' ht ht'
      obtain ⟨j, j1, j2, j3⟩ := hm'
      rw [hm j j1 j2] at j3; cases j3
    | last i' k' q' hq' hk' hu' ht' hm' =>
      obtain ⟨rfl, rfl, rfl⟩ := uni hq hq' hk hk' ht ht'
      exact ⟨rfl, rfl, rfl⟩
theorem turned_held {p : Pool} {l : List Qr} {k0 N : Nat} {fn : Nat → Nat} (h : Held p l) (hl : k0 + N ≤ p.u.length) (hf : ∀ q ∈ l, k0 ≤ q.f - p.first → q.f - p.first < k0 + N → 0 < fn (p.u.getD (q.f - p.first) 0)) : Held (p.turned k0 fn N) l := by
  intro q hq
  obtain ⟨h1, h2, h3⟩ := h q hq
  refine ⟨h1, by simp only [Pool.turned, turn_len]; exact h2, ?_⟩
  show 0 < (turn p.u k0 fn N).getD (q.f - p.first) 0
  rw [turn_get _ _ _ _ _ hl]
  split
  · rename_i hc; exact hf q hq hc.1 hc.2
  · exact h3
theorem PTake.held {p p' : Pool} {n al : Int} {r e : Nat} (h : PTake p n al r e p') {l : List Qr} (hl : Held p l) : Held p' l := by
  cases h with
  | bad => exact hl
  | none => exact hl
  | ok _ a hf => exact turned_held hl hf.2.1 fun q hq _ _ => Nat.one_pos
theorem qset_back {q : Qr} {k : Nat} (h : q.u k = false) : (q.set k true).set k false = q := by
  obtain ⟨f, u⟩ := q
  simp only [Qr.set, Qr.mk.injEq, true_and]
  funext j
  by_cases e : j = k
  · subst e; simpa using h
  · simp [e]
theorem insq_pos (f : Nat) : ∀ l : List Qr, ∃ i, (insq f l)[i]? = some (Qr.new f) ∧ (insq f l).take i ++ (insq f l).drop (i + 1) = l
  | [] => ⟨0, by simp [insq], by simp [insq]⟩
  | x :: r => by
    unfold insq
    split
    · obtain ⟨i, h1, h2⟩ := insq_pos f r
      exact ⟨i + 1, by simpa using h1, by simpa using h2⟩
    · exact ⟨0, by simp, by simp⟩
theorem turned_back {p : Pool} {a : Nat} (ha : a < p.u.length) (h0 : p.u.getD a 0 = 0) : (p.turned a (fun _ => 1) 1).turned a (· - 1) 1 = p := by
  obtain ⟨first, u⟩ := p
  simp only [Pool.turned, Pool.mk.injEq, true_and]
  apply List.ext_getElem?
  intro j
  have hl : (turn (turn u a (fun _ => 1) 1) a (· - 1) 1).length = u.length := by rw [turn_len, turn_len]
  by_cases hj : j < u.length
  · have h1 := turned_get ⟨first, turn u a (fun _ => 1) 1⟩ a (· - 1) j (by simpa [turn_len] using ha)
    have h2 := turned_get ⟨first, u⟩ a (fun _ => 1) j ha
    have h3 := turned_get ⟨first, u⟩ a (fun _ => 1) a ha
    simp only [Pool.turned] at h1 h2 h3
    rw [List.getElem?_eq_getElem (by omega), List.getElem?_eq_getElem hj]
    rw [getD_get (by omega)] at h1
    congr 1
    rw [h1, h3, h2]
    simp only at h0
    split
    · rename_i e; subst e
      rw [getD_get hj] at h0
      simp [h0]
    · rw [getD_get hj]
  · rw [List.getElem?_eq_none (by omega), List.getElem?_eq_none (by omega)]
theorem STake.undo {p p1 : Pool} {l l1 : List Qr} {r : Nat} (h : STake p l r 0 p1 l1) (hok : SlabOk l) : SDrop p1 l1 (r : Int) 0 p l := by
  generalize he : (0 : Nat) = e at h
  cases h with
  | old i k q hq hk h0 h1 h2 =>
    have hil := (List.getElem?_eq_some_iff.1 hq).1
    have hy : (l.set i (q.set k true))[i]? = some (q.set k true) := by simp [hil]
    obtain ⟨k', hk', hu'⟩ := hok.any q (List.mem_of_getElem? hq)
    have := SDrop.more (p := p) (l := l.set i (q.set k true)) (t := ((4 * q.f + k : Nat) : Int)) i k (q.set k true) hy hk (by simp [Qr.set]) (by show ((4 * q.f + k : Nat) : Int) = 4 * (q.f : Int) + k; omega)
      ⟨k', hk', (fun e => by rw [e, h0] at hu'; cases hu'), by simp [Qr.set, hu']⟩
    rw [qset_back h0, List.set_set] at this
    have e2 : l.set i q = l := by
      obtain ⟨h3, h4⟩ := List.getElem?_eq_some_iff.1 hq
      rw [← h4]; exact List.set_getElem_self h3
    rw [e2] at this
    exact he ▸ this
  | none => cases he
  | fresh hf a hfit hl =>
    have ha : a < p.u.length := by have := hfit.2.1; omega
    have hz := hfit.2.2 a (Nat.le_refl _) (by omega)
    obtain ⟨i, h1, h2⟩ := insq_pos (p.first + a) l
    have := SDrop.last (p := p.turned a (fun _ => 1) 1) (l := insq (p.first + a) l) (t := ((4 * (p.first + a) : Nat) : Int)) i 0 (Qr.new (p.first + a)) h1 (by decide) rfl (by show ((4 * (p.first + a) : Nat) : Int) = 4 * ((p.first + a : Nat) : Int) + ((0 : Nat) : Int); omega)
      (fun k' hk' hne => by simp [Qr.new, hne])
    rw [h2] at this
    have e3 : (Qr.new (p.first + a)).f - (p.turned a (fun _ => 1) 1).first = a := by show p.first + a - p.first = a; omega
    rw [e3, turned_back ha hz] at this
    exact he ▸ this
end Go.Proofs.YtmgjicnipgdjhaaGreatDoor
