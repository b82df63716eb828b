import Derived.Test.YtmgjicnipgdjhaaGreatDoorP04
set_option linter.unusedVariables false
set_option linter.unusedSimpArgs false
set_option maxRecDepth 100000
set_option maxHeartbeats 4000000
namespace Go.Proofs.YtmgjicnipgdjhaaGreatDoor
open Go Go.Sh Go.Proofs
def F42a (pa1:Int) (w:World) (Q:KQ):Prop :=
 New w #[.int .i64 0,.int .u32 0,.int .u64 0,.int .i64 0,.int .i64 0,.int .u32 0,.bool false,.bool false] 57 fun a c=>S_8 c a (.int .i64 1) (.int .u32 4096) (.int .u64 pa1) (.int .i64 1) (.int .i64 3) (.int .u32 14) (.bool true) (.bool false) fun b=>B_ b a fun d e f g h i j k=>Q (Value.agg #[.int .i64 d,.int .u32 e,.int .u64 f,.int .i64 g,.int .i64 h,.int .u32 i,.bool j,.bool k]) b
theorem F42a_of {pa1 w Q} (h:F42a pa1 w Q):Ret prog 42 #[.int .u32 4096,.int .u64 pa1] w Q:=co Tryz.func42 h
end Go.Proofs.YtmgjicnipgdjhaaGreatDoor
