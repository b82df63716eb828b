import Derived.Test.YthpodlcbikialaaDoorG1
set_option linter.unusedVariables false
set_option linter.unusedSimpArgs false
namespace Go.Proofs.YthpodlcbikialaaDoor
open Go Go.Sh
def isOne (v : Value) : Bool := match v with | .int .i64 x => decide (x = 1) | _ => false
def pow2B (x : Nat) : Bool := [1, 2, 4, 8, 16, 32, 64, 128, 256, 512, 1024, 2048, 4096].contains x
set_option maxRecDepth 100000 in
theorem f68_all (w : World) : ∀ x : Nat, x < 4097 → F68 (x : Int) w fun v _ => isOne v = pow2B x := by
  unfold F68
  dsimp only
  clear w
  decide +kernel
end Go.Proofs.YthpodlcbikialaaDoor
