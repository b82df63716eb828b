import Derived.Test.YtmgjicnipgdjhaaGreatDoorP08
set_option linter.unusedVariables false
set_option linter.unusedSimpArgs false
set_option maxRecDepth 100000
namespace Go.Proofs.YtmgjicnipgdjhaaGreatDoor.tablesFresh
open Go
theorem c1:(Rows.tablesFreshRow.inPlace==Tryz.pinned.checked.prog.inPlace 5)=true:=by kernel_rfl
theorem c2:(Rows.tablesFreshRow.unfollowed==Tryz.pinned.checked.prog.unfollowed 5)=true:=by kernel_rfl
theorem c3:(Rows.tablesFreshRow.recurses==Tryz.pinned.checked.prog.recurses 5)=true:=by kernel_rfl
theorem c4:(Rows.tablesFreshRow.named==Tryz.pinned.checked.prog.varsNamed 5)=true:=by kernel_rfl
theorem closed:joinedFacts Tryz.pinned.checked.prog 5 Tryz.f5 Rows.tablesFreshSpec Rows.tablesFreshRow=true:=by
 unfold joinedFacts
 exact both_t (both_t (both_t (both_t (both_t (both_t (both_t (both_t (both_t (both_t (both_t (both_t (both_t (both_t (both_t (both_t (both_t (both_t (both_t (both_t (both_t (both_t (both_t (both_t (both_t (both_t (both_t (both_t (both_t (both_t (both_t (by kernel_rfl) cLaid) cMaps) (by kernel_rfl)) (by kernel_rfl)) (by kernel_rfl)) (by kernel_rfl)) (by kernel_rfl)) (by kernel_rfl)) c1) c2) c3) c4) (by kernel_rfl)) (by kernel_rfl)) (by kernel_rfl)) (by kernel_rfl)) (by kernel_rfl)) (by kernel_rfl)) (by kernel_rfl)) (by kernel_rfl)) (by kernel_rfl)) cPlain) (by kernel_rfl)) cHeard) cMay) cLift) cMake) (by kernel_rfl)) (by kernel_rfl)) (by kernel_rfl)) (by kernel_rfl)
end Go.Proofs.YtmgjicnipgdjhaaGreatDoor.tablesFresh
