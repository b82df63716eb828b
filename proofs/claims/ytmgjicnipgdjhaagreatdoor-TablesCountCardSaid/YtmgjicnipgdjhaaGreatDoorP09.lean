import Derived.Test.YtmgjicnipgdjhaaGreatDoorP08
set_option linter.unusedVariables false
set_option linter.unusedSimpArgs false
set_option maxRecDepth 100000
namespace Go.Proofs.YtmgjicnipgdjhaaGreatDoor.tablesCount
open Go
theorem c1:(Rows.tablesCountRow.inPlace==Tryz.pinned.checked.prog.inPlace 6)=true:=by kernel_rfl
theorem c2:(Rows.tablesCountRow.unfollowed==Tryz.pinned.checked.prog.unfollowed 6)=true:=by kernel_rfl
theorem c3:(Rows.tablesCountRow.recurses==Tryz.pinned.checked.prog.recurses 6)=true:=by kernel_rfl
theorem c4:(Rows.tablesCountRow.named==Tryz.pinned.checked.prog.varsNamed 6)=true:=by kernel_rfl
theorem closed:joinedFacts Tryz.pinned.checked.prog 6 Tryz.f6 Rows.tablesCountSpec Rows.tablesCountRow=true:=by
 unfold joinedFacts
 exact both_t (both_t (both_t (both_t (both_t (both_t (both_t (both_t (both_t (both_t (both_t (both_t (both_t (both_t (both_t (both_t (both_t (both_t (both_t (both_t (both_t (both_t (both_t (both_t (both_t (both_t (both_t (both_t (both_t (both_t (both_t (by kernel_rfl) cLaid) cMaps) (by kernel_rfl)) (by kernel_rfl)) (by kernel_rfl)) (by kernel_rfl)) (by kernel_rfl)) (by kernel_rfl)) c1) c2) c3) c4) (by kernel_rfl)) (by kernel_rfl)) (by kernel_rfl)) (by kernel_rfl)) (by kernel_rfl)) (by kernel_rfl)) (by kernel_rfl)) (by kernel_rfl)) (by kernel_rfl)) cPlain) (by kernel_rfl)) cHeard) cMay) cLift) cMake) (by kernel_rfl)) (by kernel_rfl)) (by kernel_rfl)) (by kernel_rfl)
end Go.Proofs.YtmgjicnipgdjhaaGreatDoor.tablesCount
