import Derived.Test.YtmgjicnipgdjhaaGreatDoorP08
set_option linter.unusedVariables false
set_option linter.unusedSimpArgs false
set_option maxRecDepth 100000
namespace Go.Proofs.YtmgjicnipgdjhaaGreatDoor.tablesRefused
open Go
theorem c1:(Rows.tablesRefusedRow.inPlace==Tryz.pinned.checked.prog.inPlace 7)=true:=by kernel_rfl
theorem c2:(Rows.tablesRefusedRow.unfollowed==Tryz.pinned.checked.prog.unfollowed 7)=true:=by kernel_rfl
theorem c3:(Rows.tablesRefusedRow.recurses==Tryz.pinned.checked.prog.recurses 7)=true:=by kernel_rfl
theorem c4:(Rows.tablesRefusedRow.named==Tryz.pinned.checked.prog.varsNamed 7)=true:=by kernel_rfl
theorem closed:joinedFacts Tryz.pinned.checked.prog 7 Tryz.f7 Rows.tablesRefusedSpec Rows.tablesRefusedRow=true:=by
 unfold joinedFacts
 exact both_t (both_t (both_t (both_t (both_t (both_t (both_t (both_t (both_t (both_t (both_t (both_t (both_t (both_t (both_t (both_t (both_t (both_t (both_t (both_t (both_t (both_t (both_t (both_t (both_t (both_t (both_t (both_t (both_t (both_t (both_t (by kernel_rfl) cLaid) cMaps) (by kernel_rfl)) (by kernel_rfl)) (by kernel_rfl)) (by kernel_rfl)) (by kernel_rfl)) (by kernel_rfl)) c1) c2) c3) c4) (by kernel_rfl)) (by kernel_rfl)) (by kernel_rfl)) (by kernel_rfl)) (by kernel_rfl)) (by kernel_rfl)) (by kernel_rfl)) (by kernel_rfl)) (by kernel_rfl)) cPlain) (by kernel_rfl)) cHeard) cMay) cLift) cMake) (by kernel_rfl)) (by kernel_rfl)) (by kernel_rfl)) (by kernel_rfl)
end Go.Proofs.YtmgjicnipgdjhaaGreatDoor.tablesRefused
