import Derived.Test.YtmgjicnipgdjhaaGreatDoorP10
set_option linter.unusedVariables false
set_option linter.unusedSimpArgs false
set_option maxRecDepth 100000
namespace Go.Proofs.YtmgjicnipgdjhaaGreatDoor.tablesBack
open Go
theorem c1 : (Rows.tablesBackRow.inPlace == Tryz.pinned.checked.prog.inPlace 4) = true := by kernel_rfl
theorem c2 : (Rows.tablesBackRow.unfollowed == Tryz.pinned.checked.prog.unfollowed 4) = true := by kernel_rfl
theorem c3 : (Rows.tablesBackRow.recurses == Tryz.pinned.checked.prog.recurses 4) = true := by kernel_rfl
theorem c4 : (Rows.tablesBackRow.named == Tryz.pinned.checked.prog.varsNamed 4) = true := by kernel_rfl
theorem closed : joinedFacts Tryz.pinned.checked.prog 4 Tryz.f4 Rows.tablesBackSpec Rows.tablesBackRow = true := by
  unfold joinedFacts
  exact both_t (both_t (both_t (both_t (both_t (both_t (both_t (both_t (both_t (both_t (both_t (both_t (both_t (both_t (both_t (both_t (both_t (both_t (both_t (both_t (both_t (both_t (both_t (both_t (both_t (both_t (both_t (both_t (both_t (both_t (both_t (by kernel_rfl) cLaid) cMaps) (by kernel_rfl)) (by kernel_rfl)) (by kernel_rfl)) (by kernel_rfl)) (by kernel_rfl)) (by kernel_rfl)) c1) c2) c3) c4) (by kernel_rfl)) (by kernel_rfl)) (by kernel_rfl)) (by kernel_rfl)) (by kernel_rfl)) (by kernel_rfl)) (by kernel_rfl)) (by kernel_rfl)) (by kernel_rfl)) cPlain) (by kernel_rfl)) cHeard) cMay) cLift) cMake) (by kernel_rfl)) (by kernel_rfl)) (by kernel_rfl)) (by kernel_rfl)
end Go.Proofs.YtmgjicnipgdjhaaGreatDoor.tablesBack
