import Derived.Test.YtmgjicnipgdjhaaGreatDoorP09
set_option linter.unusedVariables false
set_option linter.unusedSimpArgs false
set_option maxRecDepth 100000
namespace Go.Proofs.YtmgjicnipgdjhaaGreatDoor.tablesWalked
open Go
theorem c1:(Rows.tablesWalkedRow.inPlace==Tryz.pinned.checked.prog.inPlace 3)=true:=by kernel_rfl
theorem c2:(Rows.tablesWalkedRow.unfollowed==Tryz.pinned.checked.prog.unfollowed 3)=true:=by kernel_rfl
theorem c3:(Rows.tablesWalkedRow.recurses==Tryz.pinned.checked.prog.recurses 3)=true:=by kernel_rfl
theorem c4:(Rows.tablesWalkedRow.named==Tryz.pinned.checked.prog.varsNamed 3)=true:=by kernel_rfl
theorem closed:joinedFacts Tryz.pinned.checked.prog 3 Tryz.f3 Rows.tablesWalkedSpec Rows.tablesWalkedRow=true:=by
 unfold joinedFacts;exact q_ (q_ (q_ (q_ (q_ (q_ (q_ (q_ (q_ (q_ (q_ (q_ (q_ (q_ (q_ (q_ (q_ (q_ (q_ (q_ (q_ (q_ (q_ (q_ (q_ (q_ (q_ (q_ (q_ (q_ (q_ (by kernel_rfl) cLaid) cMaps) (by kernel_rfl)) (by kernel_rfl)) (by kernel_rfl)) (by kernel_rfl)) (by kernel_rfl)) (by kernel_rfl)) c1) c2) c3) c4) (by kernel_rfl)) (by kernel_rfl)) (by kernel_rfl)) (by kernel_rfl)) (by kernel_rfl)) (by kernel_rfl)) (by kernel_rfl)) (by kernel_rfl)) (by kernel_rfl)) cPlain) (by kernel_rfl)) cHeard) cMay) cLift) cMake) (by kernel_rfl)) (by kernel_rfl)) (by kernel_rfl)) (by kernel_rfl)
end Go.Proofs.YtmgjicnipgdjhaaGreatDoor.tablesWalked
