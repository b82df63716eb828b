import Derived.Test.YtmgjicnipgdjhaaGreatDoorP08
import Derived.Test.YtmgjicnipgdjhaaGreatDoorCards
import Derived.JoinedOf
set_option linter.unusedVariables false
set_option linter.unusedSimpArgs false
set_option maxRecDepth 100000
namespace Go.Proofs.YtmgjicnipgdjhaaGreatDoor
open Go
theorem cMay:Tryz.pinned.checked.prog.mayEnter=true:=by kernel_rfl
theorem cLift:(Rows.tablesBackRow.lifted==Tryz.pinned.checked.prog.liftsFinal)=true:=by kernel_rfl
theorem cMake:(Tryz.pinned.checked.prog.make==some Rows.tablesBackRow.make)=true:=by kernel_rfl
theorem cHeard:Tryz.pinned.checked.prog.stopsHeard=true:=by kernel_rfl
theorem cPlain:(Rows.tablesBackRow.plainKeys==Tryz.pinned.checked.prog.plainKeys)=true:=by kernel_rfl
theorem cLaid:laidOutB Tryz.pinned.checked.prog=true:=by kernel_rfl
theorem cMaps:mapsRowed Tryz.pinned.checked.prog=true:=by kernel_rfl
theorem q_ {a b:Bool} (h:a=true) (k:b=true):(a && b)=true:=by rw [h,k];rfl
end Go.Proofs.YtmgjicnipgdjhaaGreatDoor
