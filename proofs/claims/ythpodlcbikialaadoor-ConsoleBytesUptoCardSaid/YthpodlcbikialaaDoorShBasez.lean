import Derived.Test.YthpodlcbikialaaDoorShBase
set_option linter.unusedVariables false
set_option linter.unusedSimpArgs false
set_option maxRecDepth 100000
namespace Go.Proofs.YthpodlcbikialaaDoor
open Go Go.Sh
def undLz : List (Nat × TypeDesc) := [(0, Go.TypeDesc.tuple #[]),
  (3, Go.TypeDesc.int (Go.IntKind.i64)),
  (4, Go.TypeDesc.bool),
  (5, Go.TypeDesc.int (Go.IntKind.u8)),
  (9, Go.TypeDesc.string),
  (66, Go.TypeDesc.slice 5),
  (68, Go.TypeDesc.tuple #[66, 4]),
  (89, Go.TypeDesc.int (Go.IntKind.u64)),
  (101, Go.TypeDesc.int (Go.IntKind.u64)),
  (103, Go.TypeDesc.interface #[("Error", 140)]),
  (104, Go.TypeDesc.tuple #[101, 103]),
  (117, Go.TypeDesc.int (Go.IntKind.i64)),
  (120, Go.TypeDesc.pointer 125),
  (125, Go.TypeDesc.struct   #[{ name := "Func", type := 9, offset := 0, embedded := false, tag := "", pkgPath := "", byteOffset := 0 },     { name := "Num", type := 9, offset := 1, embedded := false, tag := "", pkgPath := "", byteOffset := 16 },     { name := "Err", type := 103, offset := 2, embedded := false, tag := "", pkgPath := "", byteOffset := 32 }]),
  (127, Go.TypeDesc.pointer 5)]
def sizLz : List (Nat × Nat) := [(0, 1), (3, 1), (4, 1), (5, 1), (9, 1), (66, 1), (68, 1), (89, 1), (101, 1), (103, 1), (104, 1), (117, 1), (120, 1), (125, 3), (127, 1)]
def zerLz : List (Nat × Value) := [(3, .int .i64 0),
  (4, .bool false),
  (5, .int .u8 0),
  (9, .string .empty),
  (66, .slice none 0 0),
  (89, .int .u64 0),
  (101, .int .u64 0),
  (103, .nilIface),
  (117, .int .i64 0),
  (120, .pointer none),
  (125, .agg #[.string .empty, .string .empty, .nilIface]),
  (127, .pointer none)]
def fnLz : List Nat := [37, 38, 39, 40, 62, 63, 64, 65, 66, 75, 76, 77, 78, 79, 80, 81, 82, 83]
theorem undGz : GoodU prog undLz := ⟨by kernel_rfl, by kernel_rfl, by kernel_rfl, by kernel_rfl, by kernel_rfl, by kernel_rfl, by kernel_rfl, by kernel_rfl, by kernel_rfl, by kernel_rfl, by kernel_rfl, by kernel_rfl, by kernel_rfl, by kernel_rfl, by kernel_rfl, trivial⟩
theorem sizGz : GoodS prog sizLz := ⟨by kernel_rfl, by kernel_rfl, by kernel_rfl, by kernel_rfl, by kernel_rfl, by kernel_rfl, by kernel_rfl, by kernel_rfl, by kernel_rfl, by kernel_rfl, by kernel_rfl, by kernel_rfl, by kernel_rfl, by kernel_rfl, by kernel_rfl, trivial⟩
theorem zerGz : GoodZ prog zerLz := ⟨by kernel_rfl, by kernel_rfl, by kernel_rfl, by kernel_rfl, by kernel_rfl, by kernel_rfl, by kernel_rfl, by kernel_rfl, by kernel_rfl, by kernel_rfl, by kernel_rfl, by kernel_rfl, trivial⟩
theorem fnGz : GoodF prog fnLz := ⟨by kernel_rfl, by kernel_rfl, by kernel_rfl, by kernel_rfl, by kernel_rfl, by kernel_rfl, by kernel_rfl, by kernel_rfl, by kernel_rfl, by kernel_rfl, by kernel_rfl, by kernel_rfl, by kernel_rfl, by kernel_rfl, by kernel_rfl, by kernel_rfl, by kernel_rfl, by kernel_rfl, trivial⟩
def tabz : Tab := tabOf undLz sizLz zerLz fnLz
theorem tabOkz : tabz.Ok prog := tabOf_ok undGz sizGz zerGz fnGz
end Go.Proofs.YthpodlcbikialaaDoor
