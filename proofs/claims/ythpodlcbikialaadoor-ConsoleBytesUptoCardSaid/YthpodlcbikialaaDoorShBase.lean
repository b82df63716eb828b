import Derived.Test.YthpodlcbikialaaDoorShAll
import Derived.Test.YthpodlcbikialaaDoorProg
set_option linter.unusedVariables false
set_option linter.unusedSimpArgs false
set_option maxRecDepth 100000
namespace Go.Proofs.YthpodlcbikialaaDoor
open Go Go.Sh
noncomputable abbrev prog : Program := Go.Proofs.Tryd.prog
theorem mixed : prog.follows .mixedOrders = true := by kernel_rfl
def undL : List (Nat × TypeDesc) := [(0, Go.TypeDesc.tuple #[]),
  (3, Go.TypeDesc.int (Go.IntKind.i64)),
  (4, Go.TypeDesc.bool),
  (5, Go.TypeDesc.int (Go.IntKind.u8)),
  (9, Go.TypeDesc.string),
  (22, Go.TypeDesc.pointer 36),
  (23, Go.TypeDesc.tuple #[22, 4]),
  (25, Go.TypeDesc.pointer 80),
  (26, Go.TypeDesc.int (Go.IntKind.i64)),
  (27, Go.TypeDesc.tuple #[25, 26]),
  (31, Go.TypeDesc.pointer 83),
  (32, Go.TypeDesc.pointer 99),
  (33, Go.TypeDesc.slice 25),
  (34, Go.TypeDesc.slice 75),
  (36, Go.TypeDesc.struct   #[{ name := "p",       type := 31,       offset := 0,       embedded := false,       tag := "",       pkgPath := "atlas/atlaslaw04",       byteOffset := 0 },     { name := "r",       type := 32,       offset := 1,       embedded := false,       tag := "",       pkgPath := "atlas/atlaslaw04",       byteOffset := 8 },     { name := "s",       type := 33,       offset := 2,       embedded := false,       tag := "",       pkgPath := "atlas/atlaslaw04",       byteOffset := 16 },     { name := "t",       type := 34,       offset := 3,       embedded := false,       tag := "",       pkgPath := "atlas/atlaslaw04",       byteOffset := 40 }]),
  (38, Go.TypeDesc.slice 3),
  (41, Go.TypeDesc.slice 47),
  (42, Go.TypeDesc.tuple #[31, 3, 3]),
  (44, Go.TypeDesc.tuple #[3, 26]),
  (47, Go.TypeDesc.struct   #[{ name := "Kind", type := 3, offset := 0, embedded := false, tag := "", pkgPath := "", byteOffset := 0 },     { name := "First", type := 3, offset := 1, embedded := false, tag := "", pkgPath := "", byteOffset := 8 },     { name := "N", type := 3, offset := 2, embedded := false, tag := "", pkgPath := "", byteOffset := 16 },     { name := "Align", type := 3, offset := 3, embedded := false, tag := "", pkgPath := "", byteOffset := 24 },     { name := "Which", type := 3, offset := 4, embedded := false, tag := "", pkgPath := "", byteOffset := 32 }]),
  (55, Go.TypeDesc.slice 58),
  (58, Go.TypeDesc.struct   #[{ name := "First", type := 3, offset := 0, embedded := false, tag := "", pkgPath := "", byteOffset := 0 },     { name := "Count", type := 3, offset := 1, embedded := false, tag := "", pkgPath := "", byteOffset := 8 }]),
  (66, Go.TypeDesc.slice 5),
  (71, Go.TypeDesc.tuple #[31, 26]),
  (73, Go.TypeDesc.tuple #[32, 3]),
  (75, Go.TypeDesc.pointer 109),
  (76, Go.TypeDesc.tuple #[75, 3]),
  (78, Go.TypeDesc.slice 86),
  (80, Go.TypeDesc.struct   #[{ name := "pool",       type := 31,       offset := 0,       embedded := false,       tag := "",       pkgPath := "atlas/frames",       byteOffset := 0 },     { name := "l", type := 78, offset := 1, embedded := false, tag := "", pkgPath := "atlas/frames", byteOffset := 8 }]),
  (81, Go.TypeDesc.slice 101),
  (83, Go.TypeDesc.struct   #[{ name := "first",       type := 3,       offset := 0,       embedded := false,       tag := "",       pkgPath := "atlas/frames",       byteOffset := 0 },     { name := "count",       type := 3,       offset := 1,       embedded := false,       tag := "",       pkgPath := "atlas/frames",       byteOffset := 8 },     { name := "uses",       type := 66,       offset := 2,       embedded := false,       tag := "",       pkgPath := "atlas/frames",       byteOffset := 16 },     { name := "used",       type := 81,       offset := 3,       embedded := false,       tag := "",       pkgPath := "atlas/frames",       byteOffset := 40 },     { name := "free",       type := 3,       offset := 4,       embedded := false,       tag := "",       pkgPath := "atlas/frames",       byteOffset := 64 }]),
  (84, Go.TypeDesc.array 4 4),
  (86, Go.TypeDesc.struct   #[{ name := "frame",       type := 3,       offset := 0,       embedded := false,       tag := "",       pkgPath := "atlas/frames",       byteOffset := 0 },     { name := "used",       type := 84,       offset := 1,       embedded := false,       tag := "",       pkgPath := "atlas/frames",       byteOffset := 8 }]),
  (89, Go.TypeDesc.int (Go.IntKind.u64)),
  (93, Go.TypeDesc.pointer 86),
  (94, Go.TypeDesc.tuple #[3, 3]),
  (99, Go.TypeDesc.struct   #[{ name := "First", type := 3, offset := 0, embedded := false, tag := "", pkgPath := "", byteOffset := 0 },     { name := "Used", type := 38, offset := 1, embedded := false, tag := "", pkgPath := "", byteOffset := 8 }]),
  (101, Go.TypeDesc.int (Go.IntKind.u64)),
  (109, Go.TypeDesc.struct   #[{ name := "P", type := 32, offset := 0, embedded := false, tag := "", pkgPath := "", byteOffset := 0 },     { name := "Used", type := 38, offset := 1, embedded := false, tag := "", pkgPath := "", byteOffset := 8 }]),
  (111, Go.TypeDesc.int (Go.IntKind.u32)),
  (116, Go.TypeDesc.array 64 5)]
def sizL : List (Nat × Nat) := [(0, 1), (3, 1), (4, 1), (5, 1), (9, 1), (22, 1), (23, 1), (25, 1), (26, 1), (27, 1), (31, 1), (32, 1), (33, 1), (34, 1), (36, 4), (38, 1), (41, 1), (42, 1), (44, 1), (47, 5), (55, 1), (58, 2), (66, 1), (71, 1), (73, 1), (75, 1), (76, 1), (78, 1), (80, 2), (81, 1), (83, 5), (84, 4), (86, 5), (89, 1), (93, 1), (94, 1), (99, 2), (101, 1), (109, 2), (111, 1), (116, 64)]
def zerL : List (Nat × Value) := [(3, .int .i64 0),
  (4, .bool false),
  (5, .int .u8 0),
  (9, .string .empty),
  (22, .pointer none),
  (25, .pointer none),
  (26, .int .i64 0),
  (31, .pointer none),
  (32, .pointer none),
  (33, .slice none 0 0),
  (34, .slice none 0 0),
  (36, .agg #[.pointer none, .pointer none, .slice none 0 0, .slice none 0 0]),
  (38, .slice none 0 0),
  (41, .slice none 0 0),
  (47, .agg #[.int .i64 0, .int .i64 0, .int .i64 0, .int .i64 0, .int .i64 0]),
  (55, .slice none 0 0),
  (58, .agg #[.int .i64 0, .int .i64 0]),
  (66, .slice none 0 0),
  (75, .pointer none),
  (78, .slice none 0 0),
  (80, .agg #[.pointer none, .slice none 0 0]),
  (81, .slice none 0 0),
  (83, .agg #[.int .i64 0, .int .i64 0, .slice none 0 0, .slice none 0 0, .int .i64 0]),
  (84, .agg #[.bool false, .bool false, .bool false, .bool false]),
  (86, .agg #[.int .i64 0, .bool false, .bool false, .bool false, .bool false]),
  (89, .int .u64 0),
  (93, .pointer none),
  (99, .agg #[.int .i64 0, .slice none 0 0]),
  (101, .int .u64 0),
  (109, .agg #[.pointer none, .slice none 0 0]),
  (111, .int .u32 0),
  (116, .agg #[.int .u8 0, .int .u8 0, .int .u8 0, .int .u8 0, .int .u8 0, .int .u8 0, .int .u8 0, .int .u8 0, .int .u8 0, .int .u8 0, .int .u8 0, .int .u8 0, .int .u8 0, .int .u8 0, .int .u8 0, .int .u8 0, .int .u8 0, .int .u8 0, .int .u8 0, .int .u8 0, .int .u8 0, .int .u8 0, .int .u8 0, .int .u8 0, .int .u8 0, .int .u8 0, .int .u8 0, .int .u8 0, .int .u8 0, .int .u8 0, .int .u8 0, .int .u8 0, .int .u8 0, .int .u8 0, .int .u8 0, .int .u8 0, .int .u8 0, .int .u8 0, .int .u8 0, .int .u8 0, .int .u8 0, .int .u8 0, .int .u8 0, .int .u8 0, .int .u8 0, .int .u8 0, .int .u8 0, .int .u8 0, .int .u8 0, .int .u8 0, .int .u8 0, .int .u8 0, .int .u8 0, .int .u8 0, .int .u8 0, .int .u8 0, .int .u8 0, .int .u8 0, .int .u8 0, .int .u8 0, .int .u8 0, .int .u8 0, .int .u8 0, .int .u8 0])]
def fnL : List Nat := [11, 12, 13, 14, 15, 16, 17, 18, 19, 20, 21, 22, 23, 24, 25, 26, 27, 28, 29, 30, 31, 32, 33, 34, 35, 36, 41, 42, 43, 44, 45, 46, 47, 48, 49, 50, 51, 52, 53, 54, 55, 56, 57, 58, 59, 60, 61, 67, 68, 69, 70, 71, 72, 73, 74]
theorem undG : GoodU prog undL := ⟨by kernel_rfl, by kernel_rfl, by kernel_rfl, by kernel_rfl, by kernel_rfl, by kernel_rfl, by kernel_rfl, by kernel_rfl, by kernel_rfl, by kernel_rfl, by kernel_rfl, by kernel_rfl, by kernel_rfl, by kernel_rfl, by kernel_rfl, by kernel_rfl, by kernel_rfl, by kernel_rfl, by kernel_rfl, by kernel_rfl, by kernel_rfl, by kernel_rfl, by kernel_rfl, by kernel_rfl, by kernel_rfl, by kernel_rfl, by kernel_rfl, by kernel_rfl, by kernel_rfl, by kernel_rfl, by kernel_rfl, by kernel_rfl, by kernel_rfl, by kernel_rfl, by kernel_rfl, by kernel_rfl, by kernel_rfl, by kernel_rfl, by kernel_rfl, by kernel_rfl, by kernel_rfl, trivial⟩
theorem sizG : GoodS prog sizL := ⟨by kernel_rfl, by kernel_rfl, by kernel_rfl, by kernel_rfl, by kernel_rfl, by kernel_rfl, by kernel_rfl, by kernel_rfl, by kernel_rfl, by kernel_rfl, by kernel_rfl, by kernel_rfl, by kernel_rfl, by kernel_rfl, by kernel_rfl, by kernel_rfl, by kernel_rfl, by kernel_rfl, by kernel_rfl, by kernel_rfl, by kernel_rfl, by kernel_rfl, by kernel_rfl, by kernel_rfl, by kernel_rfl, by kernel_rfl, by kernel_rfl, by kernel_rfl, by kernel_rfl, by kernel_rfl, by kernel_rfl, by kernel_rfl, by kernel_rfl, by kernel_rfl, by kernel_rfl, by kernel_rfl, by kernel_rfl, by kernel_rfl, by kernel_rfl, by kernel_rfl, by kernel_rfl, trivial⟩
theorem zerG : GoodZ prog zerL := ⟨by kernel_rfl, by kernel_rfl, by kernel_rfl, by kernel_rfl, by kernel_rfl, by kernel_rfl, by kernel_rfl, by kernel_rfl, by kernel_rfl, by kernel_rfl, by kernel_rfl, by kernel_rfl, by kernel_rfl, by kernel_rfl, by kernel_rfl, by kernel_rfl, by kernel_rfl, by kernel_rfl, by kernel_rfl, by kernel_rfl, by kernel_rfl, by kernel_rfl, by kernel_rfl, by kernel_rfl, by kernel_rfl, by kernel_rfl, by kernel_rfl, by kernel_rfl, by kernel_rfl, by kernel_rfl, by kernel_rfl, by kernel_rfl, trivial⟩
theorem fnG : GoodF prog fnL := ⟨by kernel_rfl, by kernel_rfl, by kernel_rfl, by kernel_rfl, by kernel_rfl, by kernel_rfl, by kernel_rfl, by kernel_rfl, by kernel_rfl, by kernel_rfl, by kernel_rfl, by kernel_rfl, by kernel_rfl, by kernel_rfl, by kernel_rfl, by kernel_rfl, by kernel_rfl, by kernel_rfl, by kernel_rfl, by kernel_rfl, by kernel_rfl, by kernel_rfl, by kernel_rfl, by kernel_rfl, by kernel_rfl, by kernel_rfl, by kernel_rfl, by kernel_rfl, by kernel_rfl, by kernel_rfl, by kernel_rfl, by kernel_rfl, by kernel_rfl, by kernel_rfl, by kernel_rfl, by kernel_rfl, by kernel_rfl, by kernel_rfl, by kernel_rfl, by kernel_rfl, by kernel_rfl, by kernel_rfl, by kernel_rfl, by kernel_rfl, by kernel_rfl, by kernel_rfl, by kernel_rfl, by kernel_rfl, by kernel_rfl, by kernel_rfl, by kernel_rfl, by kernel_rfl, by kernel_rfl, by kernel_rfl, by kernel_rfl, trivial⟩
def tab : Tab := tabOf undL sizL zerL fnL
theorem tabOk : tab.Ok prog := tabOf_ok undG sizG zerG fnG
end Go.Proofs.YthpodlcbikialaaDoor
