/-
  The facts of this translation that the engine asks: its types, its functions, and for each function how many slots it has. Printed by a program (wip/gen.py).
  Conditions: none.
-/
import Derived.Test.YtbkadgdhmfolaaaProg
import Derived.Test.YtbkadgdhmfolaaaMem2
namespace Go.Proofs.Ytbkadgdhmfolaaa
open Go Go.RowKit

noncomputable def gx : Gx where
  P := Try.prog
  tys := [
    ⟨3, .int .i64, 1, 8, .int .i64 0⟩,
    ⟨4, .bool, 1, 1, .bool false⟩,
    ⟨5, .int .u8, 1, 1, .int .u8 0⟩,
    ⟨9, .string, 1, 16, .string ByteArray.empty⟩,
    ⟨20, .interface #[], 1, 16, .nilIface⟩,
    ⟨23, .slice 59, 1, 24, .slice none 0 0⟩,
    ⟨25, .int .i64, 1, 8, .int .i64 0⟩,
    ⟨29, .struct #[{ name := "Beyond", type := 3, offset := 0, embedded := false, tag := "", pkgPath := "", byteOffset := 0 }, { name := "Lines", type := 3, offset := 1, embedded := false, tag := "", pkgPath := "", byteOffset := 8 }], 2, 16, .agg #[.int .i64 0, .int .i64 0]⟩,
    ⟨32, .slice 4, 1, 24, .slice none 0 0⟩,
    ⟨37, .slice 5, 1, 24, .slice none 0 0⟩,
    ⟨48, .slice 3, 1, 24, .slice none 0 0⟩,
    ⟨52, .array 3 37, 3, 72, .agg #[.slice none 0 0, .slice none 0 0, .slice none 0 0]⟩,
    ⟨57, .array 2 37, 2, 48, .agg #[.slice none 0 0, .slice none 0 0]⟩,
    ⟨59, .struct #[{ name := "Kind", type := 3, offset := 0, embedded := false, tag := "", pkgPath := "", byteOffset := 0 }, { name := "Text", type := 9, offset := 1, embedded := false, tag := "", pkgPath := "", byteOffset := 8 }, { name := "N", type := 3, offset := 2, embedded := false, tag := "", pkgPath := "", byteOffset := 24 }, { name := "A", type := 3, offset := 3, embedded := false, tag := "", pkgPath := "", byteOffset := 32 }, { name := "B", type := 3, offset := 4, embedded := false, tag := "", pkgPath := "", byteOffset := 40 }], 5, 48, .agg #[.int .i64 0, .string ByteArray.empty, .int .i64 0, .int .i64 0, .int .i64 0]⟩,
    ⟨64, .slice 32, 1, 24, .slice none 0 0⟩,
    ⟨66, .slice 23, 1, 24, .slice none 0 0⟩,
    ⟨68, .map 3 4, 1, 8, .map none⟩,
    ⟨69, .pointer 74, 1, 8, .pointer none⟩,
    ⟨70, .pointer 72, 1, 8, .pointer none⟩,
    ⟨72, .struct #[{ name := "addr", type := 70, offset := 0, embedded := false, tag := "", pkgPath := "strings", byteOffset := 0 }, { name := "buf", type := 37, offset := 1, embedded := false, tag := "", pkgPath := "strings", byteOffset := 8 }], 2, 32, .agg #[.pointer none, .slice none 0 0]⟩,
    ⟨74, .struct #[{ name := "Builder", type := 72, offset := 0, embedded := true, tag := "", pkgPath := "", byteOffset := 0 }, { name := "column", type := 3, offset := 2, embedded := false, tag := "", pkgPath := "koine/document", byteOffset := 32 }, { name := "pending", type := 3, offset := 3, embedded := false, tag := "", pkgPath := "koine/document", byteOffset := 40 }, { name := "wrong", type := 4, offset := 4, embedded := false, tag := "", pkgPath := "koine/document", byteOffset := 48 }], 5, 56, .agg #[.pointer none, .slice none 0 0, .int .i64 0, .int .i64 0, .bool false]⟩,
    ⟨76, .interface #[("koine/document.write", 78)], 1, 16, .nilIface⟩,
    ⟨80, .struct #[{ name := "indent", type := 3, offset := 0, embedded := false, tag := "", pkgPath := "koine/document", byteOffset := 0 }, { name := "flat", type := 4, offset := 1, embedded := false, tag := "", pkgPath := "koine/document", byteOffset := 8 }], 2, 16, .agg #[.int .i64 0, .bool false]⟩,
    ⟨84, .func #[3] #[] false, 1, 8, .nilFunc⟩,
    ⟨86, .pointer 89, 1, 8, .pointer none⟩,
    ⟨87, .map 96 91, 1, 8, .map none⟩,
    ⟨89, .struct #[{ name := "d", type := 23, offset := 0, embedded := false, tag := "", pkgPath := "koine/layout", byteOffset := 0 }, { name := "width", type := 3, offset := 1, embedded := false, tag := "", pkgPath := "koine/layout", byteOffset := 24 }, { name := "groups", type := 48, offset := 2, embedded := false, tag := "", pkgPath := "koine/layout", byteOffset := 32 }, { name := "hard", type := 32, offset := 3, embedded := false, tag := "", pkgPath := "koine/layout", byteOffset := 56 }, { name := "memo", type := 87, offset := 4, embedded := false, tag := "", pkgPath := "koine/layout", byteOffset := 80 }], 5, 88, .agg #[.slice none 0 0, .int .i64 0, .slice none 0 0, .slice none 0 0, .map none]⟩,
    ⟨90, .map 4 98, 1, 8, .map none⟩,
    ⟨91, .map 94 98, 1, 8, .map none⟩,
    ⟨94, .struct #[{ name := "column", type := 3, offset := 0, embedded := false, tag := "", pkgPath := "koine/layout", byteOffset := 0 }, { name := "written", type := 4, offset := 1, embedded := false, tag := "", pkgPath := "koine/layout", byteOffset := 8 }], 2, 16, .agg #[.int .i64 0, .bool false]⟩,
    ⟨96, .struct #[{ name := "node", type := 3, offset := 0, embedded := false, tag := "", pkgPath := "koine/layout", byteOffset := 0 }, { name := "indent", type := 3, offset := 1, embedded := false, tag := "", pkgPath := "koine/layout", byteOffset := 8 }, { name := "at", type := 94, offset := 2, embedded := false, tag := "", pkgPath := "koine/layout", byteOffset := 16 }], 4, 32, .agg #[.int .i64 0, .int .i64 0, .int .i64 0, .bool false]⟩,
    ⟨98, .struct #[{ name := "cost", type := 29, offset := 0, embedded := false, tag := "", pkgPath := "koine/layout", byteOffset := 0 }, { name := "choices", type := 9, offset := 2, embedded := false, tag := "", pkgPath := "koine/layout", byteOffset := 16 }], 3, 32, .agg #[.int .i64 0, .int .i64 0, .string ByteArray.empty]⟩,
    ⟨100, .func #[98, 98] #[4] false, 1, 8, .nilFunc⟩,
    ⟨101, .pointer 103, 1, 8, .pointer none⟩,
    ⟨103, .struct #[{ name := "d", type := 23, offset := 0, embedded := false, tag := "", pkgPath := "koine/koineref25", byteOffset := 0 }, { name := "groups", type := 48, offset := 1, embedded := false, tag := "", pkgPath := "koine/koineref25", byteOffset := 24 }, { name := "flat", type := 32, offset := 2, embedded := false, tag := "", pkgPath := "koine/koineref25", byteOffset := 48 }, { name := "out", type := 9, offset := 3, embedded := false, tag := "", pkgPath := "koine/koineref25", byteOffset := 72 }, { name := "column", type := 3, offset := 4, embedded := false, tag := "", pkgPath := "koine/koineref25", byteOffset := 88 }, { name := "pending", type := 3, offset := 5, embedded := false, tag := "", pkgPath := "koine/koineref25", byteOffset := 96 }, { name := "bad", type := 4, offset := 6, embedded := false, tag := "", pkgPath := "koine/koineref25", byteOffset := 104 }], 7, 112, .agg #[.slice none 0 0, .slice none 0 0, .slice none 0 0, .string ByteArray.empty, .int .i64 0, .int .i64 0, .bool false]⟩,
    ⟨105, .slice 9, 1, 24, .slice none 0 0⟩,
    ⟨106, .slice 76, 1, 24, .slice none 0 0⟩,
    ⟨107, .string, 1, 16, .string ByteArray.empty⟩,
    ⟨108, .string, 1, 16, .string ByteArray.empty⟩,
    ⟨110, .struct #[], 0, 0, .agg #[]⟩,
    ⟨112, .struct #[{ name := "a", type := 76, offset := 0, embedded := false, tag := "", pkgPath := "koine/document", byteOffset := 0 }, { name := "b", type := 76, offset := 1, embedded := false, tag := "", pkgPath := "koine/document", byteOffset := 16 }], 2, 32, .agg #[.nilIface, .nilIface]⟩,
    ⟨114, .struct #[{ name := "n", type := 3, offset := 0, embedded := false, tag := "", pkgPath := "koine/document", byteOffset := 0 }, { name := "a", type := 76, offset := 1, embedded := false, tag := "", pkgPath := "koine/document", byteOffset := 8 }], 2, 24, .agg #[.int .i64 0, .nilIface]⟩,
    ⟨116, .struct #[{ name := "a", type := 76, offset := 0, embedded := false, tag := "", pkgPath := "koine/document", byteOffset := 0 }], 1, 16, .agg #[.nilIface]⟩,
    ⟨118, .struct #[{ name := "a", type := 76, offset := 0, embedded := false, tag := "", pkgPath := "koine/document", byteOffset := 0 }, { name := "flat", type := 4, offset := 1, embedded := false, tag := "", pkgPath := "koine/document", byteOffset := 16 }], 2, 24, .agg #[.nilIface, .bool false]⟩,
    ⟨119, .pointer 5, 1, 8, .pointer none⟩,
    ⟨121, .func #[4, 3, 3] #[4] false, 1, 8, .nilFunc⟩,
    ⟨134, .int .u64, 1, 8, .int .u64 0⟩,
    ⟨138, .interface #[("Error", 81)], 1, 16, .nilIface⟩,
    ⟨144, .int .u32, 1, 4, .int .u32 0⟩,
    ⟨147, .int .u64, 1, 8, .int .u64 0⟩,
    ⟨151, .unsafePointer, 1, 8, .pointer none⟩]
  fns := [3, 4, 5, 6, 7, 8, 9, 10, 11, 12, 13, 14, 15, 16, 17, 18, 19, 20, 21, 22, 23, 24, 25, 26, 27, 28, 29, 30, 31, 32, 33, 34, 35, 36, 37, 38, 39, 40, 41, 42, 43, 44, 45, 46, 47, 48, 49, 50, 51, 52, 53, 54, 55, 56, 57, 58, 59, 60, 61, 62, 63, 64, 65, 66, 67, 68, 69, 70, 71, 72, 73, 74, 75, 77, 78, 79, 80, 81, 82, 83, 84, 86, 105, 106, 107, 108, 109, 110, 111, 112, 113, 114]
  ms := [⟨107, "koine/document.write", 105, false⟩, ⟨108, "koine/document.write", 107, false⟩, ⟨110, "koine/document.write", 110, false⟩, ⟨112, "koine/document.write", 111, false⟩, ⟨114, "koine/document.write", 112, false⟩, ⟨116, "koine/document.write", 113, false⟩, ⟨118, "koine/document.write", 114, false⟩]
  eqs := [⟨29, [0, 0]⟩]

theorem gx_tys : AllTy Try.prog gx.tys :=
  ⟨⟨by kernel_rfl, by kernel_rfl⟩,
   ⟨by kernel_rfl, by kernel_rfl⟩,
   ⟨by kernel_rfl, by kernel_rfl⟩,
   ⟨by kernel_rfl, by kernel_rfl⟩,
   ⟨by kernel_rfl, by kernel_rfl⟩,
   ⟨by kernel_rfl, by kernel_rfl⟩,
   ⟨by kernel_rfl, by kernel_rfl⟩,
   ⟨by kernel_rfl, by kernel_rfl⟩,
   ⟨by kernel_rfl, by kernel_rfl⟩,
   ⟨by kernel_rfl, by kernel_rfl⟩,
   ⟨by kernel_rfl, by kernel_rfl⟩,
   ⟨by kernel_rfl, by kernel_rfl⟩,
   ⟨by kernel_rfl, by kernel_rfl⟩,
   ⟨by kernel_rfl, by kernel_rfl⟩,
   ⟨by kernel_rfl, by kernel_rfl⟩,
   ⟨by kernel_rfl, by kernel_rfl⟩,
   ⟨by kernel_rfl, by kernel_rfl⟩,
   ⟨by kernel_rfl, by kernel_rfl⟩,
   ⟨by kernel_rfl, by kernel_rfl⟩,
   ⟨by kernel_rfl, by kernel_rfl⟩,
   ⟨by kernel_rfl, by kernel_rfl⟩,
   ⟨by kernel_rfl, by kernel_rfl⟩,
   ⟨by kernel_rfl, by kernel_rfl⟩,
   ⟨by kernel_rfl, by kernel_rfl⟩,
   ⟨by kernel_rfl, by kernel_rfl⟩,
   ⟨by kernel_rfl, by kernel_rfl⟩,
   ⟨by kernel_rfl, by kernel_rfl⟩,
   ⟨by kernel_rfl, by kernel_rfl⟩,
   ⟨by kernel_rfl, by kernel_rfl⟩,
   ⟨by kernel_rfl, by kernel_rfl⟩,
   ⟨by kernel_rfl, by kernel_rfl⟩,
   ⟨by kernel_rfl, by kernel_rfl⟩,
   ⟨by kernel_rfl, by kernel_rfl⟩,
   ⟨by kernel_rfl, by kernel_rfl⟩,
   ⟨by kernel_rfl, by kernel_rfl⟩,
   ⟨by kernel_rfl, by kernel_rfl⟩,
   ⟨by kernel_rfl, by kernel_rfl⟩,
   ⟨by kernel_rfl, by kernel_rfl⟩,
   ⟨by kernel_rfl, by kernel_rfl⟩,
   ⟨by kernel_rfl, by kernel_rfl⟩,
   ⟨by kernel_rfl, by kernel_rfl⟩,
   ⟨by kernel_rfl, by kernel_rfl⟩,
   ⟨by kernel_rfl, by kernel_rfl⟩,
   ⟨by kernel_rfl, by kernel_rfl⟩,
   ⟨by kernel_rfl, by kernel_rfl⟩,
   ⟨by kernel_rfl, by kernel_rfl⟩,
   ⟨by kernel_rfl, by kernel_rfl⟩,
   ⟨by kernel_rfl, by kernel_rfl⟩,
   ⟨by kernel_rfl, by kernel_rfl⟩,
   ⟨by kernel_rfl, by kernel_rfl⟩,
   ⟨by kernel_rfl, by kernel_rfl⟩, trivial⟩

theorem gx_fns : AllFn Try.prog gx.fns :=
  ⟨⟨_, Try.func3, by kernel_rfl, by kernel_rfl⟩,
   ⟨_, Try.func4, by kernel_rfl, by kernel_rfl⟩,
   ⟨_, Try.func5, by kernel_rfl, by kernel_rfl⟩,
   ⟨_, Try.func6, by kernel_rfl, by kernel_rfl⟩,
   ⟨_, Try.func7, by kernel_rfl, by kernel_rfl⟩,
   ⟨_, Try.func8, by kernel_rfl, by kernel_rfl⟩,
   ⟨_, Try.func9, by kernel_rfl, by kernel_rfl⟩,
   ⟨_, Try.func10, by kernel_rfl, by kernel_rfl⟩,
   ⟨_, Try.func11, by kernel_rfl, by kernel_rfl⟩,
   ⟨_, Try.func12, by kernel_rfl, by kernel_rfl⟩,
   ⟨_, Try.func13, by kernel_rfl, by kernel_rfl⟩,
   ⟨_, Try.func14, by kernel_rfl, by kernel_rfl⟩,
   ⟨_, Try.func15, by kernel_rfl, by kernel_rfl⟩,
   ⟨_, Try.func16, by kernel_rfl, by kernel_rfl⟩,
   ⟨_, Try.func17, by kernel_rfl, by kernel_rfl⟩,
   ⟨_, Try.func18, by kernel_rfl, by kernel_rfl⟩,
   ⟨_, Try.func19, by kernel_rfl, by kernel_rfl⟩,
   ⟨_, Try.func20, by kernel_rfl, by kernel_rfl⟩,
   ⟨_, Try.func21, by kernel_rfl, by kernel_rfl⟩,
   ⟨_, Try.func22, by kernel_rfl, by kernel_rfl⟩,
   ⟨_, Try.func23, by kernel_rfl, by kernel_rfl⟩,
   ⟨_, Try.func24, by kernel_rfl, by kernel_rfl⟩,
   ⟨_, Try.func25, by kernel_rfl, by kernel_rfl⟩,
   ⟨_, Try.func26, by kernel_rfl, by kernel_rfl⟩,
   ⟨_, Try.func27, by kernel_rfl, by kernel_rfl⟩,
   ⟨_, Try.func28, by kernel_rfl, by kernel_rfl⟩,
   ⟨_, Try.func29, by kernel_rfl, by kernel_rfl⟩,
   ⟨_, Try.func30, by kernel_rfl, by kernel_rfl⟩,
   ⟨_, Try.func31, by kernel_rfl, by kernel_rfl⟩,
   ⟨_, Try.func32, by kernel_rfl, by kernel_rfl⟩,
   ⟨_, Try.func33, by kernel_rfl, by kernel_rfl⟩,
   ⟨_, Try.func34, by kernel_rfl, by kernel_rfl⟩,
   ⟨_, Try.func35, by kernel_rfl, by kernel_rfl⟩,
   ⟨_, Try.func36, by kernel_rfl, by kernel_rfl⟩,
   ⟨_, Try.func37, by kernel_rfl, by kernel_rfl⟩,
   ⟨_, Try.func38, by kernel_rfl, by kernel_rfl⟩,
   ⟨_, Try.func39, by kernel_rfl, by kernel_rfl⟩,
   ⟨_, Try.func40, by kernel_rfl, by kernel_rfl⟩,
   ⟨_, Try.func41, by kernel_rfl, by kernel_rfl⟩,
   ⟨_, Try.func42, by kernel_rfl, by kernel_rfl⟩,
   ⟨_, Try.func43, by kernel_rfl, by kernel_rfl⟩,
   ⟨_, Try.func44, by kernel_rfl, by kernel_rfl⟩,
   ⟨_, Try.func45, by kernel_rfl, by kernel_rfl⟩,
   ⟨_, Try.func46, by kernel_rfl, by kernel_rfl⟩,
   ⟨_, Try.func47, by kernel_rfl, by kernel_rfl⟩,
   ⟨_, Try.func48, by kernel_rfl, by kernel_rfl⟩,
   ⟨_, Try.func49, by kernel_rfl, by kernel_rfl⟩,
   ⟨_, Try.func50, by kernel_rfl, by kernel_rfl⟩,
   ⟨_, Try.func51, by kernel_rfl, by kernel_rfl⟩,
   ⟨_, Try.func52, by kernel_rfl, by kernel_rfl⟩,
   ⟨_, Try.func53, by kernel_rfl, by kernel_rfl⟩,
   ⟨_, Try.func54, by kernel_rfl, by kernel_rfl⟩,
   ⟨_, Try.func55, by kernel_rfl, by kernel_rfl⟩,
   ⟨_, Try.func56, by kernel_rfl, by kernel_rfl⟩,
   ⟨_, Try.func57, by kernel_rfl, by kernel_rfl⟩,
   ⟨_, Try.func58, by kernel_rfl, by kernel_rfl⟩,
   ⟨_, Try.func59, by kernel_rfl, by kernel_rfl⟩,
   ⟨_, Try.func60, by kernel_rfl, by kernel_rfl⟩,
   ⟨_, Try.func61, by kernel_rfl, by kernel_rfl⟩,
   ⟨_, Try.func62, by kernel_rfl, by kernel_rfl⟩,
   ⟨_, Try.func63, by kernel_rfl, by kernel_rfl⟩,
   ⟨_, Try.func64, by kernel_rfl, by kernel_rfl⟩,
   ⟨_, Try.func65, by kernel_rfl, by kernel_rfl⟩,
   ⟨_, Try.func66, by kernel_rfl, by kernel_rfl⟩,
   ⟨_, Try.func67, by kernel_rfl, by kernel_rfl⟩,
   ⟨_, Try.func68, by kernel_rfl, by kernel_rfl⟩,
   ⟨_, Try.func69, by kernel_rfl, by kernel_rfl⟩,
   ⟨_, Try.func70, by kernel_rfl, by kernel_rfl⟩,
   ⟨_, Try.func71, by kernel_rfl, by kernel_rfl⟩,
   ⟨_, Try.func72, by kernel_rfl, by kernel_rfl⟩,
   ⟨_, Try.func73, by kernel_rfl, by kernel_rfl⟩,
   ⟨_, Try.func74, by kernel_rfl, by kernel_rfl⟩,
   ⟨_, Try.func75, by kernel_rfl, by kernel_rfl⟩,
   ⟨_, Try.func77, by kernel_rfl, by kernel_rfl⟩,
   ⟨_, Try.func78, by kernel_rfl, by kernel_rfl⟩,
   ⟨_, Try.func79, by kernel_rfl, by kernel_rfl⟩,
   ⟨_, Try.func80, by kernel_rfl, by kernel_rfl⟩,
   ⟨_, Try.func81, by kernel_rfl, by kernel_rfl⟩,
   ⟨_, Try.func82, by kernel_rfl, by kernel_rfl⟩,
   ⟨_, Try.func83, by kernel_rfl, by kernel_rfl⟩,
   ⟨_, Try.func84, by kernel_rfl, by kernel_rfl⟩,
   ⟨_, Try.func86, by kernel_rfl, by kernel_rfl⟩,
   ⟨_, Try.func105, by kernel_rfl, by kernel_rfl⟩,
   ⟨_, Try.func106, by kernel_rfl, by kernel_rfl⟩,
   ⟨_, Try.func107, by kernel_rfl, by kernel_rfl⟩,
   ⟨_, Try.func108, by kernel_rfl, by kernel_rfl⟩,
   ⟨_, Try.func109, by kernel_rfl, by kernel_rfl⟩,
   ⟨_, Try.func110, by kernel_rfl, by kernel_rfl⟩,
   ⟨_, Try.func111, by kernel_rfl, by kernel_rfl⟩,
   ⟨_, Try.func112, by kernel_rfl, by kernel_rfl⟩,
   ⟨_, Try.func113, by kernel_rfl, by kernel_rfl⟩,
   ⟨_, Try.func114, by kernel_rfl, by kernel_rfl⟩, trivial⟩

theorem gx_ms : AllM Try.prog gx.ms :=
  ⟨⟨by kernel_rfl, by kernel_rfl⟩,
   ⟨by kernel_rfl, by kernel_rfl⟩,
   ⟨by kernel_rfl, by kernel_rfl⟩,
   ⟨by kernel_rfl, by kernel_rfl⟩,
   ⟨by kernel_rfl, by kernel_rfl⟩,
   ⟨by kernel_rfl, by kernel_rfl⟩,
   ⟨by kernel_rfl, by kernel_rfl⟩, trivial⟩

theorem gx_eqs : AllE Try.prog gx.eqs :=
  ⟨⟨by kernel_rfl, by kernel_rfl, by kernel_rfl⟩, trivial⟩

theorem gx_ok : gx.Ok := ⟨gx_tys, gx_fns, by kernel_rfl, gx_ms, gx_eqs⟩

/-- koinelaw26.LayoutMatchesReference -/
noncomputable abbrev c3 : Cx := { g := gx, N := 83, named := 7, keep := [7, 8, 9, 10, 11, 12, 13, 14, 15, 29] }
/-- koinelaw26.LayoutMadeMatchesReference -/
noncomputable abbrev c4 : Cx := { g := gx, N := 87, named := 9, keep := [9, 10, 11, 12, 13, 14, 15, 16, 17, 25] }
/-- koinelaw26.LayoutLeast -/
noncomputable abbrev c5 : Cx := { g := gx, N := 89, named := 11, keep := [11, 12, 13, 14, 15, 16, 17, 18] }
/-- koinelaw26.LayoutFlat -/
noncomputable abbrev c6 : Cx := { g := gx, N := 99, named := 14, keep := [14, 15, 16, 17, 27, 32, 58] }
/-- koinelaw26.LayoutWidths -/
noncomputable abbrev c7 : Cx := { g := gx, N := 65, named := 10, keep := [10, 11, 13, 14] }
/-- koinelaw26.LayoutCongruence -/
noncomputable abbrev c8 : Cx := { g := gx, N := 105, named := 2, keep := [2, 4, 5, 6, 7, 8, 9, 10, 11, 12, 13, 14, 15, 16, 17, 18, 19] }
/-- koinelaw26.LayoutLines -/
noncomputable abbrev c9 : Cx := { g := gx, N := 91, named := 2, keep := [2, 4, 5, 6, 7, 8, 9, 10, 11, 12, 13, 14, 15, 16, 17] }
/-- koinelaw26.LayoutFills -/
noncomputable abbrev c10 : Cx := { g := gx, N := 80, named := 13, keep := [13, 14, 28, 39, 48] }
/-- koinelaw26.sanity -/
noncomputable abbrev c11 : Cx := { g := gx, N := 92, named := 12, keep := [13] }
/-- koineref25.Check -/
noncomputable abbrev c12 : Cx := { g := gx, N := 71, named := 6, keep := [8, 15, 21, 28, 45, 60, 67, 70] }
/-- koinelaw26.few -/
noncomputable abbrev c13 : Cx := { g := gx, N := 15, named := 3, keep := [] }
/-- layout.Best -/
noncomputable abbrev c14 : Cx := { g := gx, N := 34, named := 5, keep := [5, 6, 7, 8, 9, 17, 27] }
/-- koineref26.Best -/
noncomputable abbrev c15 : Cx := { g := gx, N := 31, named := 5, keep := [5, 6, 7, 8, 9, 18] }
/-- layout.Choices -/
noncomputable abbrev c16 : Cx := { g := gx, N := 11, named := 6, keep := [] }
/-- koineref26.Choices -/
noncomputable abbrev c17 : Cx := { g := gx, N := 69, named := 11, keep := [11, 12, 16, 23, 44, 60] }
/-- koineref26.SameBools -/
noncomputable abbrev c18 : Cx := { g := gx, N := 26, named := 6, keep := [10, 14, 25] }
/-- koinelaw26.made -/
noncomputable abbrev c19 : Cx := { g := gx, N := 10, named := 5, keep := [] }
/-- koineref25.Made -/
noncomputable abbrev c20 : Cx := { g := gx, N := 134, named := 13, keep := [23, 48, 57, 78, 93, 116, 124] }
/-- document.Render -/
noncomputable abbrev c21 : Cx := { g := gx, N := 56, named := 12, keep := [18, 24, 26, 27, 28, 29, 51] }
/-- koineref25.Choice -/
noncomputable abbrev c22 : Cx := { g := gx, N := 46, named := 10, keep := [19] }
/-- document.Cost -/
noncomputable abbrev c23 : Cx := { g := gx, N := 34, named := 4, keep := [4, 5, 6, 7, 8, 27] }
/-- koinelaw26.less -/
noncomputable abbrev c24 : Cx := { g := gx, N := 24, named := 2, keep := [2, 3, 4] }
/-- document.Groups -/
noncomputable abbrev c25 : Cx := { g := gx, N := 19, named := 1, keep := [1, 2, 3, 4, 5, 6, 10] }
/-- koineref25.Seq -/
noncomputable abbrev c26 : Cx := { g := gx, N := 20, named := 5, keep := [] }
/-- koineref25.Text -/
noncomputable abbrev c27 : Cx := { g := gx, N := 6, named := 3, keep := [] }
/-- koineref25.Wrap -/
noncomputable abbrev c28 : Cx := { g := gx, N := 18, named := 7, keep := [] }
/-- koinelaw26.gap -/
noncomputable abbrev c29 : Cx := { g := gx, N := 4, named := 1, keep := [] }
/-- koinelaw26.example -/
noncomputable abbrev c30 : Cx := { g := gx, N := 17, named := 3, keep := [] }
/-- koinelaw26.is -/
noncomputable abbrev c31 : Cx := { g := gx, N := 35, named := 12, keep := [12, 13] }
/-- koineref25.valid -/
noncomputable abbrev c32 : Cx := { g := gx, N := 106, named := 5, keep := [5, 6, 7, 31, 36, 43, 61, 77] }
/-- koineref25.operands -/
noncomputable abbrev c33 : Cx := { g := gx, N := 14, named := 3, keep := [3, 4, 8, 12] }
/-- koineref26.Few -/
noncomputable abbrev c34 : Cx := { g := gx, N := 12, named := 5, keep := [] }
/-- layout.choices -/
noncomputable abbrev c35 : Cx := { g := gx, N := 180, named := 9, keep := [9, 10, 12, 13, 15, 19, 26, 38, 39, 40, 41, 46, 47, 55, 104, 138, 156, 158, 167, 168, 169, 170] }
/-- koineref25.Render -/
noncomputable abbrev c36 : Cx := { g := gx, N := 40, named := 9, keep := [15, 21, 35] }
/-- koineref25.Cost -/
noncomputable abbrev c37 : Cx := { g := gx, N := 33, named := 4, keep := [4, 5, 6, 7, 12, 20, 27] }
/-- koineref26.Normal -/
noncomputable abbrev c38 : Cx := { g := gx, N := 119, named := 14, keep := [19, 20, 39, 45, 63, 73, 78, 84, 104] }
/-- koineref26.less -/
noncomputable abbrev c39 : Cx := { g := gx, N := 24, named := 2, keep := [2, 3, 4] }
/-- koineref25.leaf -/
noncomputable abbrev c40 : Cx := { g := gx, N := 41, named := 3, keep := [4, 5, 14, 23, 36] }
/-- document.parts -/
noncomputable abbrev c41 : Cx := { g := gx, N := 108, named := 7, keep := [7, 11, 12, 13, 14, 19, 20, 28, 36, 43, 60, 74, 86] }
/-- (*strings.Builder).String -/
noncomputable abbrev c42 : Cx := { g := gx, N := 14, named := 3, keep := [] }
/-- koineref25.Groups -/
noncomputable abbrev c43 : Cx := { g := gx, N := 15, named := 5, keep := [8] }
/-- koineref25.hard -/
noncomputable abbrev c44 : Cx := { g := gx, N := 37, named := 5, keep := [5, 6] }
/-- strings.Cut -/
noncomputable abbrev c45 : Cx := { g := gx, N := 13, named := 7, keep := [] }
/-- document.Check -/
noncomputable abbrev c46 : Cx := { g := gx, N := 69, named := 3, keep := [3, 4, 5, 6, 7, 8, 11, 16, 17, 18, 19, 52, 56, 57, 58, 64, 68] }
/-- document.Groups$1 -/
noncomputable abbrev c47 : Cx := { g := gx, N := 33, named := 5, keep := [5, 12, 20, 28] }
/-- document.arity -/
noncomputable abbrev c48 : Cx := { g := gx, N := 14, named := 3, keep := [3, 4, 8, 12] }
/-- koineref25.joined -/
noncomputable abbrev c49 : Cx := { g := gx, N := 46, named := 7, keep := [7, 14, 24, 34] }
/-- koineref26.groups -/
noncomputable abbrev c50 : Cx := { g := gx, N := 47, named := 5, keep := [9, 10, 27, 37] }
/-- (*layout.layouter).best -/
noncomputable abbrev c51 : Cx := { g := gx, N := 212, named := 3, keep := [3, 4, 5, 6, 7, 8, 9, 10, 11, 12, 13, 14, 15, 16, 17, 18, 19, 29, 41, 42, 57, 66, 77, 79, 91, 93, 122, 136, 148, 159, 161, 181] }
/-- layout.keep[bool,layout.result] -/
noncomputable abbrev c52 : Cx := { g := gx, N := 27, named := 6, keep := [6, 8, 9, 23] }
/-- layout.less -/
noncomputable abbrev c53 : Cx := { g := gx, N := 38, named := 2, keep := [2, 3, 4, 11, 25] }
/-- (*koineref25.writer).node -/
noncomputable abbrev c54 : Cx := { g := gx, N := 112, named := 8, keep := [8, 17, 18, 24, 26, 34, 49, 63, 74, 80, 99] }
/-- koineref26.Hard -/
noncomputable abbrev c55 : Cx := { g := gx, N := 41, named := 5, keep := [9, 10, 12, 30] }
/-- koineref25.walk -/
noncomputable abbrev c56 : Cx := { g := gx, N := 50, named := 6, keep := [12, 23, 39] }
/-- internal/stringslite.Cut -/
noncomputable abbrev c57 : Cx := { g := gx, N := 23, named := 8, keep := [12] }
/-- document.Check$1 -/
noncomputable abbrev c58 : Cx := { g := gx, N := 28, named := 8, keep := [9, 24] }
/-- document.fields -/
noncomputable abbrev c59 : Cx := { g := gx, N := 38, named := 1, keep := [1, 2, 3, 12, 23] }
/-- (*layout.layouter).write -/
noncomputable abbrev c60 : Cx := { g := gx, N := 41, named := 4, keep := [4, 6, 7, 8, 10, 14] }
/-- layout.keep[layout.place,layout.result] -/
noncomputable abbrev c61 : Cx := { g := gx, N := 27, named := 5, keep := [5, 6, 8, 9, 23] }
/-- (*layout.layouter).flat -/
noncomputable abbrev c62 : Cx := { g := gx, N := 67, named := 5, keep := [5, 6, 7, 8, 9, 10, 11, 20, 21, 31, 56] }
/-- strings.Repeat -/
noncomputable abbrev c63 : Cx := { g := gx, N := 125, named := 9, keep := [9, 10, 11, 12, 14, 18, 34, 40, 42, 43, 49, 58, 67, 76, 85, 96, 104, 113] }
/-- (*koineref25.writer).text -/
noncomputable abbrev c64 : Cx := { g := gx, N := 63, named := 5, keep := [6, 11, 53] }
/-- (*koineref25.writer).line -/
noncomputable abbrev c65 : Cx := { g := gx, N := 19, named := 4, keep := [] }
/-- (*koineref25.writer).chosen -/
noncomputable abbrev c66 : Cx := { g := gx, N := 31, named := 6, keep := [12, 23] }
/-- internal/stringslite.Index -/
noncomputable abbrev c67 : Cx := { g := gx, N := 143, named := 14, keep := [16, 24, 31, 36, 59, 64, 73, 93, 107, 114, 132, 139] }
/-- strings.Contains -/
noncomputable abbrev c68 : Cx := { g := gx, N := 9, named := 5, keep := [] }
/-- math/bits.Mul -/
noncomputable abbrev c69 : Cx := { g := gx, N := 30, named := 10, keep := [] }
/-- strings.HasPrefix -/
noncomputable abbrev c70 : Cx := { g := gx, N := 8, named := 5, keep := [] }
/-- (*strings.Builder).Grow -/
noncomputable abbrev c71 : Cx := { g := gx, N := 25, named := 4, keep := [7, 21] }
/-- (*strings.Builder).WriteString -/
noncomputable abbrev c72 : Cx := { g := gx, N := 19, named := 6, keep := [] }
/-- (*strings.Builder).Len -/
noncomputable abbrev c73 : Cx := { g := gx, N := 8, named := 3, keep := [] }
/-- koineref25.spaces -/
noncomputable abbrev c74 : Cx := { g := gx, N := 17, named := 5, keep := [9] }
/-- internal/stringslite.IndexByte -/
noncomputable abbrev c75 : Cx := { g := gx, N := 8, named := 5, keep := [] }
/-- internal/bytealg.Cutover -/
noncomputable abbrev c77 : Cx := { g := gx, N := 6, named := 3, keep := [] }
/-- internal/bytealg.IndexRabinKarp[string] -/
noncomputable abbrev c78 : Cx := { g := gx, N := 81, named := 11, keep := [20, 39, 44, 77] }
/-- strings.Index -/
noncomputable abbrev c79 : Cx := { g := gx, N := 8, named := 5, keep := [] }
/-- math/bits.Mul32 -/
noncomputable abbrev c80 : Cx := { g := gx, N := 17, named := 7, keep := [] }
/-- math/bits.Mul64 -/
noncomputable abbrev c81 : Cx := { g := gx, N := 51, named := 14, keep := [] }
/-- internal/stringslite.HasPrefix -/
noncomputable abbrev c82 : Cx := { g := gx, N := 18, named := 5, keep := [] }
/-- (*strings.Builder).copyCheck -/
noncomputable abbrev c83 : Cx := { g := gx, N := 20, named := 2, keep := [6, 19] }
/-- (*strings.Builder).grow -/
noncomputable abbrev c84 : Cx := { g := gx, N := 30, named := 5, keep := [] }
/-- internal/bytealg.hashStr[string] -/
noncomputable abbrev c86 : Cx := { g := gx, N := 39, named := 9, keep := [12, 25, 30] }
/-- (document.text).write -/
noncomputable abbrev c105 : Cx := { g := gx, N := 9, named := 5, keep := [] }
/-- (*document.writer).add -/
noncomputable abbrev c106 : Cx := { g := gx, N := 41, named := 4, keep := [5, 10] }
/-- (document.line).write -/
noncomputable abbrev c107 : Cx := { g := gx, N := 15, named := 5, keep := [5, 7] }
/-- (*document.writer).feed -/
noncomputable abbrev c108 : Cx := { g := gx, N := 15, named := 4, keep := [] }
/-- (*strings.Builder).WriteByte -/
noncomputable abbrev c109 : Cx := { g := gx, N := 17, named := 5, keep := [] }
/-- (document.hard).write -/
noncomputable abbrev c110 : Cx := { g := gx, N := 21, named := 3, keep := [5] }
/-- (document.seq).write -/
noncomputable abbrev c111 : Cx := { g := gx, N := 16, named := 3, keep := [3, 5] }
/-- (document.nest).write -/
noncomputable abbrev c112 : Cx := { g := gx, N := 17, named := 3, keep := [3, 5] }
/-- (document.align).write -/
noncomputable abbrev c113 : Cx := { g := gx, N := 26, named := 3, keep := [3, 5, 15] }
/-- (document.group).write -/
noncomputable abbrev c114 : Cx := { g := gx, N := 18, named := 3, keep := [3, 5] }

end Go.Proofs.Ytbkadgdhmfolaaa
