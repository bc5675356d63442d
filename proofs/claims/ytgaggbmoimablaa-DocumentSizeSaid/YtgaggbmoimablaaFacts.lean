/-
  The facts of this translation that the engine asks: its types, its functions, and for each function how many slots it has. Printed by a program (wip/gen.py).
  Conditions: none.
-/
import Derived.Test.YtgaggbmoimablaaProg
import Derived.Test.YtgaggbmoimablaaMem2
namespace Go.Proofs.Ytgaggbmoimablaa
open Go Go.RowKit

noncomputable def gx : Gx where
  P := Try.prog
  tys := [
    ⟨3, .int .i64, 1, 8, .int .i64 0⟩,
    ⟨4, .bool, 1, 1, .bool false⟩,
    ⟨5, .int .u8, 1, 1, .int .u8 0⟩,
    ⟨9, .string, 1, 16, .string ByteArray.empty⟩,
    ⟨20, .interface #[], 1, 16, .nilIface⟩,
    ⟨22, .slice 5, 1, 24, .slice none 0 0⟩,
    ⟨23, .slice 4, 1, 24, .slice none 0 0⟩,
    ⟨26, .slice 42, 1, 24, .slice none 0 0⟩,
    ⟨28, .slice 3, 1, 24, .slice none 0 0⟩,
    ⟨29, .int .i64, 1, 8, .int .i64 0⟩,
    ⟨36, .struct #[{ name := "Beyond", type := 3, offset := 0, embedded := false, tag := "", pkgPath := "", byteOffset := 0 }, { name := "Lines", type := 3, offset := 1, embedded := false, tag := "", pkgPath := "", byteOffset := 8 }], 2, 16, .agg #[.int .i64 0, .int .i64 0]⟩,
    ⟨42, .struct #[{ name := "Kind", type := 3, offset := 0, embedded := false, tag := "", pkgPath := "", byteOffset := 0 }, { name := "Text", type := 9, offset := 1, embedded := false, tag := "", pkgPath := "", byteOffset := 8 }, { name := "N", type := 3, offset := 2, embedded := false, tag := "", pkgPath := "", byteOffset := 24 }, { name := "A", type := 3, offset := 3, embedded := false, tag := "", pkgPath := "", byteOffset := 32 }, { name := "B", type := 3, offset := 4, embedded := false, tag := "", pkgPath := "", byteOffset := 40 }], 5, 48, .agg #[.int .i64 0, .string ByteArray.empty, .int .i64 0, .int .i64 0, .int .i64 0]⟩,
    ⟨49, .array 3 22, 3, 72, .agg #[.slice none 0 0, .slice none 0 0, .slice none 0 0]⟩,
    ⟨50, .array 2 5, 2, 2, .agg #[.int .u8 0, .int .u8 0]⟩,
    ⟨57, .slice 26, 1, 24, .slice none 0 0⟩,
    ⟨59, .func #[3] #[] false, 1, 8, .nilFunc⟩,
    ⟨62, .map 3 4, 1, 8, .map none⟩,
    ⟨63, .pointer 68, 1, 8, .pointer none⟩,
    ⟨64, .pointer 66, 1, 8, .pointer none⟩,
    ⟨66, .struct #[{ name := "addr", type := 64, offset := 0, embedded := false, tag := "", pkgPath := "strings", byteOffset := 0 }, { name := "buf", type := 22, offset := 1, embedded := false, tag := "", pkgPath := "strings", byteOffset := 8 }], 2, 32, .agg #[.pointer none, .slice none 0 0]⟩,
    ⟨68, .struct #[{ name := "Builder", type := 66, offset := 0, embedded := true, tag := "", pkgPath := "", byteOffset := 0 }, { name := "column", type := 3, offset := 2, embedded := false, tag := "", pkgPath := "koine/document", byteOffset := 32 }, { name := "pending", type := 3, offset := 3, embedded := false, tag := "", pkgPath := "koine/document", byteOffset := 40 }, { name := "wrong", type := 4, offset := 4, embedded := false, tag := "", pkgPath := "koine/document", byteOffset := 48 }], 5, 56, .agg #[.pointer none, .slice none 0 0, .int .i64 0, .int .i64 0, .bool false]⟩,
    ⟨70, .interface #[("koine/document.write", 72)], 1, 16, .nilIface⟩,
    ⟨74, .struct #[{ name := "indent", type := 3, offset := 0, embedded := false, tag := "", pkgPath := "koine/document", byteOffset := 0 }, { name := "flat", type := 4, offset := 1, embedded := false, tag := "", pkgPath := "koine/document", byteOffset := 8 }], 2, 16, .agg #[.int .i64 0, .bool false]⟩,
    ⟨76, .pointer 78, 1, 8, .pointer none⟩,
    ⟨78, .struct #[{ name := "d", type := 26, offset := 0, embedded := false, tag := "", pkgPath := "koine/koineref25", byteOffset := 0 }, { name := "groups", type := 28, offset := 1, embedded := false, tag := "", pkgPath := "koine/koineref25", byteOffset := 24 }, { name := "flat", type := 23, offset := 2, embedded := false, tag := "", pkgPath := "koine/koineref25", byteOffset := 48 }, { name := "out", type := 9, offset := 3, embedded := false, tag := "", pkgPath := "koine/koineref25", byteOffset := 72 }, { name := "column", type := 3, offset := 4, embedded := false, tag := "", pkgPath := "koine/koineref25", byteOffset := 88 }, { name := "pending", type := 3, offset := 5, embedded := false, tag := "", pkgPath := "koine/koineref25", byteOffset := 96 }, { name := "bad", type := 4, offset := 6, embedded := false, tag := "", pkgPath := "koine/koineref25", byteOffset := 104 }], 7, 112, .agg #[.slice none 0 0, .slice none 0 0, .slice none 0 0, .string ByteArray.empty, .int .i64 0, .int .i64 0, .bool false]⟩,
    ⟨82, .func #[4, 3, 3] #[4] false, 1, 8, .nilFunc⟩,
    ⟨84, .slice 9, 1, 24, .slice none 0 0⟩,
    ⟨85, .slice 70, 1, 24, .slice none 0 0⟩,
    ⟨86, .string, 1, 16, .string ByteArray.empty⟩,
    ⟨87, .string, 1, 16, .string ByteArray.empty⟩,
    ⟨89, .struct #[], 0, 0, .agg #[]⟩,
    ⟨91, .struct #[{ name := "a", type := 70, offset := 0, embedded := false, tag := "", pkgPath := "koine/document", byteOffset := 0 }, { name := "b", type := 70, offset := 1, embedded := false, tag := "", pkgPath := "koine/document", byteOffset := 16 }], 2, 32, .agg #[.nilIface, .nilIface]⟩,
    ⟨93, .struct #[{ name := "n", type := 3, offset := 0, embedded := false, tag := "", pkgPath := "koine/document", byteOffset := 0 }, { name := "a", type := 70, offset := 1, embedded := false, tag := "", pkgPath := "koine/document", byteOffset := 8 }], 2, 24, .agg #[.int .i64 0, .nilIface]⟩,
    ⟨95, .struct #[{ name := "a", type := 70, offset := 0, embedded := false, tag := "", pkgPath := "koine/document", byteOffset := 0 }], 1, 16, .agg #[.nilIface]⟩,
    ⟨97, .struct #[{ name := "a", type := 70, offset := 0, embedded := false, tag := "", pkgPath := "koine/document", byteOffset := 0 }, { name := "flat", type := 4, offset := 1, embedded := false, tag := "", pkgPath := "koine/document", byteOffset := 16 }], 2, 24, .agg #[.nilIface, .bool false]⟩,
    ⟨98, .pointer 5, 1, 8, .pointer none⟩,
    ⟨105, .int .u64, 1, 8, .int .u64 0⟩,
    ⟨106, .int .u32, 1, 4, .int .u32 0⟩,
    ⟨123, .interface #[("Error", 75)], 1, 16, .nilIface⟩,
    ⟨129, .unsafePointer, 1, 8, .pointer none⟩,
    ⟨132, .int .u64, 1, 8, .int .u64 0⟩]
  fns := [3, 4, 5, 6, 7, 8, 9, 10, 11, 12, 13, 14, 15, 16, 17, 18, 19, 20, 21, 22, 23, 24, 25, 26, 27, 28, 29, 30, 31, 32, 33, 34, 35, 36, 37, 38, 39, 40, 41, 42, 43, 44, 45, 46, 47, 48, 49, 50, 51, 52, 54, 55, 57, 74, 75, 76, 77, 78, 79, 80, 81, 82, 84, 85, 86, 87, 89, 90, 91, 92, 93, 94, 95, 96]
  ms := [⟨86, "koine/document.write", 74, false⟩, ⟨87, "koine/document.write", 89, false⟩, ⟨89, "koine/document.write", 92, false⟩, ⟨91, "koine/document.write", 93, false⟩, ⟨93, "koine/document.write", 94, false⟩, ⟨95, "koine/document.write", 95, false⟩, ⟨97, "koine/document.write", 96, false⟩]
  eqs := [⟨36, [0, 0]⟩]

theorem gx_tys : AllTy Try.prog gx.tys :=
  ⟨⟨by kernel_rfl, by kernel_rfl⟩,
   ⟨by kernel_rfl, by kernel_rfl⟩,
   ⟨by kernel_rfl, by kernel_rfl⟩,
   ⟨by kernel_rfl, by kernel_rfl⟩,
   ⟨by kernel_rfl, by kernel_rfl⟩,
   ⟨by kernel_rfl, by kernel_rfl⟩,
   ⟨by kernel_rfl, by kernel_rfl⟩,
   ⟨by kernel_rfl, by kernel_rfl⟩,
   ⟨by kernel_rfl, by kernel_rfl⟩,
   ⟨by kernel_rfl, by kernel_rfl⟩,
   ⟨by kernel_rfl, by kernel_rfl⟩,
   ⟨by kernel_rfl, by kernel_rfl⟩,
   ⟨by kernel_rfl, by kernel_rfl⟩,
   ⟨by kernel_rfl, by kernel_rfl⟩,
   ⟨by kernel_rfl, by kernel_rfl⟩,
   ⟨by kernel_rfl, by kernel_rfl⟩,
   ⟨by kernel_rfl, by kernel_rfl⟩,
   ⟨by kernel_rfl, by kernel_rfl⟩,
   ⟨by kernel_rfl, by kernel_rfl⟩,
   ⟨by kernel_rfl, by kernel_rfl⟩,
   ⟨by kernel_rfl, by kernel_rfl⟩,
   ⟨by kernel_rfl, by kernel_rfl⟩,
   ⟨by kernel_rfl, by kernel_rfl⟩,
   ⟨by kernel_rfl, by kernel_rfl⟩,
   ⟨by kernel_rfl, by kernel_rfl⟩,
   ⟨by kernel_rfl, by kernel_rfl⟩,
   ⟨by kernel_rfl, by kernel_rfl⟩,
   ⟨by kernel_rfl, by kernel_rfl⟩,
   ⟨by kernel_rfl, by kernel_rfl⟩,
   ⟨by kernel_rfl, by kernel_rfl⟩,
   ⟨by kernel_rfl, by kernel_rfl⟩,
   ⟨by kernel_rfl, by kernel_rfl⟩,
   ⟨by kernel_rfl, by kernel_rfl⟩,
   ⟨by kernel_rfl, by kernel_rfl⟩,
   ⟨by kernel_rfl, by kernel_rfl⟩,
   ⟨by kernel_rfl, by kernel_rfl⟩,
   ⟨by kernel_rfl, by kernel_rfl⟩,
   ⟨by kernel_rfl, by kernel_rfl⟩,
   ⟨by kernel_rfl, by kernel_rfl⟩,
   ⟨by kernel_rfl, by kernel_rfl⟩,
   ⟨by kernel_rfl, by kernel_rfl⟩, trivial⟩

theorem gx_fns : AllFn Try.prog gx.fns :=
  ⟨⟨_, Try.func3, by kernel_rfl, by kernel_rfl⟩,
   ⟨_, Try.func4, by kernel_rfl, by kernel_rfl⟩,
   ⟨_, Try.func5, by kernel_rfl, by kernel_rfl⟩,
   ⟨_, Try.func6, by kernel_rfl, by kernel_rfl⟩,
   ⟨_, Try.func7, by kernel_rfl, by kernel_rfl⟩,
   ⟨_, Try.func8, by kernel_rfl, by kernel_rfl⟩,
   ⟨_, Try.func9, by kernel_rfl, by kernel_rfl⟩,
   ⟨_, Try.func10, by kernel_rfl, by kernel_rfl⟩,
   ⟨_, Try.func11, by kernel_rfl, by kernel_rfl⟩,
   ⟨_, Try.func12, by kernel_rfl, by kernel_rfl⟩,
   ⟨_, Try.func13, by kernel_rfl, by kernel_rfl⟩,
   ⟨_, Try.func14, by kernel_rfl, by kernel_rfl⟩,
   ⟨_, Try.func15, by kernel_rfl, by kernel_rfl⟩,
   ⟨_, Try.func16, by kernel_rfl, by kernel_rfl⟩,
   ⟨_, Try.func17, by kernel_rfl, by kernel_rfl⟩,
   ⟨_, Try.func18, by kernel_rfl, by kernel_rfl⟩,
   ⟨_, Try.func19, by kernel_rfl, by kernel_rfl⟩,
   ⟨_, Try.func20, by kernel_rfl, by kernel_rfl⟩,
   ⟨_, Try.func21, by kernel_rfl, by kernel_rfl⟩,
   ⟨_, Try.func22, by kernel_rfl, by kernel_rfl⟩,
   ⟨_, Try.func23, by kernel_rfl, by kernel_rfl⟩,
   ⟨_, Try.func24, by kernel_rfl, by kernel_rfl⟩,
   ⟨_, Try.func25, by kernel_rfl, by kernel_rfl⟩,
   ⟨_, Try.func26, by kernel_rfl, by kernel_rfl⟩,
   ⟨_, Try.func27, by kernel_rfl, by kernel_rfl⟩,
   ⟨_, Try.func28, by kernel_rfl, by kernel_rfl⟩,
   ⟨_, Try.func29, by kernel_rfl, by kernel_rfl⟩,
   ⟨_, Try.func30, by kernel_rfl, by kernel_rfl⟩,
   ⟨_, Try.func31, by kernel_rfl, by kernel_rfl⟩,
   ⟨_, Try.func32, by kernel_rfl, by kernel_rfl⟩,
   ⟨_, Try.func33, by kernel_rfl, by kernel_rfl⟩,
   ⟨_, Try.func34, by kernel_rfl, by kernel_rfl⟩,
   ⟨_, Try.func35, by kernel_rfl, by kernel_rfl⟩,
   ⟨_, Try.func36, by kernel_rfl, by kernel_rfl⟩,
   ⟨_, Try.func37, by kernel_rfl, by kernel_rfl⟩,
   ⟨_, Try.func38, by kernel_rfl, by kernel_rfl⟩,
   ⟨_, Try.func39, by kernel_rfl, by kernel_rfl⟩,
   ⟨_, Try.func40, by kernel_rfl, by kernel_rfl⟩,
   ⟨_, Try.func41, by kernel_rfl, by kernel_rfl⟩,
   ⟨_, Try.func42, by kernel_rfl, by kernel_rfl⟩,
   ⟨_, Try.func43, by kernel_rfl, by kernel_rfl⟩,
   ⟨_, Try.func44, by kernel_rfl, by kernel_rfl⟩,
   ⟨_, Try.func45, by kernel_rfl, by kernel_rfl⟩,
   ⟨_, Try.func46, by kernel_rfl, by kernel_rfl⟩,
   ⟨_, Try.func47, by kernel_rfl, by kernel_rfl⟩,
   ⟨_, Try.func48, by kernel_rfl, by kernel_rfl⟩,
   ⟨_, Try.func49, by kernel_rfl, by kernel_rfl⟩,
   ⟨_, Try.func50, by kernel_rfl, by kernel_rfl⟩,
   ⟨_, Try.func51, by kernel_rfl, by kernel_rfl⟩,
   ⟨_, Try.func52, by kernel_rfl, by kernel_rfl⟩,
   ⟨_, Try.func54, by kernel_rfl, by kernel_rfl⟩,
   ⟨_, Try.func55, by kernel_rfl, by kernel_rfl⟩,
   ⟨_, Try.func57, by kernel_rfl, by kernel_rfl⟩,
   ⟨_, Try.func74, by kernel_rfl, by kernel_rfl⟩,
   ⟨_, Try.func75, by kernel_rfl, by kernel_rfl⟩,
   ⟨_, Try.func76, by kernel_rfl, by kernel_rfl⟩,
   ⟨_, Try.func77, by kernel_rfl, by kernel_rfl⟩,
   ⟨_, Try.func78, by kernel_rfl, by kernel_rfl⟩,
   ⟨_, Try.func79, by kernel_rfl, by kernel_rfl⟩,
   ⟨_, Try.func80, by kernel_rfl, by kernel_rfl⟩,
   ⟨_, Try.func81, by kernel_rfl, by kernel_rfl⟩,
   ⟨_, Try.func82, by kernel_rfl, by kernel_rfl⟩,
   ⟨_, Try.func84, by kernel_rfl, by kernel_rfl⟩,
   ⟨_, Try.func85, by kernel_rfl, by kernel_rfl⟩,
   ⟨_, Try.func86, by kernel_rfl, by kernel_rfl⟩,
   ⟨_, Try.func87, by kernel_rfl, by kernel_rfl⟩,
   ⟨_, Try.func89, by kernel_rfl, by kernel_rfl⟩,
   ⟨_, Try.func90, by kernel_rfl, by kernel_rfl⟩,
   ⟨_, Try.func91, by kernel_rfl, by kernel_rfl⟩,
   ⟨_, Try.func92, by kernel_rfl, by kernel_rfl⟩,
   ⟨_, Try.func93, by kernel_rfl, by kernel_rfl⟩,
   ⟨_, Try.func94, by kernel_rfl, by kernel_rfl⟩,
   ⟨_, Try.func95, by kernel_rfl, by kernel_rfl⟩,
   ⟨_, Try.func96, by kernel_rfl, by kernel_rfl⟩, trivial⟩

theorem gx_ms : AllM Try.prog gx.ms :=
  ⟨⟨by kernel_rfl, by kernel_rfl⟩,
   ⟨by kernel_rfl, by kernel_rfl⟩,
   ⟨by kernel_rfl, by kernel_rfl⟩,
   ⟨by kernel_rfl, by kernel_rfl⟩,
   ⟨by kernel_rfl, by kernel_rfl⟩,
   ⟨by kernel_rfl, by kernel_rfl⟩,
   ⟨by kernel_rfl, by kernel_rfl⟩, trivial⟩

theorem gx_eqs : AllE Try.prog gx.eqs :=
  ⟨⟨by kernel_rfl, by kernel_rfl, by kernel_rfl⟩, trivial⟩

theorem gx_ok : gx.Ok := ⟨gx_tys, gx_fns, by kernel_rfl, gx_ms, gx_eqs⟩

/-- koinelaw25.DocumentMatchesReference -/
noncomputable abbrev c3 : Cx := { g := gx, N := 133, named := 24, keep := [41] }
/-- koinelaw25.DocumentAnyMatchesReference -/
noncomputable abbrev c4 : Cx := { g := gx, N := 111, named := 18, keep := [26, 31, 40] }
/-- koinelaw25.DocumentSize -/
noncomputable abbrev c5 : Cx := { g := gx, N := 57, named := 6, keep := [17, 35, 44] }
/-- koinelaw25.DocumentContents -/
noncomputable abbrev c6 : Cx := { g := gx, N := 48, named := 13, keep := [] }
/-- koinelaw25.DocumentFlat -/
noncomputable abbrev c7 : Cx := { g := gx, N := 123, named := 18, keep := [36, 91, 93] }
/-- koinelaw25.DocumentSequences -/
noncomputable abbrev c8 : Cx := { g := gx, N := 109, named := 3, keep := [3, 5, 6, 7, 8, 9, 10, 11, 12, 13, 14, 15, 59, 69, 82] }
/-- koinelaw25.DocumentIndentation -/
noncomputable abbrev c9 : Cx := { g := gx, N := 80, named := 16, keep := [20, 39, 56] }
/-- koinelaw25.DocumentAlign -/
noncomputable abbrev c10 : Cx := { g := gx, N := 45, named := 12, keep := [16] }
/-- koinelaw25.DocumentCosts -/
noncomputable abbrev c11 : Cx := { g := gx, N := 114, named := 8, keep := [8, 9, 10, 11, 12, 13, 14, 31, 81, 85, 93] }
/-- koinelaw25.sanity -/
noncomputable abbrev c12 : Cx := { g := gx, N := 112, named := 15, keep := [] }
/-- koineref25.Made -/
noncomputable abbrev c13 : Cx := { g := gx, N := 134, named := 13, keep := [23, 48, 57, 78, 93, 116, 124] }
/-- document.Groups -/
noncomputable abbrev c14 : Cx := { g := gx, N := 19, named := 1, keep := [1, 2, 3, 4, 5, 6, 10] }
/-- koineref25.Groups -/
noncomputable abbrev c15 : Cx := { g := gx, N := 15, named := 5, keep := [8] }
/-- document.Render -/
noncomputable abbrev c16 : Cx := { g := gx, N := 56, named := 12, keep := [18, 24, 26, 27, 28, 29, 51] }
/-- koineref25.Render -/
noncomputable abbrev c17 : Cx := { g := gx, N := 40, named := 9, keep := [15, 21, 35] }
/-- koineref25.Choice -/
noncomputable abbrev c18 : Cx := { g := gx, N := 46, named := 10, keep := [19] }
/-- document.Cost -/
noncomputable abbrev c19 : Cx := { g := gx, N := 34, named := 4, keep := [4, 5, 6, 7, 8, 27] }
/-- koineref25.Cost -/
noncomputable abbrev c20 : Cx := { g := gx, N := 33, named := 4, keep := [4, 5, 6, 7, 12, 20, 27] }
/-- koinelaw25.same -/
noncomputable abbrev c21 : Cx := { g := gx, N := 26, named := 6, keep := [10, 14, 25] }
/-- document.Check -/
noncomputable abbrev c22 : Cx := { g := gx, N := 69, named := 3, keep := [3, 4, 5, 6, 7, 8, 11, 16, 17, 18, 19, 52, 56, 57, 58, 64, 68] }
/-- koineref25.Check -/
noncomputable abbrev c23 : Cx := { g := gx, N := 71, named := 6, keep := [8, 15, 21, 28, 45, 60, 67, 70] }
/-- koinelaw25.visible -/
noncomputable abbrev c24 : Cx := { g := gx, N := 30, named := 5, keep := [9, 21] }
/-- koineref25.Wrap -/
noncomputable abbrev c25 : Cx := { g := gx, N := 18, named := 7, keep := [] }
/-- koineref25.Has -/
noncomputable abbrev c26 : Cx := { g := gx, N := 19, named := 6, keep := [9, 18] }
/-- koinelaw25.render -/
noncomputable abbrev c27 : Cx := { g := gx, N := 18, named := 7, keep := [16] }
/-- koineref25.Seq -/
noncomputable abbrev c28 : Cx := { g := gx, N := 20, named := 5, keep := [] }
/-- koineref25.Text -/
noncomputable abbrev c29 : Cx := { g := gx, N := 6, named := 3, keep := [] }
/-- koineref25.leaf -/
noncomputable abbrev c30 : Cx := { g := gx, N := 41, named := 3, keep := [4, 5, 14, 23, 36] }
/-- document.Groups$1 -/
noncomputable abbrev c31 : Cx := { g := gx, N := 33, named := 5, keep := [5, 12, 20, 28] }
/-- document.arity -/
noncomputable abbrev c32 : Cx := { g := gx, N := 14, named := 3, keep := [3, 4, 8, 12] }
/-- koineref25.walk -/
noncomputable abbrev c33 : Cx := { g := gx, N := 50, named := 6, keep := [12, 23, 39] }
/-- document.parts -/
noncomputable abbrev c34 : Cx := { g := gx, N := 108, named := 7, keep := [7, 11, 12, 13, 14, 19, 20, 28, 36, 43, 60, 74, 86] }
/-- (*strings.Builder).String -/
noncomputable abbrev c35 : Cx := { g := gx, N := 14, named := 3, keep := [] }
/-- (*koineref25.writer).node -/
noncomputable abbrev c36 : Cx := { g := gx, N := 112, named := 8, keep := [8, 17, 18, 24, 26, 34, 49, 63, 74, 80, 99] }
/-- koineref25.hard -/
noncomputable abbrev c37 : Cx := { g := gx, N := 37, named := 5, keep := [5, 6] }
/-- strings.Cut -/
noncomputable abbrev c38 : Cx := { g := gx, N := 13, named := 7, keep := [] }
/-- document.Check$1 -/
noncomputable abbrev c39 : Cx := { g := gx, N := 28, named := 8, keep := [9, 24] }
/-- document.fields -/
noncomputable abbrev c40 : Cx := { g := gx, N := 38, named := 1, keep := [1, 2, 3, 12, 23] }
/-- koineref25.valid -/
noncomputable abbrev c41 : Cx := { g := gx, N := 106, named := 5, keep := [5, 6, 7, 31, 36, 43, 61, 77] }
/-- koineref25.operands -/
noncomputable abbrev c42 : Cx := { g := gx, N := 14, named := 3, keep := [3, 4, 8, 12] }
/-- koineref25.joined -/
noncomputable abbrev c43 : Cx := { g := gx, N := 46, named := 7, keep := [7, 14, 24, 34] }
/-- (*koineref25.writer).text -/
noncomputable abbrev c44 : Cx := { g := gx, N := 63, named := 5, keep := [6, 11, 53] }
/-- (*koineref25.writer).line -/
noncomputable abbrev c45 : Cx := { g := gx, N := 19, named := 4, keep := [] }
/-- (*koineref25.writer).chosen -/
noncomputable abbrev c46 : Cx := { g := gx, N := 31, named := 6, keep := [12, 23] }
/-- internal/stringslite.Cut -/
noncomputable abbrev c47 : Cx := { g := gx, N := 23, named := 8, keep := [12] }
/-- strings.Contains -/
noncomputable abbrev c48 : Cx := { g := gx, N := 9, named := 5, keep := [] }
/-- koineref25.spaces -/
noncomputable abbrev c49 : Cx := { g := gx, N := 17, named := 5, keep := [9] }
/-- internal/stringslite.Index -/
noncomputable abbrev c50 : Cx := { g := gx, N := 143, named := 14, keep := [16, 24, 31, 36, 59, 64, 73, 93, 107, 114, 132, 139] }
/-- strings.Index -/
noncomputable abbrev c51 : Cx := { g := gx, N := 8, named := 5, keep := [] }
/-- internal/stringslite.IndexByte -/
noncomputable abbrev c52 : Cx := { g := gx, N := 8, named := 5, keep := [] }
/-- internal/bytealg.Cutover -/
noncomputable abbrev c54 : Cx := { g := gx, N := 6, named := 3, keep := [] }
/-- internal/bytealg.IndexRabinKarp[string] -/
noncomputable abbrev c55 : Cx := { g := gx, N := 81, named := 11, keep := [20, 39, 44, 77] }
/-- internal/bytealg.hashStr[string] -/
noncomputable abbrev c57 : Cx := { g := gx, N := 39, named := 9, keep := [12, 25, 30] }
/-- (document.text).write -/
noncomputable abbrev c74 : Cx := { g := gx, N := 9, named := 5, keep := [] }
/-- (*document.writer).add -/
noncomputable abbrev c75 : Cx := { g := gx, N := 41, named := 4, keep := [5, 10] }
/-- (*strings.Builder).WriteString -/
noncomputable abbrev c76 : Cx := { g := gx, N := 19, named := 6, keep := [] }
/-- strings.Repeat -/
noncomputable abbrev c77 : Cx := { g := gx, N := 125, named := 9, keep := [9, 10, 11, 12, 14, 18, 34, 40, 42, 43, 49, 58, 67, 76, 85, 96, 104, 113] }
/-- (*strings.Builder).copyCheck -/
noncomputable abbrev c78 : Cx := { g := gx, N := 20, named := 2, keep := [6, 19] }
/-- math/bits.Mul -/
noncomputable abbrev c79 : Cx := { g := gx, N := 30, named := 10, keep := [] }
/-- strings.HasPrefix -/
noncomputable abbrev c80 : Cx := { g := gx, N := 8, named := 5, keep := [] }
/-- (*strings.Builder).Grow -/
noncomputable abbrev c81 : Cx := { g := gx, N := 25, named := 4, keep := [7, 21] }
/-- (*strings.Builder).Len -/
noncomputable abbrev c82 : Cx := { g := gx, N := 8, named := 3, keep := [] }
/-- math/bits.Mul32 -/
noncomputable abbrev c84 : Cx := { g := gx, N := 17, named := 7, keep := [] }
/-- math/bits.Mul64 -/
noncomputable abbrev c85 : Cx := { g := gx, N := 51, named := 14, keep := [] }
/-- internal/stringslite.HasPrefix -/
noncomputable abbrev c86 : Cx := { g := gx, N := 18, named := 5, keep := [] }
/-- (*strings.Builder).grow -/
noncomputable abbrev c87 : Cx := { g := gx, N := 30, named := 5, keep := [] }
/-- (document.line).write -/
noncomputable abbrev c89 : Cx := { g := gx, N := 15, named := 5, keep := [5, 7] }
/-- (*document.writer).feed -/
noncomputable abbrev c90 : Cx := { g := gx, N := 15, named := 4, keep := [] }
/-- (*strings.Builder).WriteByte -/
noncomputable abbrev c91 : Cx := { g := gx, N := 17, named := 5, keep := [] }
/-- (document.hard).write -/
noncomputable abbrev c92 : Cx := { g := gx, N := 21, named := 3, keep := [5] }
/-- (document.seq).write -/
noncomputable abbrev c93 : Cx := { g := gx, N := 16, named := 3, keep := [3, 5] }
/-- (document.nest).write -/
noncomputable abbrev c94 : Cx := { g := gx, N := 17, named := 3, keep := [3, 5] }
/-- (document.align).write -/
noncomputable abbrev c95 : Cx := { g := gx, N := 26, named := 3, keep := [3, 5, 15] }
/-- (document.group).write -/
noncomputable abbrev c96 : Cx := { g := gx, N := 18, named := 3, keep := [3, 5] }

end Go.Proofs.Ytgaggbmoimablaa
