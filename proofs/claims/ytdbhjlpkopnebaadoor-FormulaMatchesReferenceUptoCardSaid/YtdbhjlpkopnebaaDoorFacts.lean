/-
  The facts of this translation that the engine asks: its types, its functions, and for each function how many slots it has. Printed by a program (wip/gen.py).
  Conditions: none.
-/
import Derived.Test.YtdbhjlpkopnebaaDoorProg
import Derived.Test.YtdbhjlpkopnebaaDoorMem2
namespace Go.Proofs.YtdbhjlpkopnebaaDoor
open Go Go.RowKit

noncomputable def gx : Gx where
  P := Tryd.prog
  tys := [
    ⟨1, .func #[] #[] false, 1, 8, .nilFunc⟩,
    ⟨3, .int .i64, 1, 8, .int .i64 0⟩,
    ⟨4, .bool, 1, 1, .bool false⟩,
    ⟨5, .int .u8, 1, 1, .int .u8 0⟩,
    ⟨9, .string, 1, 16, .string ByteArray.empty⟩,
    ⟨20, .interface #[], 1, 16, .nilIface⟩,
    ⟨21, .int .i32, 1, 4, .int .i32 0⟩,
    ⟨22, .slice 9, 1, 24, .slice none 0 0⟩,
    ⟨25, .slice 62, 1, 24, .slice none 0 0⟩,
    ⟨26, .int .i64, 1, 8, .int .i64 0⟩,
    ⟨31, .slice 91, 1, 24, .slice none 0 0⟩,
    ⟨33, .struct #[{ name := "Nodes", type := 31, offset := 0, embedded := false, tag := "", pkgPath := "", byteOffset := 0 }, { name := "Root", type := 3, offset := 1, embedded := false, tag := "", pkgPath := "", byteOffset := 24 }], 2, 32, .agg #[.slice none 0 0, .int .i64 0]⟩,
    ⟨37, .slice 5, 1, 24, .slice none 0 0⟩,
    ⟨47, .int .u64, 1, 8, .int .u64 0⟩,
    ⟨50, .int .u64, 1, 8, .int .u64 0⟩,
    ⟨62, .struct #[{ name := "Op", type := 3, offset := 0, embedded := false, tag := "", pkgPath := "", byteOffset := 0 }, { name := "Var", type := 3, offset := 1, embedded := false, tag := "", pkgPath := "", byteOffset := 8 }, { name := "A", type := 3, offset := 2, embedded := false, tag := "", pkgPath := "", byteOffset := 16 }, { name := "B", type := 3, offset := 3, embedded := false, tag := "", pkgPath := "", byteOffset := 24 }], 4, 32, .agg #[.int .i64 0, .int .i64 0, .int .i64 0, .int .i64 0]⟩,
    ⟨65, .map 9 3, 1, 8, .map none⟩,
    ⟨69, .pointer 71, 1, 8, .pointer none⟩,
    ⟨71, .struct #[{ name := "names", type := 65, offset := 0, embedded := false, tag := "", pkgPath := "koine/formula", byteOffset := 0 }, { name := "rest", type := 9, offset := 1, embedded := false, tag := "", pkgPath := "koine/formula", byteOffset := 8 }, { name := "f", type := 25, offset := 2, embedded := false, tag := "", pkgPath := "koine/formula", byteOffset := 24 }, { name := "unknown", type := 4, offset := 3, embedded := false, tag := "", pkgPath := "koine/formula", byteOffset := 48 }], 4, 56, .agg #[.map none, .string ByteArray.empty, .slice none 0 0, .bool false]⟩,
    ⟨72, .func #[] #[3] false, 1, 8, .nilFunc⟩,
    ⟨77, .pointer 79, 1, 8, .pointer none⟩,
    ⟨79, .struct #[{ name := "names", type := 22, offset := 0, embedded := false, tag := "", pkgPath := "koine/koineref03", byteOffset := 0 }, { name := "l", type := 22, offset := 1, embedded := false, tag := "", pkgPath := "koine/koineref03", byteOffset := 24 }, { name := "at", type := 3, offset := 2, embedded := false, tag := "", pkgPath := "koine/koineref03", byteOffset := 48 }, { name := "f", type := 25, offset := 3, embedded := false, tag := "", pkgPath := "koine/koineref03", byteOffset := 56 }, { name := "bad", type := 4, offset := 4, embedded := false, tag := "", pkgPath := "koine/koineref03", byteOffset := 80 }, { name := "unknown", type := 4, offset := 5, embedded := false, tag := "", pkgPath := "koine/koineref03", byteOffset := 81 }], 6, 88, .agg #[.slice none 0 0, .slice none 0 0, .int .i64 0, .slice none 0 0, .bool false, .bool false]⟩,
    ⟨80, .pointer 82, 1, 8, .pointer none⟩,
    ⟨82, .struct #[{ name := "d", type := 33, offset := 0, embedded := false, tag := "", pkgPath := "koine/formula", byteOffset := 0 }, { name := "f", type := 25, offset := 2, embedded := false, tag := "", pkgPath := "koine/formula", byteOffset := 32 }], 3, 56, .agg #[.slice none 0 0, .int .i64 0, .slice none 0 0]⟩,
    ⟨83, .func #[3] #[3] false, 1, 8, .nilFunc⟩,
    ⟨84, .slice 3, 1, 24, .slice none 0 0⟩,
    ⟨86, .pointer 88, 1, 8, .pointer none⟩,
    ⟨88, .struct #[{ name := "d", type := 33, offset := 0, embedded := false, tag := "", pkgPath := "koine/koineref03", byteOffset := 0 }, { name := "f", type := 25, offset := 2, embedded := false, tag := "", pkgPath := "koine/koineref03", byteOffset := 32 }], 3, 56, .agg #[.slice none 0 0, .int .i64 0, .slice none 0 0]⟩,
    ⟨89, .map 91 4, 1, 8, .map none⟩,
    ⟨91, .struct #[{ name := "Var", type := 3, offset := 0, embedded := false, tag := "", pkgPath := "", byteOffset := 0 }, { name := "Low", type := 3, offset := 1, embedded := false, tag := "", pkgPath := "", byteOffset := 8 }, { name := "High", type := 3, offset := 2, embedded := false, tag := "", pkgPath := "", byteOffset := 16 }], 3, 24, .agg #[.int .i64 0, .int .i64 0, .int .i64 0]⟩,
    ⟨93, .pointer 96, 1, 8, .pointer none⟩,
    ⟨94, .map 91 3, 1, 8, .map none⟩,
    ⟨96, .struct #[{ name := "nodes", type := 31, offset := 0, embedded := false, tag := "", pkgPath := "koine/diagram", byteOffset := 0 }, { name := "known", type := 94, offset := 1, embedded := false, tag := "", pkgPath := "koine/diagram", byteOffset := 24 }], 2, 32, .agg #[.slice none 0 0, .map none]⟩,
    ⟨98, .pointer 100, 1, 8, .pointer none⟩,
    ⟨100, .struct #[{ name := "addr", type := 98, offset := 0, embedded := false, tag := "", pkgPath := "strings", byteOffset := 0 }, { name := "buf", type := 37, offset := 1, embedded := false, tag := "", pkgPath := "strings", byteOffset := 8 }], 2, 32, .agg #[.pointer none, .slice none 0 0]⟩,
    ⟨105, .array 512 4, 512, 512, .agg #[.bool false, .bool false, .bool false, .bool false, .bool false, .bool false, .bool false, .bool false, .bool false, .bool false, .bool false, .bool false, .bool false, .bool false, .bool false, .bool false, .bool false, .bool false, .bool false, .bool false, .bool false, .bool false, .bool false, .bool false, .bool false, .bool false, .bool false, .bool false, .bool false, .bool false, .bool false, .bool false, .bool false, .bool false, .bool false, .bool false, .bool false, .bool false, .bool false, .bool false, .bool false, .bool false, .bool false, .bool false, .bool false, .bool false, .bool false, .bool false, .bool false, .bool false, .bool false, .bool false, .bool false, .bool false, .bool false, .bool false, .bool false, .bool false, .bool false, .bool false, .bool false, .bool false, .bool false, .bool false, .bool false, .bool false, .bool false, .bool false, .bool false, .bool false, .bool false, .bool false, .bool false, .bool false, .bool false, .bool false, .bool false, .bool false, .bool false, .bool false, .bool false, .bool false, .bool false, .bool false, .bool false, .bool false, .bool false, .bool false, .bool false, .bool false, .bool false, .bool false, .bool false, .bool false, .bool false, .bool false, .bool false, .bool false, .bool false, .bool false, .bool false, .bool false, .bool false, .bool false, .bool false, .bool false, .bool false, .bool false, .bool false, .bool false, .bool false, .bool false, .bool false, .bool false, .bool false, .bool false, .bool false, .bool false, .bool false, .bool false, .bool false, .bool false, .bool false, .bool false, .bool false, .bool false, .bool false, .bool false, .bool false, .bool false, .bool false, .bool false, .bool false, .bool false, .bool false, .bool false, .bool false, .bool false, .bool false, .bool false, .bool false, .bool false, .bool false, .bool false, .bool false, .bool false, .bool false, .bool false, .bool false, .bool false, .bool false, .bool false, .bool false, .bool false, .bool false, .bool false, .bool false, .bool false, .bool false, .bool false, .bool false, .bool false, .bool false, .bool false, .bool false, .bool false, .bool false, .bool false, .bool false, .bool false, .bool false, .bool false, .bool false, .bool false, .bool false, .bool false, .bool false, .bool false, .bool false, .bool false, .bool false, .bool false, .bool false, .bool false, .bool false, .bool false, .bool false, .bool false, .bool false, .bool false, .bool false, .bool false, .bool false, .bool false, .bool false, .bool false, .bool false, .bool false, .bool false, .bool false, .bool false, .bool false, .bool false, .bool false, .bool false, .bool false, .bool false, .bool false, .bool false, .bool false, .bool false, .bool false, .bool false, .bool false, .bool false, .bool false, .bool false, .bool false, .bool false, .bool false, .bool false, .bool false, .bool false, .bool false, .bool false, .bool false, .bool false, .bool false, .bool false, .bool false, .bool false, .bool false, .bool false, .bool false, .bool false, .bool false, .bool false, .bool false, .bool false, .bool false, .bool false, .bool false, .bool false, .bool false, .bool false, .bool false, .bool false, .bool false, .bool false, .bool false, .bool false, .bool false, .bool false, .bool false, .bool false, .bool false, .bool false, .bool false, .bool false, .bool false, .bool false, .bool false, .bool false, .bool false, .bool false, .bool false, .bool false, .bool false, .bool false, .bool false, .bool false, .bool false, .bool false, .bool false, .bool false, .bool false, .bool false, .bool false, .bool false, .bool false, .bool false, .bool false, .bool false, .bool false, .bool false, .bool false, .bool false, .bool false, .bool false, .bool false, .bool false, .bool false, .bool false, .bool false, .bool false, .bool false, .bool false, .bool false, .bool false, .bool false, .bool false, .bool false, .bool false, .bool false, .bool false, .bool false, .bool false, .bool false, .bool false, .bool false, .bool false, .bool false, .bool false, .bool false, .bool false, .bool false, .bool false, .bool false, .bool false, .bool false, .bool false, .bool false, .bool false, .bool false, .bool false, .bool false, .bool false, .bool false, .bool false, .bool false, .bool false, .bool false, .bool false, .bool false, .bool false, .bool false, .bool false, .bool false, .bool false, .bool false, .bool false, .bool false, .bool false, .bool false, .bool false, .bool false, .bool false, .bool false, .bool false, .bool false, .bool false, .bool false, .bool false, .bool false, .bool false, .bool false, .bool false, .bool false, .bool false, .bool false, .bool false, .bool false, .bool false, .bool false, .bool false, .bool false, .bool false, .bool false, .bool false, .bool false, .bool false, .bool false, .bool false, .bool false, .bool false, .bool false, .bool false, .bool false, .bool false, .bool false, .bool false, .bool false, .bool false, .bool false, .bool false, .bool false, .bool false, .bool false, .bool false, .bool false, .bool false, .bool false, .bool false, .bool false, .bool false, .bool false, .bool false, .bool false, .bool false, .bool false, .bool false, .bool false, .bool false, .bool false, .bool false, .bool false, .bool false, .bool false, .bool false, .bool false, .bool false, .bool false, .bool false, .bool false, .bool false, .bool false, .bool false, .bool false, .bool false, .bool false, .bool false, .bool false, .bool false, .bool false, .bool false, .bool false, .bool false, .bool false, .bool false, .bool false, .bool false, .bool false, .bool false, .bool false, .bool false, .bool false, .bool false, .bool false, .bool false, .bool false, .bool false, .bool false, .bool false, .bool false, .bool false, .bool false, .bool false, .bool false, .bool false, .bool false, .bool false, .bool false, .bool false, .bool false, .bool false, .bool false, .bool false, .bool false, .bool false, .bool false, .bool false, .bool false, .bool false, .bool false, .bool false, .bool false, .bool false, .bool false, .bool false, .bool false, .bool false, .bool false, .bool false, .bool false, .bool false, .bool false, .bool false, .bool false, .bool false, .bool false, .bool false, .bool false, .bool false, .bool false, .bool false, .bool false, .bool false, .bool false, .bool false, .bool false, .bool false, .bool false, .bool false, .bool false, .bool false, .bool false, .bool false, .bool false, .bool false, .bool false, .bool false, .bool false, .bool false, .bool false, .bool false, .bool false, .bool false, .bool false, .bool false, .bool false, .bool false, .bool false]⟩,
    ⟨108, .slice 4, 1, 24, .slice none 0 0⟩,
    ⟨111, .func #[4, 4] #[4] false, 1, 8, .nilFunc⟩,
    ⟨113, .slice 33, 1, 24, .slice none 0 0⟩,
    ⟨126, .map 3 3, 1, 8, .map none⟩,
    ⟨129, .interface #[("Error", 102)], 1, 16, .nilIface⟩,
    ⟨133, .pointer 5, 1, 8, .pointer none⟩,
    ⟨135, .int .u64, 1, 8, .int .u64 0⟩,
    ⟨138, .array 3 33, 6, 96, .agg #[.slice none 0 0, .int .i64 0, .slice none 0 0, .int .i64 0, .slice none 0 0, .int .i64 0]⟩,
    ⟨139, .func #[4, 4, 4] #[4] false, 1, 8, .nilFunc⟩,
    ⟨143, .func #[21] #[4] false, 1, 8, .nilFunc⟩,
    ⟨146, .array 256 4, 256, 256, .agg #[.bool false, .bool false, .bool false, .bool false, .bool false, .bool false, .bool false, .bool false, .bool false, .bool false, .bool false, .bool false, .bool false, .bool false, .bool false, .bool false, .bool false, .bool false, .bool false, .bool false, .bool false, .bool false, .bool false, .bool false, .bool false, .bool false, .bool false, .bool false, .bool false, .bool false, .bool false, .bool false, .bool false, .bool false, .bool false, .bool false, .bool false, .bool false, .bool false, .bool false, .bool false, .bool false, .bool false, .bool false, .bool false, .bool false, .bool false, .bool false, .bool false, .bool false, .bool false, .bool false, .bool false, .bool false, .bool false, .bool false, .bool false, .bool false, .bool false, .bool false, .bool false, .bool false, .bool false, .bool false, .bool false, .bool false, .bool false, .bool false, .bool false, .bool false, .bool false, .bool false, .bool false, .bool false, .bool false, .bool false, .bool false, .bool false, .bool false, .bool false, .bool false, .bool false, .bool false, .bool false, .bool false, .bool false, .bool false, .bool false, .bool false, .bool false, .bool false, .bool false, .bool false, .bool false, .bool false, .bool false, .bool false, .bool false, .bool false, .bool false, .bool false, .bool false, .bool false, .bool false, .bool false, .bool false, .bool false, .bool false, .bool false, .bool false, .bool false, .bool false, .bool false, .bool false, .bool false, .bool false, .bool false, .bool false, .bool false, .bool false, .bool false, .bool false, .bool false, .bool false, .bool false, .bool false, .bool false, .bool false, .bool false, .bool false, .bool false, .bool false, .bool false, .bool false, .bool false, .bool false, .bool false, .bool false, .bool false, .bool false, .bool false, .bool false, .bool false, .bool false, .bool false, .bool false, .bool false, .bool false, .bool false, .bool false, .bool false, .bool false, .bool false, .bool false, .bool false, .bool false, .bool false, .bool false, .bool false, .bool false, .bool false, .bool false, .bool false, .bool false, .bool false, .bool false, .bool false, .bool false, .bool false, .bool false, .bool false, .bool false, .bool false, .bool false, .bool false, .bool false, .bool false, .bool false, .bool false, .bool false, .bool false, .bool false, .bool false, .bool false, .bool false, .bool false, .bool false, .bool false, .bool false, .bool false, .bool false, .bool false, .bool false, .bool false, .bool false, .bool false, .bool false, .bool false, .bool false, .bool false, .bool false, .bool false, .bool false, .bool false, .bool false, .bool false, .bool false, .bool false, .bool false, .bool false, .bool false, .bool false, .bool false, .bool false, .bool false, .bool false, .bool false, .bool false, .bool false, .bool false, .bool false, .bool false, .bool false, .bool false, .bool false, .bool false, .bool false, .bool false, .bool false, .bool false, .bool false, .bool false, .bool false, .bool false, .bool false, .bool false, .bool false, .bool false, .bool false, .bool false, .bool false, .bool false, .bool false, .bool false, .bool false, .bool false, .bool false, .bool false, .bool false, .bool false, .bool false, .bool false, .bool false, .bool false, .bool false, .bool false]⟩,
    ⟨150, .pointer 146, 1, 8, .pointer none⟩,
    ⟨154, .map 156 3, 1, 8, .map none⟩,
    ⟨155, .func #[156] #[3] false, 1, 8, .nilFunc⟩,
    ⟨156, .array 3 3, 3, 24, .agg #[.int .i64 0, .int .i64 0, .int .i64 0]⟩,
    ⟨160, .pointer 163, 1, 8, .pointer none⟩,
    ⟨161, .slice 156, 1, 24, .slice none 0 0⟩,
    ⟨163, .struct #[{ name := "a", type := 33, offset := 0, embedded := false, tag := "", pkgPath := "koine/koineref02", byteOffset := 0 }, { name := "b", type := 33, offset := 2, embedded := false, tag := "", pkgPath := "koine/koineref02", byteOffset := 32 }, { name := "op", type := 3, offset := 4, embedded := false, tag := "", pkgPath := "koine/koineref02", byteOffset := 64 }, { name := "nodes", type := 31, offset := 5, embedded := false, tag := "", pkgPath := "koine/koineref02", byteOffset := 72 }, { name := "seen", type := 161, offset := 6, embedded := false, tag := "", pkgPath := "koine/koineref02", byteOffset := 96 }], 7, 120, .agg #[.slice none 0 0, .int .i64 0, .slice none 0 0, .int .i64 0, .int .i64 0, .slice none 0 0, .slice none 0 0]⟩,
    ⟨170, .pointer 172, 1, 8, .pointer none⟩,
    ⟨172, .struct #[{ name := "nodes", type := 31, offset := 0, embedded := false, tag := "", pkgPath := "koine/koineref02", byteOffset := 0 }, { name := "number", type := 84, offset := 1, embedded := false, tag := "", pkgPath := "koine/koineref02", byteOffset := 24 }, { name := "out", type := 31, offset := 2, embedded := false, tag := "", pkgPath := "koine/koineref02", byteOffset := 48 }], 3, 72, .agg #[.slice none 0 0, .slice none 0 0, .slice none 0 0]⟩,
    ⟨173, .unsafePointer, 1, 8, .pointer none⟩,
    ⟨178, .array 256 5, 256, 256, .agg #[.int .u8 0, .int .u8 0, .int .u8 0, .int .u8 0, .int .u8 0, .int .u8 0, .int .u8 0, .int .u8 0, .int .u8 0, .int .u8 0, .int .u8 0, .int .u8 0, .int .u8 0, .int .u8 0, .int .u8 0, .int .u8 0, .int .u8 0, .int .u8 0, .int .u8 0, .int .u8 0, .int .u8 0, .int .u8 0, .int .u8 0, .int .u8 0, .int .u8 0, .int .u8 0, .int .u8 0, .int .u8 0, .int .u8 0, .int .u8 0, .int .u8 0, .int .u8 0, .int .u8 0, .int .u8 0, .int .u8 0, .int .u8 0, .int .u8 0, .int .u8 0, .int .u8 0, .int .u8 0, .int .u8 0, .int .u8 0, .int .u8 0, .int .u8 0, .int .u8 0, .int .u8 0, .int .u8 0, .int .u8 0, .int .u8 0, .int .u8 0, .int .u8 0, .int .u8 0, .int .u8 0, .int .u8 0, .int .u8 0, .int .u8 0, .int .u8 0, .int .u8 0, .int .u8 0, .int .u8 0, .int .u8 0, .int .u8 0, .int .u8 0, .int .u8 0, .int .u8 0, .int .u8 0, .int .u8 0, .int .u8 0, .int .u8 0, .int .u8 0, .int .u8 0, .int .u8 0, .int .u8 0, .int .u8 0, .int .u8 0, .int .u8 0, .int .u8 0, .int .u8 0, .int .u8 0, .int .u8 0, .int .u8 0, .int .u8 0, .int .u8 0, .int .u8 0, .int .u8 0, .int .u8 0, .int .u8 0, .int .u8 0, .int .u8 0, .int .u8 0, .int .u8 0, .int .u8 0, .int .u8 0, .int .u8 0, .int .u8 0, .int .u8 0, .int .u8 0, .int .u8 0, .int .u8 0, .int .u8 0, .int .u8 0, .int .u8 0, .int .u8 0, .int .u8 0, .int .u8 0, .int .u8 0, .int .u8 0, .int .u8 0, .int .u8 0, .int .u8 0, .int .u8 0, .int .u8 0, .int .u8 0, .int .u8 0, .int .u8 0, .int .u8 0, .int .u8 0, .int .u8 0, .int .u8 0, .int .u8 0, .int .u8 0, .int .u8 0, .int .u8 0, .int .u8 0, .int .u8 0, .int .u8 0, .int .u8 0, .int .u8 0, .int .u8 0, .int .u8 0, .int .u8 0, .int .u8 0, .int .u8 0, .int .u8 0, .int .u8 0, .int .u8 0, .int .u8 0, .int .u8 0, .int .u8 0, .int .u8 0, .int .u8 0, .int .u8 0, .int .u8 0, .int .u8 0, .int .u8 0, .int .u8 0, .int .u8 0, .int .u8 0, .int .u8 0, .int .u8 0, .int .u8 0, .int .u8 0, .int .u8 0, .int .u8 0, .int .u8 0, .int .u8 0, .int .u8 0, .int .u8 0, .int .u8 0, .int .u8 0, .int .u8 0, .int .u8 0, .int .u8 0, .int .u8 0, .int .u8 0, .int .u8 0, .int .u8 0, .int .u8 0, .int .u8 0, .int .u8 0, .int .u8 0, .int .u8 0, .int .u8 0, .int .u8 0, .int .u8 0, .int .u8 0, .int .u8 0, .int .u8 0, .int .u8 0, .int .u8 0, .int .u8 0, .int .u8 0, .int .u8 0, .int .u8 0, .int .u8 0, .int .u8 0, .int .u8 0, .int .u8 0, .int .u8 0, .int .u8 0, .int .u8 0, .int .u8 0, .int .u8 0, .int .u8 0, .int .u8 0, .int .u8 0, .int .u8 0, .int .u8 0, .int .u8 0, .int .u8 0, .int .u8 0, .int .u8 0, .int .u8 0, .int .u8 0, .int .u8 0, .int .u8 0, .int .u8 0, .int .u8 0, .int .u8 0, .int .u8 0, .int .u8 0, .int .u8 0, .int .u8 0, .int .u8 0, .int .u8 0, .int .u8 0, .int .u8 0, .int .u8 0, .int .u8 0, .int .u8 0, .int .u8 0, .int .u8 0, .int .u8 0, .int .u8 0, .int .u8 0, .int .u8 0, .int .u8 0, .int .u8 0, .int .u8 0, .int .u8 0, .int .u8 0, .int .u8 0, .int .u8 0, .int .u8 0, .int .u8 0, .int .u8 0, .int .u8 0, .int .u8 0, .int .u8 0, .int .u8 0, .int .u8 0, .int .u8 0, .int .u8 0, .int .u8 0, .int .u8 0, .int .u8 0, .int .u8 0, .int .u8 0, .int .u8 0, .int .u8 0, .int .u8 0, .int .u8 0, .int .u8 0, .int .u8 0, .int .u8 0, .int .u8 0]⟩,
    ⟨180, .struct #[{ name := "lo", type := 5, offset := 0, embedded := false, tag := "", pkgPath := "unicode/utf8", byteOffset := 0 }, { name := "hi", type := 5, offset := 1, embedded := false, tag := "", pkgPath := "unicode/utf8", byteOffset := 1 }], 2, 2, .agg #[.int .u8 0, .int .u8 0]⟩,
    ⟨181, .array 16 180, 32, 32, .agg #[.int .u8 0, .int .u8 0, .int .u8 0, .int .u8 0, .int .u8 0, .int .u8 0, .int .u8 0, .int .u8 0, .int .u8 0, .int .u8 0, .int .u8 0, .int .u8 0, .int .u8 0, .int .u8 0, .int .u8 0, .int .u8 0, .int .u8 0, .int .u8 0, .int .u8 0, .int .u8 0, .int .u8 0, .int .u8 0, .int .u8 0, .int .u8 0, .int .u8 0, .int .u8 0, .int .u8 0, .int .u8 0, .int .u8 0, .int .u8 0, .int .u8 0, .int .u8 0]⟩]
  fns := [3, 4, 5, 6, 7, 8, 9, 10, 11, 12, 13, 14, 15, 16, 17, 18, 19, 20, 21, 22, 23, 24, 25, 26, 27, 28, 29, 30, 31, 32, 33, 34, 35, 36, 37, 38, 39, 40, 41, 42, 43, 44, 45, 46, 47, 48, 49, 50, 51, 52, 53, 54, 55, 56, 57, 58, 59, 60, 61, 62, 63, 64, 65, 66, 67, 68, 69, 70, 71, 72, 73, 74, 75, 76, 77, 78, 79, 80, 81, 82, 83, 84, 85, 86, 87, 88, 89, 90, 91, 92, 93, 94, 95, 96, 97, 98, 99, 100, 101, 102, 103, 104, 105, 106, 107, 108, 109, 110, 111, 112, 113, 114, 115, 116, 117, 118, 119, 120, 121, 122, 124, 125, 126, 127, 128, 129, 130, 131, 133]
  ms := []
  eqs := [⟨62, [0, 0, 0, 0]⟩, ⟨91, [0, 0, 0]⟩]

theorem gx_tys : AllTy Tryd.prog gx.tys :=
  ⟨⟨by kernel_rfl, by kernel_rfl⟩,
   ⟨by kernel_rfl, by kernel_rfl⟩,
   ⟨by kernel_rfl, by kernel_rfl⟩,
   ⟨by kernel_rfl, by kernel_rfl⟩,
   ⟨by kernel_rfl, by kernel_rfl⟩,
   ⟨by kernel_rfl, by kernel_rfl⟩,
   ⟨by kernel_rfl, by kernel_rfl⟩,
   ⟨by kernel_rfl, by kernel_rfl⟩,
   ⟨by kernel_rfl, by kernel_rfl⟩,
   ⟨by kernel_rfl, by kernel_rfl⟩,
   ⟨by kernel_rfl, by kernel_rfl⟩,
   ⟨by kernel_rfl, by kernel_rfl⟩,
   ⟨by kernel_rfl, by kernel_rfl⟩,
   ⟨by kernel_rfl, by kernel_rfl⟩,
   ⟨by kernel_rfl, by kernel_rfl⟩,
   ⟨by kernel_rfl, by kernel_rfl⟩,
   ⟨by kernel_rfl, by kernel_rfl⟩,
   ⟨by kernel_rfl, by kernel_rfl⟩,
   ⟨by kernel_rfl, by kernel_rfl⟩,
   ⟨by kernel_rfl, by kernel_rfl⟩,
   ⟨by kernel_rfl, by kernel_rfl⟩,
   ⟨by kernel_rfl, by kernel_rfl⟩,
   ⟨by kernel_rfl, by kernel_rfl⟩,
   ⟨by kernel_rfl, by kernel_rfl⟩,
   ⟨by kernel_rfl, by kernel_rfl⟩,
   ⟨by kernel_rfl, by kernel_rfl⟩,
   ⟨by kernel_rfl, by kernel_rfl⟩,
   ⟨by kernel_rfl, by kernel_rfl⟩,
   ⟨by kernel_rfl, by kernel_rfl⟩,
   ⟨by kernel_rfl, by kernel_rfl⟩,
   ⟨by kernel_rfl, by kernel_rfl⟩,
   ⟨by kernel_rfl, by kernel_rfl⟩,
   ⟨by kernel_rfl, by kernel_rfl⟩,
   ⟨by kernel_rfl, by kernel_rfl⟩,
   ⟨by kernel_rfl, by kernel_rfl⟩,
   ⟨by kernel_rfl, by kernel_rfl⟩,
   ⟨by kernel_rfl, by kernel_rfl⟩,
   ⟨by kernel_rfl, by kernel_rfl⟩,
   ⟨by kernel_rfl, by kernel_rfl⟩,
   ⟨by kernel_rfl, by kernel_rfl⟩,
   ⟨by kernel_rfl, by kernel_rfl⟩,
   ⟨by kernel_rfl, by kernel_rfl⟩,
   ⟨by kernel_rfl, by kernel_rfl⟩,
   ⟨by kernel_rfl, by kernel_rfl⟩,
   ⟨by kernel_rfl, by kernel_rfl⟩,
   ⟨by kernel_rfl, by kernel_rfl⟩,
   ⟨by kernel_rfl, by kernel_rfl⟩,
   ⟨by kernel_rfl, by kernel_rfl⟩,
   ⟨by kernel_rfl, by kernel_rfl⟩,
   ⟨by kernel_rfl, by kernel_rfl⟩,
   ⟨by kernel_rfl, by kernel_rfl⟩,
   ⟨by kernel_rfl, by kernel_rfl⟩,
   ⟨by kernel_rfl, by kernel_rfl⟩,
   ⟨by kernel_rfl, by kernel_rfl⟩,
   ⟨by kernel_rfl, by kernel_rfl⟩,
   ⟨by kernel_rfl, by kernel_rfl⟩,
   ⟨by kernel_rfl, by kernel_rfl⟩,
   ⟨by kernel_rfl, by kernel_rfl⟩,
   ⟨by kernel_rfl, by kernel_rfl⟩,
   ⟨by kernel_rfl, by kernel_rfl⟩, trivial⟩

theorem gx_fns : AllFn Tryd.prog gx.fns :=
  ⟨⟨_, Tryd.func3, by kernel_rfl, by kernel_rfl⟩,
   ⟨_, Tryd.func4, by kernel_rfl, by kernel_rfl⟩,
   ⟨_, Tryd.func5, by kernel_rfl, by kernel_rfl⟩,
   ⟨_, Tryd.func6, by kernel_rfl, by kernel_rfl⟩,
   ⟨_, Tryd.func7, by kernel_rfl, by kernel_rfl⟩,
   ⟨_, Tryd.func8, by kernel_rfl, by kernel_rfl⟩,
   ⟨_, Tryd.func9, by kernel_rfl, by kernel_rfl⟩,
   ⟨_, Tryd.func10, by kernel_rfl, by kernel_rfl⟩,
   ⟨_, Tryd.func11, by kernel_rfl, by kernel_rfl⟩,
   ⟨_, Tryd.func12, by kernel_rfl, by kernel_rfl⟩,
   ⟨_, Tryd.func13, by kernel_rfl, by kernel_rfl⟩,
   ⟨_, Tryd.func14, by kernel_rfl, by kernel_rfl⟩,
   ⟨_, Tryd.func15, by kernel_rfl, by kernel_rfl⟩,
   ⟨_, Tryd.func16, by kernel_rfl, by kernel_rfl⟩,
   ⟨_, Tryd.func17, by kernel_rfl, by kernel_rfl⟩,
   ⟨_, Tryd.func18, by kernel_rfl, by kernel_rfl⟩,
   ⟨_, Tryd.func19, by kernel_rfl, by kernel_rfl⟩,
   ⟨_, Tryd.func20, by kernel_rfl, by kernel_rfl⟩,
   ⟨_, Tryd.func21, by kernel_rfl, by kernel_rfl⟩,
   ⟨_, Tryd.func22, by kernel_rfl, by kernel_rfl⟩,
   ⟨_, Tryd.func23, by kernel_rfl, by kernel_rfl⟩,
   ⟨_, Tryd.func24, by kernel_rfl, by kernel_rfl⟩,
   ⟨_, Tryd.func25, by kernel_rfl, by kernel_rfl⟩,
   ⟨_, Tryd.func26, by kernel_rfl, by kernel_rfl⟩,
   ⟨_, Tryd.func27, by kernel_rfl, by kernel_rfl⟩,
   ⟨_, Tryd.func28, by kernel_rfl, by kernel_rfl⟩,
   ⟨_, Tryd.func29, by kernel_rfl, by kernel_rfl⟩,
   ⟨_, Tryd.func30, by kernel_rfl, by kernel_rfl⟩,
   ⟨_, Tryd.func31, by kernel_rfl, by kernel_rfl⟩,
   ⟨_, Tryd.func32, by kernel_rfl, by kernel_rfl⟩,
   ⟨_, Tryd.func33, by kernel_rfl, by kernel_rfl⟩,
   ⟨_, Tryd.func34, by kernel_rfl, by kernel_rfl⟩,
   ⟨_, Tryd.func35, by kernel_rfl, by kernel_rfl⟩,
   ⟨_, Tryd.func36, by kernel_rfl, by kernel_rfl⟩,
   ⟨_, Tryd.func37, by kernel_rfl, by kernel_rfl⟩,
   ⟨_, Tryd.func38, by kernel_rfl, by kernel_rfl⟩,
   ⟨_, Tryd.func39, by kernel_rfl, by kernel_rfl⟩,
   ⟨_, Tryd.func40, by kernel_rfl, by kernel_rfl⟩,
   ⟨_, Tryd.func41, by kernel_rfl, by kernel_rfl⟩,
   ⟨_, Tryd.func42, by kernel_rfl, by kernel_rfl⟩,
   ⟨_, Tryd.func43, by kernel_rfl, by kernel_rfl⟩,
   ⟨_, Tryd.func44, by kernel_rfl, by kernel_rfl⟩,
   ⟨_, Tryd.func45, by kernel_rfl, by kernel_rfl⟩,
   ⟨_, Tryd.func46, by kernel_rfl, by kernel_rfl⟩,
   ⟨_, Tryd.func47, by kernel_rfl, by kernel_rfl⟩,
   ⟨_, Tryd.func48, by kernel_rfl, by kernel_rfl⟩,
   ⟨_, Tryd.func49, by kernel_rfl, by kernel_rfl⟩,
   ⟨_, Tryd.func50, by kernel_rfl, by kernel_rfl⟩,
   ⟨_, Tryd.func51, by kernel_rfl, by kernel_rfl⟩,
   ⟨_, Tryd.func52, by kernel_rfl, by kernel_rfl⟩,
   ⟨_, Tryd.func53, by kernel_rfl, by kernel_rfl⟩,
   ⟨_, Tryd.func54, by kernel_rfl, by kernel_rfl⟩,
   ⟨_, Tryd.func55, by kernel_rfl, by kernel_rfl⟩,
   ⟨_, Tryd.func56, by kernel_rfl, by kernel_rfl⟩,
   ⟨_, Tryd.func57, by kernel_rfl, by kernel_rfl⟩,
   ⟨_, Tryd.func58, by kernel_rfl, by kernel_rfl⟩,
   ⟨_, Tryd.func59, by kernel_rfl, by kernel_rfl⟩,
   ⟨_, Tryd.func60, by kernel_rfl, by kernel_rfl⟩,
   ⟨_, Tryd.func61, by kernel_rfl, by kernel_rfl⟩,
   ⟨_, Tryd.func62, by kernel_rfl, by kernel_rfl⟩,
   ⟨_, Tryd.func63, by kernel_rfl, by kernel_rfl⟩,
   ⟨_, Tryd.func64, by kernel_rfl, by kernel_rfl⟩,
   ⟨_, Tryd.func65, by kernel_rfl, by kernel_rfl⟩,
   ⟨_, Tryd.func66, by kernel_rfl, by kernel_rfl⟩,
   ⟨_, Tryd.func67, by kernel_rfl, by kernel_rfl⟩,
   ⟨_, Tryd.func68, by kernel_rfl, by kernel_rfl⟩,
   ⟨_, Tryd.func69, by kernel_rfl, by kernel_rfl⟩,
   ⟨_, Tryd.func70, by kernel_rfl, by kernel_rfl⟩,
   ⟨_, Tryd.func71, by kernel_rfl, by kernel_rfl⟩,
   ⟨_, Tryd.func72, by kernel_rfl, by kernel_rfl⟩,
   ⟨_, Tryd.func73, by kernel_rfl, by kernel_rfl⟩,
   ⟨_, Tryd.func74, by kernel_rfl, by kernel_rfl⟩,
   ⟨_, Tryd.func75, by kernel_rfl, by kernel_rfl⟩,
   ⟨_, Tryd.func76, by kernel_rfl, by kernel_rfl⟩,
   ⟨_, Tryd.func77, by kernel_rfl, by kernel_rfl⟩,
   ⟨_, Tryd.func78, by kernel_rfl, by kernel_rfl⟩,
   ⟨_, Tryd.func79, by kernel_rfl, by kernel_rfl⟩,
   ⟨_, Tryd.func80, by kernel_rfl, by kernel_rfl⟩,
   ⟨_, Tryd.func81, by kernel_rfl, by kernel_rfl⟩,
   ⟨_, Tryd.func82, by kernel_rfl, by kernel_rfl⟩,
   ⟨_, Tryd.func83, by kernel_rfl, by kernel_rfl⟩,
   ⟨_, Tryd.func84, by kernel_rfl, by kernel_rfl⟩,
   ⟨_, Tryd.func85, by kernel_rfl, by kernel_rfl⟩,
   ⟨_, Tryd.func86, by kernel_rfl, by kernel_rfl⟩,
   ⟨_, Tryd.func87, by kernel_rfl, by kernel_rfl⟩,
   ⟨_, Tryd.func88, by kernel_rfl, by kernel_rfl⟩,
   ⟨_, Tryd.func89, by kernel_rfl, by kernel_rfl⟩,
   ⟨_, Tryd.func90, by kernel_rfl, by kernel_rfl⟩,
   ⟨_, Tryd.func91, by kernel_rfl, by kernel_rfl⟩,
   ⟨_, Tryd.func92, by kernel_rfl, by kernel_rfl⟩,
   ⟨_, Tryd.func93, by kernel_rfl, by kernel_rfl⟩,
   ⟨_, Tryd.func94, by kernel_rfl, by kernel_rfl⟩,
   ⟨_, Tryd.func95, by kernel_rfl, by kernel_rfl⟩,
   ⟨_, Tryd.func96, by kernel_rfl, by kernel_rfl⟩,
   ⟨_, Tryd.func97, by kernel_rfl, by kernel_rfl⟩,
   ⟨_, Tryd.func98, by kernel_rfl, by kernel_rfl⟩,
   ⟨_, Tryd.func99, by kernel_rfl, by kernel_rfl⟩,
   ⟨_, Tryd.func100, by kernel_rfl, by kernel_rfl⟩,
   ⟨_, Tryd.func101, by kernel_rfl, by kernel_rfl⟩,
   ⟨_, Tryd.func102, by kernel_rfl, by kernel_rfl⟩,
   ⟨_, Tryd.func103, by kernel_rfl, by kernel_rfl⟩,
   ⟨_, Tryd.func104, by kernel_rfl, by kernel_rfl⟩,
   ⟨_, Tryd.func105, by kernel_rfl, by kernel_rfl⟩,
   ⟨_, Tryd.func106, by kernel_rfl, by kernel_rfl⟩,
   ⟨_, Tryd.func107, by kernel_rfl, by kernel_rfl⟩,
   ⟨_, Tryd.func108, by kernel_rfl, by kernel_rfl⟩,
   ⟨_, Tryd.func109, by kernel_rfl, by kernel_rfl⟩,
   ⟨_, Tryd.func110, by kernel_rfl, by kernel_rfl⟩,
   ⟨_, Tryd.func111, by kernel_rfl, by kernel_rfl⟩,
   ⟨_, Tryd.func112, by kernel_rfl, by kernel_rfl⟩,
   ⟨_, Tryd.func113, by kernel_rfl, by kernel_rfl⟩,
   ⟨_, Tryd.func114, by kernel_rfl, by kernel_rfl⟩,
   ⟨_, Tryd.func115, by kernel_rfl, by kernel_rfl⟩,
   ⟨_, Tryd.func116, by kernel_rfl, by kernel_rfl⟩,
   ⟨_, Tryd.func117, by kernel_rfl, by kernel_rfl⟩,
   ⟨_, Tryd.func118, by kernel_rfl, by kernel_rfl⟩,
   ⟨_, Tryd.func119, by kernel_rfl, by kernel_rfl⟩,
   ⟨_, Tryd.func120, by kernel_rfl, by kernel_rfl⟩,
   ⟨_, Tryd.func121, by kernel_rfl, by kernel_rfl⟩,
   ⟨_, Tryd.func122, by kernel_rfl, by kernel_rfl⟩,
   ⟨_, Tryd.func124, by kernel_rfl, by kernel_rfl⟩,
   ⟨_, Tryd.func125, by kernel_rfl, by kernel_rfl⟩,
   ⟨_, Tryd.func126, by kernel_rfl, by kernel_rfl⟩,
   ⟨_, Tryd.func127, by kernel_rfl, by kernel_rfl⟩,
   ⟨_, Tryd.func128, by kernel_rfl, by kernel_rfl⟩,
   ⟨_, Tryd.func129, by kernel_rfl, by kernel_rfl⟩,
   ⟨_, Tryd.func130, by kernel_rfl, by kernel_rfl⟩,
   ⟨_, Tryd.func131, by kernel_rfl, by kernel_rfl⟩,
   ⟨_, Tryd.func133, by kernel_rfl, by kernel_rfl⟩, trivial⟩

theorem gx_ms : AllM Tryd.prog gx.ms :=
  trivial

theorem gx_eqs : AllE Tryd.prog gx.eqs :=
  ⟨⟨by kernel_rfl, by kernel_rfl, by kernel_rfl⟩,
   ⟨by kernel_rfl, by kernel_rfl, by kernel_rfl⟩, trivial⟩

theorem gx_ok : gx.Ok := ⟨gx_tys, gx_fns, by kernel_rfl, gx_ms, gx_eqs⟩

/-- koinelaw03.FormulaParsesLikeReference -/
noncomputable abbrev c3 : Cx := { g := gx, N := 43, named := 10, keep := [18] }
/-- koinelaw03.FormulaAnyDiagram -/
noncomputable abbrev c4 : Cx := { g := gx, N := 47, named := 1, keep := [1, 2, 3, 4, 5, 6, 7, 12] }
/-- koinelaw03.FormulaRoundTrip -/
noncomputable abbrev c5 : Cx := { g := gx, N := 64, named := 14, keep := [] }
/-- koinelaw03.FormulaParentheses -/
noncomputable abbrev c6 : Cx := { g := gx, N := 73, named := 15, keep := [30, 34, 40, 71] }
/-- koinelaw03.FormulaSpaces -/
noncomputable abbrev c7 : Cx := { g := gx, N := 62, named := 16, keep := [] }
/-- koinelaw03.FormulaMatchesReference -/
noncomputable abbrev c8 : Cx := { g := gx, N := 69, named := 12, keep := [30, 58] }
/-- koinelaw03.FormulaOperators -/
noncomputable abbrev c9 : Cx := { g := gx, N := 120, named := 13, keep := [13, 14, 15, 16, 17, 18, 19, 20, 21, 51] }
/-- koinelaw03.FormulaHoldsInItsSet -/
noncomputable abbrev c10 : Cx := { g := gx, N := 63, named := 9, keep := [9, 10, 11, 12, 13, 36] }
/-- koinelaw03.sanity -/
noncomputable abbrev c11 : Cx := { g := gx, N := 131, named := 14, keep := [14, 16, 18, 20, 21, 22] }
/-- formula.Parse -/
noncomputable abbrev c12 : Cx := { g := gx, N := 50, named := 4, keep := [4, 5, 6, 7, 8, 15, 25, 32, 38] }
/-- koineref03.Parse -/
noncomputable abbrev c13 : Cx := { g := gx, N := 58, named := 9, keep := [11, 18, 25, 42, 47] }
/-- koineref03.Same -/
noncomputable abbrev c14 : Cx := { g := gx, N := 26, named := 6, keep := [10, 14, 25] }
/-- formula.Of -/
noncomputable abbrev c15 : Cx := { g := gx, N := 28, named := 1, keep := [1, 2, 3, 4, 5, 9, 23] }
/-- koineref03.Of -/
noncomputable abbrev c16 : Cx := { g := gx, N := 29, named := 1, keep := [1, 2, 3, 4, 5, 9, 17] }
/-- diagram.Check -/
noncomputable abbrev c17 : Cx := { g := gx, N := 106, named := 1, keep := [1, 2, 3, 4, 5, 6, 10, 13, 14, 15, 16, 63, 79, 94, 105] }
/-- koineref03.Letters -/
noncomputable abbrev c18 : Cx := { g := gx, N := 6, named := 3, keep := [] }
/-- koineref03.Made -/
noncomputable abbrev c19 : Cx := { g := gx, N := 164, named := 13, keep := [20, 44, 64, 86, 110, 132, 137] }
/-- formula.Print -/
noncomputable abbrev c20 : Cx := { g := gx, N := 45, named := 9, keep := [9, 10, 17, 20, 21, 22, 23, 24, 36] }
/-- koineref03.Postorder -/
noncomputable abbrev c21 : Cx := { g := gx, N := 8, named := 3, keep := [] }
/-- koinelaw03.closing -/
noncomputable abbrev c22 : Cx := { g := gx, N := 30, named := 7, keep := [11, 17, 23, 27] }
/-- koinelaw03.spaced -/
noncomputable abbrev c23 : Cx := { g := gx, N := 79, named := 9, keep := [12, 36, 40, 54] }
/-- koineref03.Print -/
noncomputable abbrev c24 : Cx := { g := gx, N := 41, named := 7, keep := [9, 12, 16, 34] }
/-- formula.Check -/
noncomputable abbrev c25 : Cx := { g := gx, N := 63, named := 3, keep := [3, 4, 5, 6, 8, 9, 17, 18, 19, 20, 21, 29, 36, 37, 38, 39, 44, 54, 55, 56, 61] }
/-- koineref03.Check -/
noncomputable abbrev c26 : Cx := { g := gx, N := 79, named := 7, keep := [14, 21, 30, 38, 50, 64, 78] }
/-- formula.Holds -/
noncomputable abbrev c27 : Cx := { g := gx, N := 91, named := 7, keep := [7, 10, 14, 15, 16, 17, 22, 23, 28, 39, 50, 67] }
/-- koineref03.Holds -/
noncomputable abbrev c28 : Cx := { g := gx, N := 16, named := 5, keep := [] }
/-- koinelaw03.set -/
noncomputable abbrev c29 : Cx := { g := gx, N := 21, named := 4, keep := [4, 5, 7] }
/-- diagram.And -/
noncomputable abbrev c30 : Cx := { g := gx, N := 11, named := 2, keep := [2, 3, 4, 5] }
/-- diagram.Or -/
noncomputable abbrev c31 : Cx := { g := gx, N := 11, named := 2, keep := [2, 3, 4, 5] }
/-- diagram.Not -/
noncomputable abbrev c32 : Cx := { g := gx, N := 9, named := 1, keep := [1, 2, 3] }
/-- diagram.Same -/
noncomputable abbrev c33 : Cx := { g := gx, N := 17, named := 2, keep := [2, 3, 4] }
/-- formula.Diagram -/
noncomputable abbrev c34 : Cx := { g := gx, N := 108, named := 2, keep := [2, 3, 4, 5, 6, 7, 10, 15, 16, 17, 18, 23, 24, 34, 45, 59, 78, 98] }
/-- diagram.Holds -/
noncomputable abbrev c35 : Cx := { g := gx, N := 32, named := 2, keep := [2, 4, 5, 6, 9, 13, 25] }
/-- koineref02.Var -/
noncomputable abbrev c36 : Cx := { g := gx, N := 15, named := 2, keep := [2, 3, 9] }
/-- koineref02.Xor -/
noncomputable abbrev c37 : Cx := { g := gx, N := 11, named := 2, keep := [2, 3, 4, 5] }
/-- formula.Text -/
noncomputable abbrev c38 : Cx := { g := gx, N := 30, named := 3, keep := [3, 4, 5, 7, 8, 9, 16, 23] }
/-- formula.numbers -/
noncomputable abbrev c39 : Cx := { g := gx, N := 47, named := 7, keep := [8, 9, 10, 11, 31] }
/-- formula.Parse$1 -/
noncomputable abbrev c40 : Cx := { g := gx, N := 17, named := 5, keep := [7, 14] }
/-- (*formula.reader).whole -/
noncomputable abbrev c41 : Cx := { g := gx, N := 6, named := 1, keep := [1, 2] }
/-- (*formula.reader).skip -/
noncomputable abbrev c42 : Cx := { g := gx, N := 29, named := 7, keep := [] }
/-- koineref03.Names -/
noncomputable abbrev c43 : Cx := { g := gx, N := 44, named := 4, keep := [7, 40] }
/-- koineref03.tokens -/
noncomputable abbrev c44 : Cx := { g := gx, N := 99, named := 7, keep := [10, 11, 24, 41, 63, 83] }
/-- (*koineref03.parser).expression -/
noncomputable abbrev c45 : Cx := { g := gx, N := 24, named := 5, keep := [15] }
/-- (*formula.canonical).build -/
noncomputable abbrev c46 : Cx := { g := gx, N := 89, named := 5, keep := [5, 6, 7, 17, 32, 42, 52, 62] }
/-- koineref02.Check -/
noncomputable abbrev c47 : Cx := { g := gx, N := 10, named := 1, keep := [1, 2, 6, 9] }
/-- koineref03.sizes -/
noncomputable abbrev c48 : Cx := { g := gx, N := 90, named := 1, keep := [1, 2, 3, 4, 5, 6, 7, 13, 38, 45, 52, 60, 68, 76] }
/-- (*koineref03.writer).number -/
noncomputable abbrev c49 : Cx := { g := gx, N := 99, named := 5, keep := [5, 6, 7, 9, 26, 42, 52, 62, 72] }
/-- diagram.level -/
noncomputable abbrev c50 : Cx := { g := gx, N := 14, named := 2, keep := [2, 4, 6] }
/-- (*diagram.builder).diagram -/
noncomputable abbrev c51 : Cx := { g := gx, N := 17, named := 2, keep := [2, 4, 5, 6, 7] }
/-- formula.write -/
noncomputable abbrev c52 : Cx := { g := gx, N := 75, named := 10, keep := [10, 11, 21, 26, 48, 52, 56, 65] }
/-- (*strings.Builder).String -/
noncomputable abbrev c53 : Cx := { g := gx, N := 14, named := 3, keep := [] }
/-- koineref03.copied -/
noncomputable abbrev c54 : Cx := { g := gx, N := 42, named := 7, keep := [7, 8, 17, 28] }
/-- koineref03.show -/
noncomputable abbrev c55 : Cx := { g := gx, N := 91, named := 7, keep := [7, 13, 14, 16, 18, 25, 41] }
/-- formula.arity -/
noncomputable abbrev c56 : Cx := { g := gx, N := 69, named := 2, keep := [2, 4, 5, 6, 11, 12, 15, 27, 28, 33, 67] }
/-- koineref03.node -/
noncomputable abbrev c57 : Cx := { g := gx, N := 75, named := 2, keep := [2, 4, 5, 30, 46, 74] }
/-- koineref03.operands -/
noncomputable abbrev c58 : Cx := { g := gx, N := 13, named := 3, keep := [3, 4, 8, 10] }
/-- koineref03.value -/
noncomputable abbrev c59 : Cx := { g := gx, N := 61, named := 7, keep := [7, 13, 14, 16, 25, 33, 47] }
/-- diagram.binary -/
noncomputable abbrev c60 : Cx := { g := gx, N := 26, named := 3, keep := [3, 4, 5, 6, 7, 8, 14] }
/-- diagram.And$1 -/
noncomputable abbrev c61 : Cx := { g := gx, N := 9, named := 5, keep := [] }
/-- diagram.Or$1 -/
noncomputable abbrev c62 : Cx := { g := gx, N := 9, named := 5, keep := [] }
/-- diagram.Not$1 -/
noncomputable abbrev c63 : Cx := { g := gx, N := 7, named := 5, keep := [] }
/-- slices.Equal[[]api.Branch,api.Branch] -/
noncomputable abbrev c64 : Cx := { g := gx, N := 26, named := 6, keep := [10, 12, 13, 14, 24] }
/-- diagram.Constant -/
noncomputable abbrev c65 : Cx := { g := gx, N := 6, named := 2, keep := [2, 3] }
/-- diagram.Var -/
noncomputable abbrev c66 : Cx := { g := gx, N := 15, named := 2, keep := [2, 3, 9] }
/-- koineref02.operation -/
noncomputable abbrev c67 : Cx := { g := gx, N := 24, named := 3, keep := [3, 4, 6, 7, 8, 14] }
/-- formula.identifier -/
noncomputable abbrev c68 : Cx := { g := gx, N := 23, named := 4, keep := [7, 21] }
/-- (*formula.reader).expression -/
noncomputable abbrev c69 : Cx := { g := gx, N := 25, named := 11, keep := [15] }
/-- (*formula.reader).whole$1 -/
noncomputable abbrev c70 : Cx := { g := gx, N := 6, named := 2, keep := [] }
/-- (*formula.reader).factor -/
noncomputable abbrev c71 : Cx := { g := gx, N := 84, named := 9, keep := [10, 18, 23, 32, 49, 50, 55] }
/-- strings.TrimLeft -/
noncomputable abbrev c72 : Cx := { g := gx, N := 37, named := 5, keep := [5, 6, 12, 21, 31] }
/-- strings.CutPrefix -/
noncomputable abbrev c73 : Cx := { g := gx, N := 11, named := 6, keep := [] }
/-- koineref03.Identifier -/
noncomputable abbrev c74 : Cx := { g := gx, N := 34, named := 4, keep := [7, 30] }
/-- koineref03.index -/
noncomputable abbrev c75 : Cx := { g := gx, N := 19, named := 6, keep := [9, 17] }
/-- koineref03.letter -/
noncomputable abbrev c76 : Cx := { g := gx, N := 21, named := 3, keep := [] }
/-- (*koineref03.parser).conjunction -/
noncomputable abbrev c77 : Cx := { g := gx, N := 24, named := 5, keep := [15] }
/-- (*koineref03.parser).next -/
noncomputable abbrev c78 : Cx := { g := gx, N := 36, named := 5, keep := [28] }
/-- (*koineref03.parser).put -/
noncomputable abbrev c79 : Cx := { g := gx, N := 21, named := 3, keep := [3, 4] }
/-- (*formula.canonical).put -/
noncomputable abbrev c80 : Cx := { g := gx, N := 27, named := 3, keep := [3, 4, 10] }
/-- (*formula.canonical).side -/
noncomputable abbrev c81 : Cx := { g := gx, N := 39, named := 13, keep := [18, 28] }
/-- koineref02.Valid -/
noncomputable abbrev c82 : Cx := { g := gx, N := 34, named := 1, keep := [1, 2, 3, 15, 20, 26] }
/-- (*koineref03.writer).put -/
noncomputable abbrev c83 : Cx := { g := gx, N := 21, named := 3, keep := [3, 4] }
/-- (*koineref03.writer).variable -/
noncomputable abbrev c84 : Cx := { g := gx, N := 18, named := 8, keep := [12] }
/-- (*koineref03.writer).joined -/
noncomputable abbrev c85 : Cx := { g := gx, N := 26, named := 13, keep := [] }
/-- (*diagram.builder).diagram$1 -/
noncomputable abbrev c86 : Cx := { g := gx, N := 55, named := 9, keep := [9, 10, 11, 18] }
/-- formula.strength -/
noncomputable abbrev c87 : Cx := { g := gx, N := 8, named := 3, keep := [3, 4, 6] }
/-- (*strings.Builder).WriteByte -/
noncomputable abbrev c88 : Cx := { g := gx, N := 17, named := 5, keep := [] }
/-- (*strings.Builder).WriteString -/
noncomputable abbrev c89 : Cx := { g := gx, N := 19, named := 6, keep := [] }
/-- koineref03.around -/
noncomputable abbrev c90 : Cx := { g := gx, N := 24, named := 8, keep := [11, 19] }
/-- diagram.check -/
noncomputable abbrev c91 : Cx := { g := gx, N := 18, named := 4, keep := [4, 5, 6, 7, 8, 9, 15] }
/-- diagram.limited -/
noncomputable abbrev c92 : Cx := { g := gx, N := 10, named := 1, keep := [1, 2, 3, 7] }
/-- diagram.combine -/
noncomputable abbrev c93 : Cx := { g := gx, N := 25, named := 2, keep := [2, 3, 4, 5, 6, 7] }
/-- diagram.binary$1 -/
noncomputable abbrev c94 : Cx := { g := gx, N := 12, named := 8, keep := [] }
/-- koineref02.first -/
noncomputable abbrev c95 : Cx := { g := gx, N := 19, named := 5, keep := [8, 17] }
/-- koineref02.limited -/
noncomputable abbrev c96 : Cx := { g := gx, N := 10, named := 1, keep := [1, 2, 3, 7] }
/-- koineref02.combine -/
noncomputable abbrev c97 : Cx := { g := gx, N := 26, named := 3, keep := [3, 4, 6, 7, 8] }
/-- strings.IndexFunc -/
noncomputable abbrev c98 : Cx := { g := gx, N := 8, named := 5, keep := [] }
/-- formula.identifier$1 -/
noncomputable abbrev c99 : Cx := { g := gx, N := 29, named := 3, keep := [] }
/-- (*formula.reader).put -/
noncomputable abbrev c100 : Cx := { g := gx, N := 21, named := 3, keep := [3, 4] }
/-- strings.trimLeftByte -/
noncomputable abbrev c101 : Cx := { g := gx, N := 17, named := 5, keep := [13] }
/-- strings.makeASCIISet -/
noncomputable abbrev c102 : Cx := { g := gx, N := 21, named := 2, keep := [2, 3, 4, 5, 9, 16] }
/-- strings.trimLeftASCII -/
noncomputable abbrev c103 : Cx := { g := gx, N := 16, named := 5, keep := [7, 12] }
/-- strings.trimLeftUnicode -/
noncomputable abbrev c104 : Cx := { g := gx, N := 23, named := 7, keep := [9, 18] }
/-- internal/stringslite.CutPrefix -/
noncomputable abbrev c105 : Cx := { g := gx, N := 15, named := 6, keep := [9] }
/-- (*koineref03.parser).factor -/
noncomputable abbrev c106 : Cx := { g := gx, N := 97, named := 7, keep := [15, 21, 27, 34, 39, 86] }
/-- koineref02.branch -/
noncomputable abbrev c107 : Cx := { g := gx, N := 79, named := 2, keep := [2, 4, 5, 6, 50, 66, 69, 78] }
/-- koineref02.Same -/
noncomputable abbrev c108 : Cx := { g := gx, N := 38, named := 2, keep := [2, 3, 4, 5, 19, 24, 37] }
/-- koineref02.numbered -/
noncomputable abbrev c109 : Cx := { g := gx, N := 22, named := 4, keep := [4, 5, 6] }
/-- (*strings.Builder).copyCheck -/
noncomputable abbrev c110 : Cx := { g := gx, N := 20, named := 2, keep := [6, 19] }
/-- diagram.newBuilder -/
noncomputable abbrev c111 : Cx := { g := gx, N := 4, named := 1, keep := [] }
/-- diagram.combine$1 -/
noncomputable abbrev c112 : Cx := { g := gx, N := 97, named := 6, keep := [6, 7, 8, 9, 10, 11, 12, 13, 14, 15, 28, 39, 46, 64, 65] }
/-- diagram.sides -/
noncomputable abbrev c113 : Cx := { g := gx, N := 29, named := 3, keep := [3, 6, 7, 12] }
/-- (*diagram.builder).branch -/
noncomputable abbrev c114 : Cx := { g := gx, N := 54, named := 9, keep := [9, 10, 11, 14, 30] }
/-- (*koineref02.apply).at -/
noncomputable abbrev c115 : Cx := { g := gx, N := 137, named := 17, keep := [22, 33, 57] }
/-- strings.indexFunc -/
noncomputable abbrev c116 : Cx := { g := gx, N := 21, named := 9, keep := [10, 11, 12, 19] }
/-- (*strings.asciiSet).contains -/
noncomputable abbrev c117 : Cx := { g := gx, N := 10, named := 5, keep := [] }
/-- unicode/utf8.DecodeRuneInString -/
noncomputable abbrev c118 : Cx := { g := gx, N := 19, named := 4, keep := [10] }
/-- strings.ContainsRune -/
noncomputable abbrev c119 : Cx := { g := gx, N := 9, named := 5, keep := [] }
/-- internal/stringslite.HasPrefix -/
noncomputable abbrev c120 : Cx := { g := gx, N := 18, named := 5, keep := [] }
/-- koineref02.level -/
noncomputable abbrev c121 : Cx := { g := gx, N := 14, named := 2, keep := [2, 4, 6] }
/-- (*koineref02.walk).visit -/
noncomputable abbrev c122 : Cx := { g := gx, N := 77, named := 5, keep := [5, 6, 7, 9, 19] }
/-- (*koineref02.apply).constant -/
noncomputable abbrev c124 : Cx := { g := gx, N := 25, named := 7, keep := [10, 11, 16] }
/-- koineref02.sides -/
noncomputable abbrev c125 : Cx := { g := gx, N := 29, named := 3, keep := [3, 6, 7, 12] }
/-- koineref02.unique -/
noncomputable abbrev c126 : Cx := { g := gx, N := 38, named := 3, keep := [3, 4, 5, 6, 11, 18, 26] }
/-- unicode/utf8.decodeRuneInStringSlow -/
noncomputable abbrev c127 : Cx := { g := gx, N := 117, named := 9, keep := [9, 10, 11, 12, 16, 23, 45, 57, 59, 75, 77, 98] }
/-- strings.IndexRune -/
noncomputable abbrev c128 : Cx := { g := gx, N := 187, named := 17, keep := [26, 33, 43, 51, 64, 98, 108, 124, 139, 143, 160, 171, 175, 176, 177, 181, 183] }
/-- strings.IndexByte -/
noncomputable abbrev c129 : Cx := { g := gx, N := 8, named := 5, keep := [] }
/-- unicode/utf8.ValidRune -/
noncomputable abbrev c130 : Cx := { g := gx, N := 17, named := 4, keep := [10] }
/-- internal/bytealg.Cutover -/
noncomputable abbrev c131 : Cx := { g := gx, N := 6, named := 3, keep := [] }
/-- internal/stringslite.IndexByte -/
noncomputable abbrev c133 : Cx := { g := gx, N := 8, named := 5, keep := [] }

end Go.Proofs.YtdbhjlpkopnebaaDoor
