/-
  The facts of this translation that the engine asks: its types, its functions, and for each function how many slots it has. Printed by a program (wip/gen.py).
  Conditions: none.
-/
import Derived.Test.YtdbhjlpkopnebaaGreatDoorProg
import Derived.Test.YtdbhjlpkopnebaaGreatDoorMem2
namespace Go.Proofs.YtdbhjlpkopnebaaGreatDoor
open Go Go.RowKit

noncomputable def gx : Gx where
  P := Tryz.prog
  tys := [
    ⟨1, .func #[] #[] false, 1, 8, .nilFunc⟩,
    ⟨3, .int .i64, 1, 8, .int .i64 0⟩,
    ⟨4, .bool, 1, 1, .bool false⟩,
    ⟨5, .int .u8, 1, 1, .int .u8 0⟩,
    ⟨9, .string, 1, 16, .string ByteArray.empty⟩,
    ⟨20, .interface #[], 1, 16, .nilIface⟩,
    ⟨21, .int .i32, 1, 4, .int .i32 0⟩,
    ⟨22, .slice 5, 1, 24, .slice none 0 0⟩,
    ⟨24, .struct #[{ name := "L", type := 22, offset := 0, embedded := false, tag := "", pkgPath := "", byteOffset := 0 }, { name := "M", type := 22, offset := 1, embedded := false, tag := "", pkgPath := "", byteOffset := 24 }, { name := "N", type := 5, offset := 2, embedded := false, tag := "", pkgPath := "", byteOffset := 48 }, { name := "Table", type := 22, offset := 3, embedded := false, tag := "", pkgPath := "", byteOffset := 56 }, { name := "K", type := 5, offset := 4, embedded := false, tag := "", pkgPath := "", byteOffset := 80 }], 5, 88, .agg #[.slice none 0 0, .slice none 0 0, .int .u8 0, .slice none 0 0, .int .u8 0]⟩,
    ⟨27, .slice 51, 1, 24, .slice none 0 0⟩,
    ⟨29, .slice 74, 1, 24, .slice none 0 0⟩,
    ⟨31, .struct #[{ name := "Nodes", type := 29, offset := 0, embedded := false, tag := "", pkgPath := "", byteOffset := 0 }, { name := "Root", type := 3, offset := 1, embedded := false, tag := "", pkgPath := "", byteOffset := 24 }], 2, 32, .agg #[.slice none 0 0, .int .i64 0]⟩,
    ⟨32, .int .i64, 1, 8, .int .i64 0⟩,
    ⟨40, .slice 9, 1, 24, .slice none 0 0⟩,
    ⟨47, .int .u64, 1, 8, .int .u64 0⟩,
    ⟨51, .struct #[{ name := "Op", type := 3, offset := 0, embedded := false, tag := "", pkgPath := "", byteOffset := 0 }, { name := "Var", type := 3, offset := 1, embedded := false, tag := "", pkgPath := "", byteOffset := 8 }, { name := "A", type := 3, offset := 2, embedded := false, tag := "", pkgPath := "", byteOffset := 16 }, { name := "B", type := 3, offset := 3, embedded := false, tag := "", pkgPath := "", byteOffset := 24 }], 4, 32, .agg #[.int .i64 0, .int .i64 0, .int .i64 0, .int .i64 0]⟩,
    ⟨55, .slice 3, 1, 24, .slice none 0 0⟩,
    ⟨56, .slice 31, 1, 24, .slice none 0 0⟩,
    ⟨61, .pointer 63, 1, 8, .pointer none⟩,
    ⟨63, .struct #[{ name := "d", type := 31, offset := 0, embedded := false, tag := "", pkgPath := "koine/formula", byteOffset := 0 }, { name := "f", type := 27, offset := 2, embedded := false, tag := "", pkgPath := "koine/formula", byteOffset := 32 }], 3, 56, .agg #[.slice none 0 0, .int .i64 0, .slice none 0 0]⟩,
    ⟨64, .func #[3] #[3] false, 1, 8, .nilFunc⟩,
    ⟨66, .pointer 68, 1, 8, .pointer none⟩,
    ⟨68, .struct #[{ name := "d", type := 31, offset := 0, embedded := false, tag := "", pkgPath := "koine/koineref03", byteOffset := 0 }, { name := "f", type := 27, offset := 2, embedded := false, tag := "", pkgPath := "koine/koineref03", byteOffset := 32 }], 3, 56, .agg #[.slice none 0 0, .int .i64 0, .slice none 0 0]⟩,
    ⟨69, .map 9 3, 1, 8, .map none⟩,
    ⟨74, .struct #[{ name := "Var", type := 3, offset := 0, embedded := false, tag := "", pkgPath := "", byteOffset := 0 }, { name := "Low", type := 3, offset := 1, embedded := false, tag := "", pkgPath := "", byteOffset := 8 }, { name := "High", type := 3, offset := 2, embedded := false, tag := "", pkgPath := "", byteOffset := 16 }], 3, 24, .agg #[.int .i64 0, .int .i64 0, .int .i64 0]⟩,
    ⟨77, .pointer 79, 1, 8, .pointer none⟩,
    ⟨79, .struct #[{ name := "names", type := 69, offset := 0, embedded := false, tag := "", pkgPath := "koine/formula", byteOffset := 0 }, { name := "rest", type := 9, offset := 1, embedded := false, tag := "", pkgPath := "koine/formula", byteOffset := 8 }, { name := "f", type := 27, offset := 2, embedded := false, tag := "", pkgPath := "koine/formula", byteOffset := 24 }, { name := "unknown", type := 4, offset := 3, embedded := false, tag := "", pkgPath := "koine/formula", byteOffset := 48 }], 4, 56, .agg #[.map none, .string ByteArray.empty, .slice none 0 0, .bool false]⟩,
    ⟨80, .func #[] #[3] false, 1, 8, .nilFunc⟩,
    ⟨82, .pointer 84, 1, 8, .pointer none⟩,
    ⟨84, .struct #[{ name := "addr", type := 82, offset := 0, embedded := false, tag := "", pkgPath := "strings", byteOffset := 0 }, { name := "buf", type := 22, offset := 1, embedded := false, tag := "", pkgPath := "strings", byteOffset := 8 }], 2, 32, .agg #[.pointer none, .slice none 0 0]⟩,
    ⟨88, .array 512 4, 512, 512, .agg #[.bool false, .bool false, .bool false, .bool false, .bool false, .bool false, .bool false, .bool false, .bool false, .bool false, .bool false, .bool false, .bool false, .bool false, .bool false, .bool false, .bool false, .bool false, .bool false, .bool false, .bool false, .bool false, .bool false, .bool false, .bool false, .bool false, .bool false, .bool false, .bool false, .bool false, .bool false, .bool false, .bool false, .bool false, .bool false, .bool false, .bool false, .bool false, .bool false, .bool false, .bool false, .bool false, .bool false, .bool false, .bool false, .bool false, .bool false, .bool false, .bool false, .bool false, .bool false, .bool false, .bool false, .bool false, .bool false, .bool false, .bool false, .bool false, .bool false, .bool false, .bool false, .bool false, .bool false, .bool false, .bool false, .bool false, .bool false, .bool false, .bool false, .bool false, .bool false, .bool false, .bool false, .bool false, .bool false, .bool false, .bool false, .bool false, .bool false, .bool false, .bool false, .bool false, .bool false, .bool false, .bool false, .bool false, .bool false, .bool false, .bool false, .bool false, .bool false, .bool false, .bool false, .bool false, .bool false, .bool false, .bool false, .bool false, .bool false, .bool false, .bool false, .bool false, .bool false, .bool false, .bool false, .bool false, .bool false, .bool false, .bool false, .bool false, .bool false, .bool false, .bool false, .bool false, .bool false, .bool false, .bool false, .bool false, .bool false, .bool false, .bool false, .bool false, .bool false, .bool false, .bool false, .bool false, .bool false, .bool false, .bool false, .bool false, .bool false, .bool false, .bool false, .bool false, .bool false, .bool false, .bool false, .bool false, .bool false, .bool false, .bool false, .bool false, .bool false, .bool false, .bool false, .bool false, .bool false, .bool false, .bool false, .bool false, .bool false, .bool false, .bool false, .bool false, .bool false, .bool false, .bool false, .bool false, .bool false, .bool false, .bool false, .bool false, .bool false, .bool false, .bool false, .bool false, .bool false, .bool false, .bool false, .bool false, .bool false, .bool false, .bool false, .bool false, .bool false, .bool false, .bool false, .bool false, .bool false, .bool false, .bool false, .bool false, .bool false, .bool false, .bool false, .bool false, .bool false, .bool false, .bool false, .bool false, .bool false, .bool false, .bool false, .bool false, .bool false, .bool false, .bool false, .bool false, .bool false, .bool false, .bool false, .bool false, .bool false, .bool false, .bool false, .bool false, .bool false, .bool false, .bool false, .bool false, .bool false, .bool false, .bool false, .bool false, .bool false, .bool false, .bool false, .bool false, .bool false, .bool false, .bool false, .bool false, .bool false, .bool false, .bool false, .bool false, .bool false, .bool false, .bool false, .bool false, .bool false, .bool false, .bool false, .bool false, .bool false, .bool false, .bool false, .bool false, .bool false, .bool false, .bool false, .bool false, .bool false, .bool false, .bool false, .bool false, .bool false, .bool false, .bool false, .bool false, .bool false, .bool false, .bool false, .bool false, .bool false, .bool false, .bool false, .bool false, .bool false, .bool false, .bool false, .bool false, .bool false, .bool false, .bool false, .bool false, .bool false, .bool false, .bool false, .bool false, .bool false, .bool false, .bool false, .bool false, .bool false, .bool false, .bool false, .bool false, .bool false, .bool false, .bool false, .bool false, .bool false, .bool false, .bool false, .bool false, .bool false, .bool false, .bool false, .bool false, .bool false, .bool false, .bool false, .bool false, .bool false, .bool false, .bool false, .bool false, .bool false, .bool false, .bool false, .bool false, .bool false, .bool false, .bool false, .bool false, .bool false, .bool false, .bool false, .bool false, .bool false, .bool false, .bool false, .bool false, .bool false, .bool false, .bool false, .bool false, .bool false, .bool false, .bool false, .bool false, .bool false, .bool false, .bool false, .bool false, .bool false, .bool false, .bool false, .bool false, .bool false, .bool false, .bool false, .bool false, .bool false, .bool false, .bool false, .bool false, .bool false, .bool false, .bool false, .bool false, .bool false, .bool false, .bool false, .bool false, .bool false, .bool false, .bool false, .bool false, .bool false, .bool false, .bool false, .bool false, .bool false, .bool false, .bool false, .bool false, .bool false, .bool false, .bool false, .bool false, .bool false, .bool false, .bool false, .bool false, .bool false, .bool false, .bool false, .bool false, .bool false, .bool false, .bool false, .bool false, .bool false, .bool false, .bool false, .bool false, .bool false, .bool false, .bool false, .bool false, .bool false, .bool false, .bool false, .bool false, .bool false, .bool false, .bool false, .bool false, .bool false, .bool false, .bool false, .bool false, .bool false, .bool false, .bool false, .bool false, .bool false, .bool false, .bool false, .bool false, .bool false, .bool false, .bool false, .bool false, .bool false, .bool false, .bool false, .bool false, .bool false, .bool false, .bool false, .bool false, .bool false, .bool false, .bool false, .bool false, .bool false, .bool false, .bool false, .bool false, .bool false, .bool false, .bool false, .bool false, .bool false, .bool false, .bool false, .bool false, .bool false, .bool false, .bool false, .bool false, .bool false, .bool false, .bool false, .bool false, .bool false, .bool false, .bool false, .bool false, .bool false, .bool false, .bool false, .bool false, .bool false, .bool false, .bool false, .bool false, .bool false, .bool false, .bool false, .bool false, .bool false, .bool false, .bool false, .bool false, .bool false, .bool false, .bool false, .bool false, .bool false, .bool false, .bool false, .bool false, .bool false, .bool false, .bool false, .bool false, .bool false, .bool false, .bool false, .bool false, .bool false, .bool false, .bool false, .bool false, .bool false, .bool false, .bool false, .bool false, .bool false, .bool false, .bool false, .bool false, .bool false, .bool false, .bool false, .bool false, .bool false, .bool false, .bool false, .bool false, .bool false, .bool false, .bool false, .bool false, .bool false, .bool false, .bool false, .bool false, .bool false, .bool false, .bool false, .bool false, .bool false, .bool false, .bool false, .bool false, .bool false, .bool false]⟩,
    ⟨91, .func #[4, 4] #[4] false, 1, 8, .nilFunc⟩,
    ⟨94, .int .u64, 1, 8, .int .u64 0⟩,
    ⟨96, .map 74 4, 1, 8, .map none⟩,
    ⟨98, .pointer 101, 1, 8, .pointer none⟩,
    ⟨99, .map 74 3, 1, 8, .map none⟩,
    ⟨101, .struct #[{ name := "nodes", type := 29, offset := 0, embedded := false, tag := "", pkgPath := "koine/diagram", byteOffset := 0 }, { name := "known", type := 99, offset := 1, embedded := false, tag := "", pkgPath := "koine/diagram", byteOffset := 24 }], 2, 32, .agg #[.slice none 0 0, .map none]⟩,
    ⟨115, .interface #[("Error", 86)], 1, 16, .nilIface⟩,
    ⟨119, .pointer 5, 1, 8, .pointer none⟩,
    ⟨124, .array 3 31, 6, 96, .agg #[.slice none 0 0, .int .i64 0, .slice none 0 0, .int .i64 0, .slice none 0 0, .int .i64 0]⟩,
    ⟨125, .func #[4, 4, 4] #[4] false, 1, 8, .nilFunc⟩,
    ⟨126, .map 3 3, 1, 8, .map none⟩,
    ⟨131, .func #[21] #[4] false, 1, 8, .nilFunc⟩,
    ⟨136, .array 256 4, 256, 256, .agg #[.bool false, .bool false, .bool false, .bool false, .bool false, .bool false, .bool false, .bool false, .bool false, .bool false, .bool false, .bool false, .bool false, .bool false, .bool false, .bool false, .bool false, .bool false, .bool false, .bool false, .bool false, .bool false, .bool false, .bool false, .bool false, .bool false, .bool false, .bool false, .bool false, .bool false, .bool false, .bool false, .bool false, .bool false, .bool false, .bool false, .bool false, .bool false, .bool false, .bool false, .bool false, .bool false, .bool false, .bool false, .bool false, .bool false, .bool false, .bool false, .bool false, .bool false, .bool false, .bool false, .bool false, .bool false, .bool false, .bool false, .bool false, .bool false, .bool false, .bool false, .bool false, .bool false, .bool false, .bool false, .bool false, .bool false, .bool false, .bool false, .bool false, .bool false, .bool false, .bool false, .bool false, .bool false, .bool false, .bool false, .bool false, .bool false, .bool false, .bool false, .bool false, .bool false, .bool false, .bool false, .bool false, .bool false, .bool false, .bool false, .bool false, .bool false, .bool false, .bool false, .bool false, .bool false, .bool false, .bool false, .bool false, .bool false, .bool false, .bool false, .bool false, .bool false, .bool false, .bool false, .bool false, .bool false, .bool false, .bool false, .bool false, .bool false, .bool false, .bool false, .bool false, .bool false, .bool false, .bool false, .bool false, .bool false, .bool false, .bool false, .bool false, .bool false, .bool false, .bool false, .bool false, .bool false, .bool false, .bool false, .bool false, .bool false, .bool false, .bool false, .bool false, .bool false, .bool false, .bool false, .bool false, .bool false, .bool false, .bool false, .bool false, .bool false, .bool false, .bool false, .bool false, .bool false, .bool false, .bool false, .bool false, .bool false, .bool false, .bool false, .bool false, .bool false, .bool false, .bool false, .bool false, .bool false, .bool false, .bool false, .bool false, .bool false, .bool false, .bool false, .bool false, .bool false, .bool false, .bool false, .bool false, .bool false, .bool false, .bool false, .bool false, .bool false, .bool false, .bool false, .bool false, .bool false, .bool false, .bool false, .bool false, .bool false, .bool false, .bool false, .bool false, .bool false, .bool false, .bool false, .bool false, .bool false, .bool false, .bool false, .bool false, .bool false, .bool false, .bool false, .bool false, .bool false, .bool false, .bool false, .bool false, .bool false, .bool false, .bool false, .bool false, .bool false, .bool false, .bool false, .bool false, .bool false, .bool false, .bool false, .bool false, .bool false, .bool false, .bool false, .bool false, .bool false, .bool false, .bool false, .bool false, .bool false, .bool false, .bool false, .bool false, .bool false, .bool false, .bool false, .bool false, .bool false, .bool false, .bool false, .bool false, .bool false, .bool false, .bool false, .bool false, .bool false, .bool false, .bool false, .bool false, .bool false, .bool false, .bool false, .bool false, .bool false, .bool false, .bool false, .bool false, .bool false, .bool false, .bool false, .bool false, .bool false, .bool false, .bool false]⟩,
    ⟨140, .pointer 136, 1, 8, .pointer none⟩,
    ⟨141, .pointer 144, 1, 8, .pointer none⟩,
    ⟨142, .slice 149, 1, 24, .slice none 0 0⟩,
    ⟨144, .struct #[{ name := "a", type := 31, offset := 0, embedded := false, tag := "", pkgPath := "koine/koineref02", byteOffset := 0 }, { name := "b", type := 31, offset := 2, embedded := false, tag := "", pkgPath := "koine/koineref02", byteOffset := 32 }, { name := "op", type := 3, offset := 4, embedded := false, tag := "", pkgPath := "koine/koineref02", byteOffset := 64 }, { name := "nodes", type := 29, offset := 5, embedded := false, tag := "", pkgPath := "koine/koineref02", byteOffset := 72 }, { name := "seen", type := 142, offset := 6, embedded := false, tag := "", pkgPath := "koine/koineref02", byteOffset := 96 }], 7, 120, .agg #[.slice none 0 0, .int .i64 0, .slice none 0 0, .int .i64 0, .int .i64 0, .slice none 0 0, .slice none 0 0]⟩,
    ⟨147, .map 149 3, 1, 8, .map none⟩,
    ⟨148, .func #[149] #[3] false, 1, 8, .nilFunc⟩,
    ⟨149, .array 3 3, 3, 24, .agg #[.int .i64 0, .int .i64 0, .int .i64 0]⟩,
    ⟨153, .pointer 155, 1, 8, .pointer none⟩,
    ⟨155, .struct #[{ name := "nodes", type := 29, offset := 0, embedded := false, tag := "", pkgPath := "koine/koineref02", byteOffset := 0 }, { name := "number", type := 55, offset := 1, embedded := false, tag := "", pkgPath := "koine/koineref02", byteOffset := 24 }, { name := "out", type := 29, offset := 2, embedded := false, tag := "", pkgPath := "koine/koineref02", byteOffset := 48 }], 3, 72, .agg #[.slice none 0 0, .slice none 0 0, .slice none 0 0]⟩,
    ⟨161, .unsafePointer, 1, 8, .pointer none⟩,
    ⟨166, .array 256 5, 256, 256, .agg #[.int .u8 0, .int .u8 0, .int .u8 0, .int .u8 0, .int .u8 0, .int .u8 0, .int .u8 0, .int .u8 0, .int .u8 0, .int .u8 0, .int .u8 0, .int .u8 0, .int .u8 0, .int .u8 0, .int .u8 0, .int .u8 0, .int .u8 0, .int .u8 0, .int .u8 0, .int .u8 0, .int .u8 0, .int .u8 0, .int .u8 0, .int .u8 0, .int .u8 0, .int .u8 0, .int .u8 0, .int .u8 0, .int .u8 0, .int .u8 0, .int .u8 0, .int .u8 0, .int .u8 0, .int .u8 0, .int .u8 0, .int .u8 0, .int .u8 0, .int .u8 0, .int .u8 0, .int .u8 0, .int .u8 0, .int .u8 0, .int .u8 0, .int .u8 0, .int .u8 0, .int .u8 0, .int .u8 0, .int .u8 0, .int .u8 0, .int .u8 0, .int .u8 0, .int .u8 0, .int .u8 0, .int .u8 0, .int .u8 0, .int .u8 0, .int .u8 0, .int .u8 0, .int .u8 0, .int .u8 0, .int .u8 0, .int .u8 0, .int .u8 0, .int .u8 0, .int .u8 0, .int .u8 0, .int .u8 0, .int .u8 0, .int .u8 0, .int .u8 0, .int .u8 0, .int .u8 0, .int .u8 0, .int .u8 0, .int .u8 0, .int .u8 0, .int .u8 0, .int .u8 0, .int .u8 0, .int .u8 0, .int .u8 0, .int .u8 0, .int .u8 0, .int .u8 0, .int .u8 0, .int .u8 0, .int .u8 0, .int .u8 0, .int .u8 0, .int .u8 0, .int .u8 0, .int .u8 0, .int .u8 0, .int .u8 0, .int .u8 0, .int .u8 0, .int .u8 0, .int .u8 0, .int .u8 0, .int .u8 0, .int .u8 0, .int .u8 0, .int .u8 0, .int .u8 0, .int .u8 0, .int .u8 0, .int .u8 0, .int .u8 0, .int .u8 0, .int .u8 0, .int .u8 0, .int .u8 0, .int .u8 0, .int .u8 0, .int .u8 0, .int .u8 0, .int .u8 0, .int .u8 0, .int .u8 0, .int .u8 0, .int .u8 0, .int .u8 0, .int .u8 0, .int .u8 0, .int .u8 0, .int .u8 0, .int .u8 0, .int .u8 0, .int .u8 0, .int .u8 0, .int .u8 0, .int .u8 0, .int .u8 0, .int .u8 0, .int .u8 0, .int .u8 0, .int .u8 0, .int .u8 0, .int .u8 0, .int .u8 0, .int .u8 0, .int .u8 0, .int .u8 0, .int .u8 0, .int .u8 0, .int .u8 0, .int .u8 0, .int .u8 0, .int .u8 0, .int .u8 0, .int .u8 0, .int .u8 0, .int .u8 0, .int .u8 0, .int .u8 0, .int .u8 0, .int .u8 0, .int .u8 0, .int .u8 0, .int .u8 0, .int .u8 0, .int .u8 0, .int .u8 0, .int .u8 0, .int .u8 0, .int .u8 0, .int .u8 0, .int .u8 0, .int .u8 0, .int .u8 0, .int .u8 0, .int .u8 0, .int .u8 0, .int .u8 0, .int .u8 0, .int .u8 0, .int .u8 0, .int .u8 0, .int .u8 0, .int .u8 0, .int .u8 0, .int .u8 0, .int .u8 0, .int .u8 0, .int .u8 0, .int .u8 0, .int .u8 0, .int .u8 0, .int .u8 0, .int .u8 0, .int .u8 0, .int .u8 0, .int .u8 0, .int .u8 0, .int .u8 0, .int .u8 0, .int .u8 0, .int .u8 0, .int .u8 0, .int .u8 0, .int .u8 0, .int .u8 0, .int .u8 0, .int .u8 0, .int .u8 0, .int .u8 0, .int .u8 0, .int .u8 0, .int .u8 0, .int .u8 0, .int .u8 0, .int .u8 0, .int .u8 0, .int .u8 0, .int .u8 0, .int .u8 0, .int .u8 0, .int .u8 0, .int .u8 0, .int .u8 0, .int .u8 0, .int .u8 0, .int .u8 0, .int .u8 0, .int .u8 0, .int .u8 0, .int .u8 0, .int .u8 0, .int .u8 0, .int .u8 0, .int .u8 0, .int .u8 0, .int .u8 0, .int .u8 0, .int .u8 0, .int .u8 0, .int .u8 0, .int .u8 0, .int .u8 0, .int .u8 0, .int .u8 0, .int .u8 0, .int .u8 0, .int .u8 0, .int .u8 0, .int .u8 0, .int .u8 0, .int .u8 0, .int .u8 0, .int .u8 0, .int .u8 0, .int .u8 0, .int .u8 0, .int .u8 0, .int .u8 0, .int .u8 0]⟩,
    ⟨168, .struct #[{ name := "lo", type := 5, offset := 0, embedded := false, tag := "", pkgPath := "unicode/utf8", byteOffset := 0 }, { name := "hi", type := 5, offset := 1, embedded := false, tag := "", pkgPath := "unicode/utf8", byteOffset := 1 }], 2, 2, .agg #[.int .u8 0, .int .u8 0]⟩,
    ⟨169, .array 16 168, 32, 32, .agg #[.int .u8 0, .int .u8 0, .int .u8 0, .int .u8 0, .int .u8 0, .int .u8 0, .int .u8 0, .int .u8 0, .int .u8 0, .int .u8 0, .int .u8 0, .int .u8 0, .int .u8 0, .int .u8 0, .int .u8 0, .int .u8 0, .int .u8 0, .int .u8 0, .int .u8 0, .int .u8 0, .int .u8 0, .int .u8 0, .int .u8 0, .int .u8 0, .int .u8 0, .int .u8 0, .int .u8 0, .int .u8 0, .int .u8 0, .int .u8 0, .int .u8 0, .int .u8 0]⟩]
  fns := [3, 4, 5, 6, 7, 8, 9, 10, 11, 12, 13, 14, 15, 16, 17, 18, 19, 20, 21, 22, 23, 24, 25, 26, 27, 28, 29, 30, 31, 32, 33, 34, 35, 36, 37, 38, 39, 40, 41, 42, 43, 44, 45, 46, 47, 48, 49, 50, 51, 52, 53, 54, 55, 56, 57, 58, 59, 60, 61, 62, 63, 64, 65, 66, 67, 68, 69, 70, 71, 72, 73, 74, 75, 76, 77, 78, 79, 80, 81, 82, 83, 84, 85, 86, 87, 88, 89, 90, 91, 92, 93, 94, 95, 96, 97, 98, 99, 100, 101, 102, 103, 104, 105, 106, 107, 108, 109, 110, 111, 112, 113, 115, 116, 117, 118, 119, 120, 121, 122, 124]
  ms := []
  eqs := [⟨51, [0, 0, 0, 0]⟩, ⟨74, [0, 0, 0]⟩]

theorem gx_tys : AllTy Tryz.prog gx.tys :=
  ⟨⟨by kernel_rfl, by kernel_rfl⟩,
   ⟨by kernel_rfl, by kernel_rfl⟩,
   ⟨by kernel_rfl, by kernel_rfl⟩,
   ⟨by kernel_rfl, by kernel_rfl⟩,
   ⟨by kernel_rfl, by kernel_rfl⟩,
   ⟨by kernel_rfl, by kernel_rfl⟩,
   ⟨by kernel_rfl, by kernel_rfl⟩,
   ⟨by kernel_rfl, by kernel_rfl⟩,
   ⟨by kernel_rfl, by kernel_rfl⟩,
   ⟨by kernel_rfl, by kernel_rfl⟩,
   ⟨by kernel_rfl, by kernel_rfl⟩,
   ⟨by kernel_rfl, by kernel_rfl⟩,
   ⟨by kernel_rfl, by kernel_rfl⟩,
   ⟨by kernel_rfl, by kernel_rfl⟩,
   ⟨by kernel_rfl, by kernel_rfl⟩,
   ⟨by kernel_rfl, by kernel_rfl⟩,
   ⟨by kernel_rfl, by kernel_rfl⟩,
   ⟨by kernel_rfl, by kernel_rfl⟩,
   ⟨by kernel_rfl, by kernel_rfl⟩,
   ⟨by kernel_rfl, by kernel_rfl⟩,
   ⟨by kernel_rfl, by kernel_rfl⟩,
   ⟨by kernel_rfl, by kernel_rfl⟩,
   ⟨by kernel_rfl, by kernel_rfl⟩,
   ⟨by kernel_rfl, by kernel_rfl⟩,
   ⟨by kernel_rfl, by kernel_rfl⟩,
   ⟨by kernel_rfl, by kernel_rfl⟩,
   ⟨by kernel_rfl, by kernel_rfl⟩,
   ⟨by kernel_rfl, by kernel_rfl⟩,
   ⟨by kernel_rfl, by kernel_rfl⟩,
   ⟨by kernel_rfl, by kernel_rfl⟩,
   ⟨by kernel_rfl, by kernel_rfl⟩,
   ⟨by kernel_rfl, by kernel_rfl⟩,
   ⟨by kernel_rfl, by kernel_rfl⟩,
   ⟨by kernel_rfl, by kernel_rfl⟩,
   ⟨by kernel_rfl, by kernel_rfl⟩,
   ⟨by kernel_rfl, by kernel_rfl⟩,
   ⟨by kernel_rfl, by kernel_rfl⟩,
   ⟨by kernel_rfl, by kernel_rfl⟩,
   ⟨by kernel_rfl, by kernel_rfl⟩,
   ⟨by kernel_rfl, by kernel_rfl⟩,
   ⟨by kernel_rfl, by kernel_rfl⟩,
   ⟨by kernel_rfl, by kernel_rfl⟩,
   ⟨by kernel_rfl, by kernel_rfl⟩,
   ⟨by kernel_rfl, by kernel_rfl⟩,
   ⟨by kernel_rfl, by kernel_rfl⟩,
   ⟨by kernel_rfl, by kernel_rfl⟩,
   ⟨by kernel_rfl, by kernel_rfl⟩,
   ⟨by kernel_rfl, by kernel_rfl⟩,
   ⟨by kernel_rfl, by kernel_rfl⟩,
   ⟨by kernel_rfl, by kernel_rfl⟩,
   ⟨by kernel_rfl, by kernel_rfl⟩,
   ⟨by kernel_rfl, by kernel_rfl⟩,
   ⟨by kernel_rfl, by kernel_rfl⟩,
   ⟨by kernel_rfl, by kernel_rfl⟩,
   ⟨by kernel_rfl, by kernel_rfl⟩,
   ⟨by kernel_rfl, by kernel_rfl⟩,
   ⟨by kernel_rfl, by kernel_rfl⟩, trivial⟩

theorem gx_fns : AllFn Tryz.prog gx.fns :=
  ⟨⟨_, Tryz.func3, by kernel_rfl, by kernel_rfl⟩,
   ⟨_, Tryz.func4, by kernel_rfl, by kernel_rfl⟩,
   ⟨_, Tryz.func5, by kernel_rfl, by kernel_rfl⟩,
   ⟨_, Tryz.func6, by kernel_rfl, by kernel_rfl⟩,
   ⟨_, Tryz.func7, by kernel_rfl, by kernel_rfl⟩,
   ⟨_, Tryz.func8, by kernel_rfl, by kernel_rfl⟩,
   ⟨_, Tryz.func9, by kernel_rfl, by kernel_rfl⟩,
   ⟨_, Tryz.func10, by kernel_rfl, by kernel_rfl⟩,
   ⟨_, Tryz.func11, by kernel_rfl, by kernel_rfl⟩,
   ⟨_, Tryz.func12, by kernel_rfl, by kernel_rfl⟩,
   ⟨_, Tryz.func13, by kernel_rfl, by kernel_rfl⟩,
   ⟨_, Tryz.func14, by kernel_rfl, by kernel_rfl⟩,
   ⟨_, Tryz.func15, by kernel_rfl, by kernel_rfl⟩,
   ⟨_, Tryz.func16, by kernel_rfl, by kernel_rfl⟩,
   ⟨_, Tryz.func17, by kernel_rfl, by kernel_rfl⟩,
   ⟨_, Tryz.func18, by kernel_rfl, by kernel_rfl⟩,
   ⟨_, Tryz.func19, by kernel_rfl, by kernel_rfl⟩,
   ⟨_, Tryz.func20, by kernel_rfl, by kernel_rfl⟩,
   ⟨_, Tryz.func21, by kernel_rfl, by kernel_rfl⟩,
   ⟨_, Tryz.func22, by kernel_rfl, by kernel_rfl⟩,
   ⟨_, Tryz.func23, by kernel_rfl, by kernel_rfl⟩,
   ⟨_, Tryz.func24, by kernel_rfl, by kernel_rfl⟩,
   ⟨_, Tryz.func25, by kernel_rfl, by kernel_rfl⟩,
   ⟨_, Tryz.func26, by kernel_rfl, by kernel_rfl⟩,
   ⟨_, Tryz.func27, by kernel_rfl, by kernel_rfl⟩,
   ⟨_, Tryz.func28, by kernel_rfl, by kernel_rfl⟩,
   ⟨_, Tryz.func29, by kernel_rfl, by kernel_rfl⟩,
   ⟨_, Tryz.func30, by kernel_rfl, by kernel_rfl⟩,
   ⟨_, Tryz.func31, by kernel_rfl, by kernel_rfl⟩,
   ⟨_, Tryz.func32, by kernel_rfl, by kernel_rfl⟩,
   ⟨_, Tryz.func33, by kernel_rfl, by kernel_rfl⟩,
   ⟨_, Tryz.func34, by kernel_rfl, by kernel_rfl⟩,
   ⟨_, Tryz.func35, by kernel_rfl, by kernel_rfl⟩,
   ⟨_, Tryz.func36, by kernel_rfl, by kernel_rfl⟩,
   ⟨_, Tryz.func37, by kernel_rfl, by kernel_rfl⟩,
   ⟨_, Tryz.func38, by kernel_rfl, by kernel_rfl⟩,
   ⟨_, Tryz.func39, by kernel_rfl, by kernel_rfl⟩,
   ⟨_, Tryz.func40, by kernel_rfl, by kernel_rfl⟩,
   ⟨_, Tryz.func41, by kernel_rfl, by kernel_rfl⟩,
   ⟨_, Tryz.func42, by kernel_rfl, by kernel_rfl⟩,
   ⟨_, Tryz.func43, by kernel_rfl, by kernel_rfl⟩,
   ⟨_, Tryz.func44, by kernel_rfl, by kernel_rfl⟩,
   ⟨_, Tryz.func45, by kernel_rfl, by kernel_rfl⟩,
   ⟨_, Tryz.func46, by kernel_rfl, by kernel_rfl⟩,
   ⟨_, Tryz.func47, by kernel_rfl, by kernel_rfl⟩,
   ⟨_, Tryz.func48, by kernel_rfl, by kernel_rfl⟩,
   ⟨_, Tryz.func49, by kernel_rfl, by kernel_rfl⟩,
   ⟨_, Tryz.func50, by kernel_rfl, by kernel_rfl⟩,
   ⟨_, Tryz.func51, by kernel_rfl, by kernel_rfl⟩,
   ⟨_, Tryz.func52, by kernel_rfl, by kernel_rfl⟩,
   ⟨_, Tryz.func53, by kernel_rfl, by kernel_rfl⟩,
   ⟨_, Tryz.func54, by kernel_rfl, by kernel_rfl⟩,
   ⟨_, Tryz.func55, by kernel_rfl, by kernel_rfl⟩,
   ⟨_, Tryz.func56, by kernel_rfl, by kernel_rfl⟩,
   ⟨_, Tryz.func57, by kernel_rfl, by kernel_rfl⟩,
   ⟨_, Tryz.func58, by kernel_rfl, by kernel_rfl⟩,
   ⟨_, Tryz.func59, by kernel_rfl, by kernel_rfl⟩,
   ⟨_, Tryz.func60, by kernel_rfl, by kernel_rfl⟩,
   ⟨_, Tryz.func61, by kernel_rfl, by kernel_rfl⟩,
   ⟨_, Tryz.func62, by kernel_rfl, by kernel_rfl⟩,
   ⟨_, Tryz.func63, by kernel_rfl, by kernel_rfl⟩,
   ⟨_, Tryz.func64, by kernel_rfl, by kernel_rfl⟩,
   ⟨_, Tryz.func65, by kernel_rfl, by kernel_rfl⟩,
   ⟨_, Tryz.func66, by kernel_rfl, by kernel_rfl⟩,
   ⟨_, Tryz.func67, by kernel_rfl, by kernel_rfl⟩,
   ⟨_, Tryz.func68, by kernel_rfl, by kernel_rfl⟩,
   ⟨_, Tryz.func69, by kernel_rfl, by kernel_rfl⟩,
   ⟨_, Tryz.func70, by kernel_rfl, by kernel_rfl⟩,
   ⟨_, Tryz.func71, by kernel_rfl, by kernel_rfl⟩,
   ⟨_, Tryz.func72, by kernel_rfl, by kernel_rfl⟩,
   ⟨_, Tryz.func73, by kernel_rfl, by kernel_rfl⟩,
   ⟨_, Tryz.func74, by kernel_rfl, by kernel_rfl⟩,
   ⟨_, Tryz.func75, by kernel_rfl, by kernel_rfl⟩,
   ⟨_, Tryz.func76, by kernel_rfl, by kernel_rfl⟩,
   ⟨_, Tryz.func77, by kernel_rfl, by kernel_rfl⟩,
   ⟨_, Tryz.func78, by kernel_rfl, by kernel_rfl⟩,
   ⟨_, Tryz.func79, by kernel_rfl, by kernel_rfl⟩,
   ⟨_, Tryz.func80, by kernel_rfl, by kernel_rfl⟩,
   ⟨_, Tryz.func81, by kernel_rfl, by kernel_rfl⟩,
   ⟨_, Tryz.func82, by kernel_rfl, by kernel_rfl⟩,
   ⟨_, Tryz.func83, by kernel_rfl, by kernel_rfl⟩,
   ⟨_, Tryz.func84, by kernel_rfl, by kernel_rfl⟩,
   ⟨_, Tryz.func85, by kernel_rfl, by kernel_rfl⟩,
   ⟨_, Tryz.func86, by kernel_rfl, by kernel_rfl⟩,
   ⟨_, Tryz.func87, by kernel_rfl, by kernel_rfl⟩,
   ⟨_, Tryz.func88, by kernel_rfl, by kernel_rfl⟩,
   ⟨_, Tryz.func89, by kernel_rfl, by kernel_rfl⟩,
   ⟨_, Tryz.func90, by kernel_rfl, by kernel_rfl⟩,
   ⟨_, Tryz.func91, by kernel_rfl, by kernel_rfl⟩,
   ⟨_, Tryz.func92, by kernel_rfl, by kernel_rfl⟩,
   ⟨_, Tryz.func93, by kernel_rfl, by kernel_rfl⟩,
   ⟨_, Tryz.func94, by kernel_rfl, by kernel_rfl⟩,
   ⟨_, Tryz.func95, by kernel_rfl, by kernel_rfl⟩,
   ⟨_, Tryz.func96, by kernel_rfl, by kernel_rfl⟩,
   ⟨_, Tryz.func97, by kernel_rfl, by kernel_rfl⟩,
   ⟨_, Tryz.func98, by kernel_rfl, by kernel_rfl⟩,
   ⟨_, Tryz.func99, by kernel_rfl, by kernel_rfl⟩,
   ⟨_, Tryz.func100, by kernel_rfl, by kernel_rfl⟩,
   ⟨_, Tryz.func101, by kernel_rfl, by kernel_rfl⟩,
   ⟨_, Tryz.func102, by kernel_rfl, by kernel_rfl⟩,
   ⟨_, Tryz.func103, by kernel_rfl, by kernel_rfl⟩,
   ⟨_, Tryz.func104, by kernel_rfl, by kernel_rfl⟩,
   ⟨_, Tryz.func105, by kernel_rfl, by kernel_rfl⟩,
   ⟨_, Tryz.func106, by kernel_rfl, by kernel_rfl⟩,
   ⟨_, Tryz.func107, by kernel_rfl, by kernel_rfl⟩,
   ⟨_, Tryz.func108, by kernel_rfl, by kernel_rfl⟩,
   ⟨_, Tryz.func109, by kernel_rfl, by kernel_rfl⟩,
   ⟨_, Tryz.func110, by kernel_rfl, by kernel_rfl⟩,
   ⟨_, Tryz.func111, by kernel_rfl, by kernel_rfl⟩,
   ⟨_, Tryz.func112, by kernel_rfl, by kernel_rfl⟩,
   ⟨_, Tryz.func113, by kernel_rfl, by kernel_rfl⟩,
   ⟨_, Tryz.func115, by kernel_rfl, by kernel_rfl⟩,
   ⟨_, Tryz.func116, by kernel_rfl, by kernel_rfl⟩,
   ⟨_, Tryz.func117, by kernel_rfl, by kernel_rfl⟩,
   ⟨_, Tryz.func118, by kernel_rfl, by kernel_rfl⟩,
   ⟨_, Tryz.func119, by kernel_rfl, by kernel_rfl⟩,
   ⟨_, Tryz.func120, by kernel_rfl, by kernel_rfl⟩,
   ⟨_, Tryz.func121, by kernel_rfl, by kernel_rfl⟩,
   ⟨_, Tryz.func122, by kernel_rfl, by kernel_rfl⟩,
   ⟨_, Tryz.func124, by kernel_rfl, by kernel_rfl⟩, trivial⟩

theorem gx_ms : AllM Tryz.prog gx.ms :=
  trivial

theorem gx_eqs : AllE Tryz.prog gx.eqs :=
  ⟨⟨by kernel_rfl, by kernel_rfl, by kernel_rfl⟩,
   ⟨by kernel_rfl, by kernel_rfl, by kernel_rfl⟩, trivial⟩

theorem gx_ok : gx.Ok := ⟨gx_tys, gx_fns, by kernel_rfl, gx_ms, gx_eqs⟩

/-- koinelaw03.FormulaSetsMatchReference -/
noncomputable abbrev c3 : Cx := { g := gx, N := 118, named := 1, keep := [1, 2, 3, 4, 5, 6, 7, 8, 9, 10, 11, 12, 13, 14, 15, 16, 17, 19, 21] }
/-- koinelaw03.FormulaCanonical -/
noncomputable abbrev c4 : Cx := { g := gx, N := 126, named := 1, keep := [1, 2, 3, 4, 5, 6, 7, 8, 9, 10, 11, 12, 13, 14, 15, 16, 17, 18, 19, 96, 98] }
/-- koinelaw03.sanity -/
noncomputable abbrev c5 : Cx := { g := gx, N := 131, named := 14, keep := [14, 16, 18, 20, 21, 22] }
/-- koineref03.Made -/
noncomputable abbrev c6 : Cx := { g := gx, N := 164, named := 13, keep := [20, 44, 64, 86, 110, 132, 137] }
/-- formula.Diagram -/
noncomputable abbrev c7 : Cx := { g := gx, N := 108, named := 2, keep := [2, 3, 4, 5, 6, 7, 10, 15, 16, 17, 18, 23, 24, 34, 45, 59, 78, 98] }
/-- koineref03.Diagram -/
noncomputable abbrev c8 : Cx := { g := gx, N := 94, named := 2, keep := [2, 3, 4, 5, 6, 7, 8, 11, 16, 28, 29, 37, 48, 64, 81] }
/-- koineref02.Made -/
noncomputable abbrev c9 : Cx := { g := gx, N := 11, named := 4, keep := [4] }
/-- formula.Of -/
noncomputable abbrev c10 : Cx := { g := gx, N := 28, named := 1, keep := [1, 2, 3, 4, 5, 9, 23] }
/-- koineref03.Of -/
noncomputable abbrev c11 : Cx := { g := gx, N := 29, named := 1, keep := [1, 2, 3, 4, 5, 9, 17] }
/-- formula.Text -/
noncomputable abbrev c12 : Cx := { g := gx, N := 30, named := 3, keep := [3, 4, 5, 7, 8, 9, 16, 23] }
/-- koineref03.Letters -/
noncomputable abbrev c13 : Cx := { g := gx, N := 6, named := 3, keep := [] }
/-- koineref03.Text -/
noncomputable abbrev c14 : Cx := { g := gx, N := 24, named := 3, keep := [3, 4, 5, 6, 7, 10, 17] }
/-- koineref02.Same -/
noncomputable abbrev c15 : Cx := { g := gx, N := 38, named := 2, keep := [2, 3, 4, 5, 19, 24, 37] }
/-- koineref03.Same -/
noncomputable abbrev c16 : Cx := { g := gx, N := 26, named := 6, keep := [10, 14, 25] }
/-- diagram.Holds -/
noncomputable abbrev c17 : Cx := { g := gx, N := 32, named := 2, keep := [2, 4, 5, 6, 9, 13, 25] }
/-- diagram.Same -/
noncomputable abbrev c18 : Cx := { g := gx, N := 17, named := 2, keep := [2, 3, 4] }
/-- formula.Parse -/
noncomputable abbrev c19 : Cx := { g := gx, N := 50, named := 4, keep := [4, 5, 6, 7, 8, 15, 25, 32, 38] }
/-- formula.Print -/
noncomputable abbrev c20 : Cx := { g := gx, N := 45, named := 9, keep := [9, 10, 17, 20, 21, 22, 23, 24, 36] }
/-- koineref02.Var -/
noncomputable abbrev c21 : Cx := { g := gx, N := 15, named := 2, keep := [2, 3, 9] }
/-- koineref02.Xor -/
noncomputable abbrev c22 : Cx := { g := gx, N := 11, named := 2, keep := [2, 3, 4, 5] }
/-- formula.Check -/
noncomputable abbrev c23 : Cx := { g := gx, N := 63, named := 3, keep := [3, 4, 5, 6, 8, 9, 17, 18, 19, 20, 21, 29, 36, 37, 38, 39, 44, 54, 55, 56, 61] }
/-- diagram.Constant -/
noncomputable abbrev c24 : Cx := { g := gx, N := 6, named := 2, keep := [2, 3] }
/-- diagram.Var -/
noncomputable abbrev c25 : Cx := { g := gx, N := 15, named := 2, keep := [2, 3, 9] }
/-- diagram.Not -/
noncomputable abbrev c26 : Cx := { g := gx, N := 9, named := 1, keep := [1, 2, 3] }
/-- diagram.And -/
noncomputable abbrev c27 : Cx := { g := gx, N := 11, named := 2, keep := [2, 3, 4, 5] }
/-- diagram.Or -/
noncomputable abbrev c28 : Cx := { g := gx, N := 11, named := 2, keep := [2, 3, 4, 5] }
/-- koineref03.Check -/
noncomputable abbrev c29 : Cx := { g := gx, N := 79, named := 7, keep := [14, 21, 30, 38, 50, 64, 78] }
/-- koineref02.Constant -/
noncomputable abbrev c30 : Cx := { g := gx, N := 6, named := 2, keep := [2, 3] }
/-- koineref02.Not -/
noncomputable abbrev c31 : Cx := { g := gx, N := 16, named := 1, keep := [1, 2, 3, 4, 8] }
/-- koineref02.And -/
noncomputable abbrev c32 : Cx := { g := gx, N := 11, named := 2, keep := [2, 3, 4, 5] }
/-- koineref02.Or -/
noncomputable abbrev c33 : Cx := { g := gx, N := 11, named := 2, keep := [2, 3, 4, 5] }
/-- koineref02.table -/
noncomputable abbrev c34 : Cx := { g := gx, N := 59, named := 8, keep := [8, 9, 13] }
/-- diagram.Check -/
noncomputable abbrev c35 : Cx := { g := gx, N := 106, named := 1, keep := [1, 2, 3, 4, 5, 6, 10, 13, 14, 15, 16, 63, 79, 94, 105] }
/-- (*formula.canonical).build -/
noncomputable abbrev c36 : Cx := { g := gx, N := 89, named := 5, keep := [5, 6, 7, 17, 32, 42, 52, 62] }
/-- koineref02.Check -/
noncomputable abbrev c37 : Cx := { g := gx, N := 10, named := 1, keep := [1, 2, 6, 9] }
/-- koineref03.sizes -/
noncomputable abbrev c38 : Cx := { g := gx, N := 90, named := 1, keep := [1, 2, 3, 4, 5, 6, 7, 13, 38, 45, 52, 60, 68, 76] }
/-- (*koineref03.writer).number -/
noncomputable abbrev c39 : Cx := { g := gx, N := 99, named := 5, keep := [5, 6, 7, 9, 26, 42, 52, 62, 72] }
/-- formula.numbers -/
noncomputable abbrev c40 : Cx := { g := gx, N := 47, named := 7, keep := [8, 9, 10, 11, 31] }
/-- koineref03.Names -/
noncomputable abbrev c41 : Cx := { g := gx, N := 44, named := 4, keep := [7, 40] }
/-- koineref03.Print -/
noncomputable abbrev c42 : Cx := { g := gx, N := 41, named := 7, keep := [9, 12, 16, 34] }
/-- slices.Equal[[]api.Branch,api.Branch] -/
noncomputable abbrev c43 : Cx := { g := gx, N := 26, named := 6, keep := [10, 12, 13, 14, 24] }
/-- formula.Parse$1 -/
noncomputable abbrev c44 : Cx := { g := gx, N := 17, named := 5, keep := [7, 14] }
/-- (*formula.reader).whole -/
noncomputable abbrev c45 : Cx := { g := gx, N := 6, named := 1, keep := [1, 2] }
/-- (*formula.reader).skip -/
noncomputable abbrev c46 : Cx := { g := gx, N := 29, named := 7, keep := [] }
/-- formula.write -/
noncomputable abbrev c47 : Cx := { g := gx, N := 75, named := 10, keep := [10, 11, 21, 26, 48, 52, 56, 65] }
/-- (*strings.Builder).String -/
noncomputable abbrev c48 : Cx := { g := gx, N := 14, named := 3, keep := [] }
/-- koineref02.operation -/
noncomputable abbrev c49 : Cx := { g := gx, N := 24, named := 3, keep := [3, 4, 6, 7, 8, 14] }
/-- formula.arity -/
noncomputable abbrev c50 : Cx := { g := gx, N := 69, named := 2, keep := [2, 4, 5, 6, 11, 12, 15, 27, 28, 33, 67] }
/-- diagram.binary -/
noncomputable abbrev c51 : Cx := { g := gx, N := 26, named := 3, keep := [3, 4, 5, 6, 7, 8, 14] }
/-- diagram.Not$1 -/
noncomputable abbrev c52 : Cx := { g := gx, N := 7, named := 5, keep := [] }
/-- diagram.And$1 -/
noncomputable abbrev c53 : Cx := { g := gx, N := 9, named := 5, keep := [] }
/-- diagram.Or$1 -/
noncomputable abbrev c54 : Cx := { g := gx, N := 9, named := 5, keep := [] }
/-- koineref03.node -/
noncomputable abbrev c55 : Cx := { g := gx, N := 75, named := 2, keep := [2, 4, 5, 30, 46, 74] }
/-- koineref03.operands -/
noncomputable abbrev c56 : Cx := { g := gx, N := 13, named := 3, keep := [3, 4, 8, 10] }
/-- koineref02.limited -/
noncomputable abbrev c57 : Cx := { g := gx, N := 10, named := 1, keep := [1, 2, 3, 7] }
/-- koineref02.Complement -/
noncomputable abbrev c58 : Cx := { g := gx, N := 6, named := 1, keep := [1, 2] }
/-- koineref02.Union -/
noncomputable abbrev c59 : Cx := { g := gx, N := 8, named := 2, keep := [2, 3, 4] }
/-- koineref02.Intersection -/
noncomputable abbrev c60 : Cx := { g := gx, N := 8, named := 2, keep := [2, 3, 4] }
/-- koineref02.Minus -/
noncomputable abbrev c61 : Cx := { g := gx, N := 9, named := 2, keep := [2, 3, 4] }
/-- diagram.level -/
noncomputable abbrev c62 : Cx := { g := gx, N := 14, named := 2, keep := [2, 4, 6] }
/-- (*diagram.builder).diagram -/
noncomputable abbrev c63 : Cx := { g := gx, N := 17, named := 2, keep := [2, 4, 5, 6, 7] }
/-- (*formula.canonical).put -/
noncomputable abbrev c64 : Cx := { g := gx, N := 27, named := 3, keep := [3, 4, 10] }
/-- (*formula.canonical).side -/
noncomputable abbrev c65 : Cx := { g := gx, N := 39, named := 13, keep := [18, 28] }
/-- koineref02.Valid -/
noncomputable abbrev c66 : Cx := { g := gx, N := 34, named := 1, keep := [1, 2, 3, 15, 20, 26] }
/-- (*koineref03.writer).put -/
noncomputable abbrev c67 : Cx := { g := gx, N := 21, named := 3, keep := [3, 4] }
/-- (*koineref03.writer).variable -/
noncomputable abbrev c68 : Cx := { g := gx, N := 18, named := 8, keep := [12] }
/-- (*koineref03.writer).joined -/
noncomputable abbrev c69 : Cx := { g := gx, N := 26, named := 13, keep := [] }
/-- formula.identifier -/
noncomputable abbrev c70 : Cx := { g := gx, N := 23, named := 4, keep := [7, 21] }
/-- koineref03.Identifier -/
noncomputable abbrev c71 : Cx := { g := gx, N := 34, named := 4, keep := [7, 30] }
/-- koineref03.index -/
noncomputable abbrev c72 : Cx := { g := gx, N := 19, named := 6, keep := [9, 17] }
/-- koineref03.show -/
noncomputable abbrev c73 : Cx := { g := gx, N := 91, named := 7, keep := [7, 13, 14, 16, 18, 25, 41] }
/-- (*formula.reader).expression -/
noncomputable abbrev c74 : Cx := { g := gx, N := 25, named := 11, keep := [15] }
/-- (*formula.reader).whole$1 -/
noncomputable abbrev c75 : Cx := { g := gx, N := 6, named := 2, keep := [] }
/-- (*formula.reader).factor -/
noncomputable abbrev c76 : Cx := { g := gx, N := 84, named := 9, keep := [10, 18, 23, 32, 49, 50, 55] }
/-- strings.TrimLeft -/
noncomputable abbrev c77 : Cx := { g := gx, N := 37, named := 5, keep := [5, 6, 12, 21, 31] }
/-- strings.CutPrefix -/
noncomputable abbrev c78 : Cx := { g := gx, N := 11, named := 6, keep := [] }
/-- formula.strength -/
noncomputable abbrev c79 : Cx := { g := gx, N := 8, named := 3, keep := [3, 4, 6] }
/-- (*strings.Builder).WriteByte -/
noncomputable abbrev c80 : Cx := { g := gx, N := 17, named := 5, keep := [] }
/-- (*strings.Builder).WriteString -/
noncomputable abbrev c81 : Cx := { g := gx, N := 19, named := 6, keep := [] }
/-- koineref02.first -/
noncomputable abbrev c82 : Cx := { g := gx, N := 19, named := 5, keep := [8, 17] }
/-- koineref02.combine -/
noncomputable abbrev c83 : Cx := { g := gx, N := 26, named := 3, keep := [3, 4, 6, 7, 8] }
/-- diagram.check -/
noncomputable abbrev c84 : Cx := { g := gx, N := 18, named := 4, keep := [4, 5, 6, 7, 8, 9, 15] }
/-- diagram.limited -/
noncomputable abbrev c85 : Cx := { g := gx, N := 10, named := 1, keep := [1, 2, 3, 7] }
/-- diagram.combine -/
noncomputable abbrev c86 : Cx := { g := gx, N := 25, named := 2, keep := [2, 3, 4, 5, 6, 7] }
/-- diagram.binary$1 -/
noncomputable abbrev c87 : Cx := { g := gx, N := 12, named := 8, keep := [] }
/-- (*diagram.builder).diagram$1 -/
noncomputable abbrev c88 : Cx := { g := gx, N := 55, named := 9, keep := [9, 10, 11, 18] }
/-- koineref02.branch -/
noncomputable abbrev c89 : Cx := { g := gx, N := 79, named := 2, keep := [2, 4, 5, 6, 50, 66, 69, 78] }
/-- koineref02.numbered -/
noncomputable abbrev c90 : Cx := { g := gx, N := 22, named := 4, keep := [4, 5, 6] }
/-- strings.IndexFunc -/
noncomputable abbrev c91 : Cx := { g := gx, N := 8, named := 5, keep := [] }
/-- formula.identifier$1 -/
noncomputable abbrev c92 : Cx := { g := gx, N := 29, named := 3, keep := [] }
/-- koineref03.letter -/
noncomputable abbrev c93 : Cx := { g := gx, N := 21, named := 3, keep := [] }
/-- koineref03.around -/
noncomputable abbrev c94 : Cx := { g := gx, N := 24, named := 8, keep := [11, 19] }
/-- (*formula.reader).put -/
noncomputable abbrev c95 : Cx := { g := gx, N := 21, named := 3, keep := [3, 4] }
/-- strings.trimLeftByte -/
noncomputable abbrev c96 : Cx := { g := gx, N := 17, named := 5, keep := [13] }
/-- strings.makeASCIISet -/
noncomputable abbrev c97 : Cx := { g := gx, N := 21, named := 2, keep := [2, 3, 4, 5, 9, 16] }
/-- strings.trimLeftASCII -/
noncomputable abbrev c98 : Cx := { g := gx, N := 16, named := 5, keep := [7, 12] }
/-- strings.trimLeftUnicode -/
noncomputable abbrev c99 : Cx := { g := gx, N := 23, named := 7, keep := [9, 18] }
/-- internal/stringslite.CutPrefix -/
noncomputable abbrev c100 : Cx := { g := gx, N := 15, named := 6, keep := [9] }
/-- (*strings.Builder).copyCheck -/
noncomputable abbrev c101 : Cx := { g := gx, N := 20, named := 2, keep := [6, 19] }
/-- (*koineref02.apply).at -/
noncomputable abbrev c102 : Cx := { g := gx, N := 137, named := 17, keep := [22, 33, 57] }
/-- diagram.newBuilder -/
noncomputable abbrev c103 : Cx := { g := gx, N := 4, named := 1, keep := [] }
/-- diagram.combine$1 -/
noncomputable abbrev c104 : Cx := { g := gx, N := 97, named := 6, keep := [6, 7, 8, 9, 10, 11, 12, 13, 14, 15, 28, 39, 46, 64, 65] }
/-- diagram.sides -/
noncomputable abbrev c105 : Cx := { g := gx, N := 29, named := 3, keep := [3, 6, 7, 12] }
/-- (*diagram.builder).branch -/
noncomputable abbrev c106 : Cx := { g := gx, N := 54, named := 9, keep := [9, 10, 11, 14, 30] }
/-- koineref02.level -/
noncomputable abbrev c107 : Cx := { g := gx, N := 14, named := 2, keep := [2, 4, 6] }
/-- (*koineref02.walk).visit -/
noncomputable abbrev c108 : Cx := { g := gx, N := 77, named := 5, keep := [5, 6, 7, 9, 19] }
/-- strings.indexFunc -/
noncomputable abbrev c109 : Cx := { g := gx, N := 21, named := 9, keep := [10, 11, 12, 19] }
/-- (*strings.asciiSet).contains -/
noncomputable abbrev c110 : Cx := { g := gx, N := 10, named := 5, keep := [] }
/-- unicode/utf8.DecodeRuneInString -/
noncomputable abbrev c111 : Cx := { g := gx, N := 19, named := 4, keep := [10] }
/-- strings.ContainsRune -/
noncomputable abbrev c112 : Cx := { g := gx, N := 9, named := 5, keep := [] }
/-- internal/stringslite.HasPrefix -/
noncomputable abbrev c113 : Cx := { g := gx, N := 18, named := 5, keep := [] }
/-- (*koineref02.apply).constant -/
noncomputable abbrev c115 : Cx := { g := gx, N := 25, named := 7, keep := [10, 11, 16] }
/-- koineref02.sides -/
noncomputable abbrev c116 : Cx := { g := gx, N := 29, named := 3, keep := [3, 6, 7, 12] }
/-- koineref02.unique -/
noncomputable abbrev c117 : Cx := { g := gx, N := 38, named := 3, keep := [3, 4, 5, 6, 11, 18, 26] }
/-- unicode/utf8.decodeRuneInStringSlow -/
noncomputable abbrev c118 : Cx := { g := gx, N := 117, named := 9, keep := [9, 10, 11, 12, 16, 23, 45, 57, 59, 75, 77, 98] }
/-- strings.IndexRune -/
noncomputable abbrev c119 : Cx := { g := gx, N := 187, named := 17, keep := [26, 33, 43, 51, 64, 98, 108, 124, 139, 143, 160, 171, 175, 176, 177, 181, 183] }
/-- strings.IndexByte -/
noncomputable abbrev c120 : Cx := { g := gx, N := 8, named := 5, keep := [] }
/-- unicode/utf8.ValidRune -/
noncomputable abbrev c121 : Cx := { g := gx, N := 17, named := 4, keep := [10] }
/-- internal/bytealg.Cutover -/
noncomputable abbrev c122 : Cx := { g := gx, N := 6, named := 3, keep := [] }
/-- internal/stringslite.IndexByte -/
noncomputable abbrev c124 : Cx := { g := gx, N := 8, named := 5, keep := [] }

end Go.Proofs.YtdbhjlpkopnebaaGreatDoor
