/-
  The facts of this translation that the engine asks: its types, its functions, and for each function how many slots it has. Printed by a program (wip/gen.py).
  Conditions: none.
-/
import Derived.Test.YtedopgkbajhanaaGreatDoorProg
import Derived.Test.YtedopgkbajhanaaGreatDoorMem2
namespace Go.Proofs.YtedopgkbajhanaaGreatDoor
open Go Go.RowKit

noncomputable def gx : Gx where
  P := Tryz.prog
  tys := [
    ⟨1, .func #[] #[] false, 1, 8, .nilFunc⟩,
    ⟨3, .int .i64, 1, 8, .int .i64 0⟩,
    ⟨4, .bool, 1, 1, .bool false⟩,
    ⟨5, .int .u8, 1, 1, .int .u8 0⟩,
    ⟨9, .string, 1, 16, .string ByteArray.empty⟩,
    ⟨20, .interface #[], 1, 16, .nilIface⟩,
    ⟨21, .int .i32, 1, 4, .int .i32 0⟩,
    ⟨22, .slice 38, 1, 24, .slice none 0 0⟩,
    ⟨24, .slice 9, 1, 24, .slice none 0 0⟩,
    ⟨27, .slice 45, 1, 24, .slice none 0 0⟩,
    ⟨29, .struct #[{ name := "Text", type := 9, offset := 0, embedded := false, tag := "", pkgPath := "", byteOffset := 0 }, { name := "Segments", type := 27, offset := 1, embedded := false, tag := "", pkgPath := "", byteOffset := 16 }], 2, 40, .agg #[.string ByteArray.empty, .slice none 0 0]⟩,
    ⟨30, .int .i64, 1, 8, .int .i64 0⟩,
    ⟨32, .struct #[{ name := "E", type := 30, offset := 0, embedded := false, tag := "", pkgPath := "", byteOffset := 0 }, { name := "File", type := 3, offset := 1, embedded := false, tag := "", pkgPath := "", byteOffset := 8 }, { name := "Line", type := 3, offset := 2, embedded := false, tag := "", pkgPath := "", byteOffset := 16 }], 3, 24, .agg #[.int .i64 0, .int .i64 0, .int .i64 0]⟩,
    ⟨38, .struct #[{ name := "Name", type := 9, offset := 0, embedded := false, tag := "", pkgPath := "", byteOffset := 0 }, { name := "Text", type := 9, offset := 1, embedded := false, tag := "", pkgPath := "", byteOffset := 16 }], 2, 32, .agg #[.string ByteArray.empty, .string ByteArray.empty]⟩,
    ⟨40, .slice 116, 1, 24, .slice none 0 0⟩,
    ⟨42, .struct #[{ name := "Nodes", type := 40, offset := 0, embedded := false, tag := "", pkgPath := "", byteOffset := 0 }, { name := "Root", type := 3, offset := 1, embedded := false, tag := "", pkgPath := "", byteOffset := 24 }], 2, 32, .agg #[.slice none 0 0, .int .i64 0]⟩,
    ⟨43, .array 2 3, 2, 16, .agg #[.int .i64 0, .int .i64 0]⟩,
    ⟨45, .struct #[{ name := "From", type := 3, offset := 0, embedded := false, tag := "", pkgPath := "", byteOffset := 0 }, { name := "To", type := 3, offset := 1, embedded := false, tag := "", pkgPath := "", byteOffset := 8 }, { name := "File", type := 3, offset := 2, embedded := false, tag := "", pkgPath := "", byteOffset := 16 }, { name := "At", type := 3, offset := 3, embedded := false, tag := "", pkgPath := "", byteOffset := 24 }, { name := "If", type := 42, offset := 4, embedded := false, tag := "", pkgPath := "", byteOffset := 32 }], 6, 64, .agg #[.int .i64 0, .int .i64 0, .int .i64 0, .int .i64 0, .slice none 0 0, .int .i64 0]⟩,
    ⟨46, .int .u64, 1, 8, .int .u64 0⟩,
    ⟨47, .int .u64, 1, 8, .int .u64 0⟩,
    ⟨52, .slice 3, 1, 24, .slice none 0 0⟩,
    ⟨58, .slice 166, 1, 24, .slice none 0 0⟩,
    ⟨62, .array 4 5, 4, 4, .agg #[.int .u8 0, .int .u8 0, .int .u8 0, .int .u8 0]⟩,
    ⟨74, .slice 5, 1, 24, .slice none 0 0⟩,
    ⟨77, .slice 205, 1, 24, .slice none 0 0⟩,
    ⟨81, .pointer 88, 1, 8, .pointer none⟩,
    ⟨82, .map 9 3, 1, 8, .map none⟩,
    ⟨83, .map 3 4, 1, 8, .map none⟩,
    ⟨84, .pointer 86, 1, 8, .pointer none⟩,
    ⟨86, .struct #[{ name := "addr", type := 84, offset := 0, embedded := false, tag := "", pkgPath := "strings", byteOffset := 0 }, { name := "buf", type := 74, offset := 1, embedded := false, tag := "", pkgPath := "strings", byteOffset := 8 }], 2, 32, .agg #[.pointer none, .slice none 0 0]⟩,
    ⟨88, .struct #[{ name := "names", type := 24, offset := 0, embedded := false, tag := "", pkgPath := "koine/source", byteOffset := 0 }, { name := "files", type := 22, offset := 1, embedded := false, tag := "", pkgPath := "koine/source", byteOffset := 24 }, { name := "numbers", type := 82, offset := 2, embedded := false, tag := "", pkgPath := "koine/source", byteOffset := 48 }, { name := "reading", type := 83, offset := 3, embedded := false, tag := "", pkgPath := "koine/source", byteOffset := 56 }, { name := "depth", type := 3, offset := 4, embedded := false, tag := "", pkgPath := "koine/source", byteOffset := 64 }, { name := "text", type := 86, offset := 5, embedded := false, tag := "", pkgPath := "koine/source", byteOffset := 72 }, { name := "out", type := 27, offset := 7, embedded := false, tag := "", pkgPath := "koine/source", byteOffset := 104 }, { name := "fresh", type := 4, offset := 8, embedded := false, tag := "", pkgPath := "koine/source", byteOffset := 128 }, { name := "file", type := 3, offset := 9, embedded := false, tag := "", pkgPath := "koine/source", byteOffset := 136 }, { name := "line", type := 3, offset := 10, embedded := false, tag := "", pkgPath := "koine/source", byteOffset := 144 }], 11, 152, .agg #[.slice none 0 0, .slice none 0 0, .map none, .map none, .int .i64 0, .pointer none, .slice none 0 0, .slice none 0 0, .bool false, .int .i64 0, .int .i64 0]⟩,
    ⟨90, .struct #[{ name := "place", type := 32, offset := 0, embedded := false, tag := "", pkgPath := "koine/source", byteOffset := 0 }], 3, 24, .agg #[.int .i64 0, .int .i64 0, .int .i64 0]⟩,
    ⟨95, .pointer 97, 1, 8, .pointer none⟩,
    ⟨97, .struct #[{ name := "names", type := 24, offset := 0, embedded := false, tag := "", pkgPath := "koine/koineref07", byteOffset := 0 }, { name := "files", type := 22, offset := 1, embedded := false, tag := "", pkgPath := "koine/koineref07", byteOffset := 24 }, { name := "depth", type := 3, offset := 2, embedded := false, tag := "", pkgPath := "koine/koineref07", byteOffset := 48 }, { name := "reading", type := 52, offset := 3, embedded := false, tag := "", pkgPath := "koine/koineref07", byteOffset := 56 }, { name := "out", type := 29, offset := 4, embedded := false, tag := "", pkgPath := "koine/koineref07", byteOffset := 80 }, { name := "fresh", type := 4, offset := 6, embedded := false, tag := "", pkgPath := "koine/koineref07", byteOffset := 120 }, { name := "bad", type := 32, offset := 7, embedded := false, tag := "", pkgPath := "koine/koineref07", byteOffset := 128 }], 10, 152, .agg #[.slice none 0 0, .slice none 0 0, .int .i64 0, .slice none 0 0, .string ByteArray.empty, .slice none 0 0, .bool false, .int .i64 0, .int .i64 0, .int .i64 0]⟩,
    ⟨103, .interface #[("Error", 93)], 1, 16, .nilIface⟩,
    ⟨113, .func #[4, 4] #[4] false, 1, 8, .nilFunc⟩,
    ⟨116, .struct #[{ name := "Var", type := 3, offset := 0, embedded := false, tag := "", pkgPath := "", byteOffset := 0 }, { name := "Low", type := 3, offset := 1, embedded := false, tag := "", pkgPath := "", byteOffset := 8 }, { name := "High", type := 3, offset := 2, embedded := false, tag := "", pkgPath := "", byteOffset := 16 }], 3, 24, .agg #[.int .i64 0, .int .i64 0, .int .i64 0]⟩,
    ⟨121, .pointer 123, 1, 8, .pointer none⟩,
    ⟨123, .struct #[{ name := "names", type := 82, offset := 0, embedded := false, tag := "", pkgPath := "koine/formula", byteOffset := 0 }, { name := "rest", type := 9, offset := 1, embedded := false, tag := "", pkgPath := "koine/formula", byteOffset := 8 }, { name := "f", type := 77, offset := 2, embedded := false, tag := "", pkgPath := "koine/formula", byteOffset := 24 }, { name := "unknown", type := 4, offset := 3, embedded := false, tag := "", pkgPath := "koine/formula", byteOffset := 48 }], 4, 56, .agg #[.map none, .string ByteArray.empty, .slice none 0 0, .bool false]⟩,
    ⟨124, .func #[] #[3] false, 1, 8, .nilFunc⟩,
    ⟨126, .map 9 4, 1, 8, .map none⟩,
    ⟨127, .slice 135, 1, 24, .slice none 0 0⟩,
    ⟨135, .struct #[{ name := "outer", type := 42, offset := 0, embedded := false, tag := "", pkgPath := "koine/source", byteOffset := 0 }, { name := "rest", type := 42, offset := 2, embedded := false, tag := "", pkgPath := "koine/source", byteOffset := 32 }, { name := "other", type := 4, offset := 4, embedded := false, tag := "", pkgPath := "koine/source", byteOffset := 64 }, { name := "line", type := 3, offset := 5, embedded := false, tag := "", pkgPath := "koine/source", byteOffset := 72 }], 6, 80, .agg #[.slice none 0 0, .int .i64 0, .slice none 0 0, .int .i64 0, .bool false, .int .i64 0]⟩,
    ⟨137, .pointer 135, 1, 8, .pointer none⟩,
    ⟨140, .pointer 5, 1, 8, .pointer none⟩,
    ⟨142, .slice 148, 1, 24, .slice none 0 0⟩,
    ⟨148, .struct #[{ name := "outer", type := 42, offset := 0, embedded := false, tag := "", pkgPath := "koine/koineref07", byteOffset := 0 }, { name := "rest", type := 42, offset := 2, embedded := false, tag := "", pkgPath := "koine/koineref07", byteOffset := 32 }, { name := "other", type := 4, offset := 4, embedded := false, tag := "", pkgPath := "koine/koineref07", byteOffset := 64 }, { name := "line", type := 3, offset := 5, embedded := false, tag := "", pkgPath := "koine/koineref07", byteOffset := 72 }], 6, 80, .agg #[.slice none 0 0, .int .i64 0, .slice none 0 0, .int .i64 0, .bool false, .int .i64 0]⟩,
    ⟨153, .int .u64, 1, 8, .int .u64 0⟩,
    ⟨154, .map 116 4, 1, 8, .map none⟩,
    ⟨156, .pointer 159, 1, 8, .pointer none⟩,
    ⟨157, .map 116 3, 1, 8, .map none⟩,
    ⟨159, .struct #[{ name := "nodes", type := 40, offset := 0, embedded := false, tag := "", pkgPath := "koine/diagram", byteOffset := 0 }, { name := "known", type := 157, offset := 1, embedded := false, tag := "", pkgPath := "koine/diagram", byteOffset := 24 }], 2, 32, .agg #[.slice none 0 0, .map none]⟩,
    ⟨163, .slice 42, 1, 24, .slice none 0 0⟩,
    ⟨164, .slice 4, 1, 24, .slice none 0 0⟩,
    ⟨166, .struct #[{ name := "Kind", type := 5, offset := 0, embedded := false, tag := "", pkgPath := "", byteOffset := 0 }, { name := "If", type := 5, offset := 1, embedded := false, tag := "", pkgPath := "", byteOffset := 1 }, { name := "Words", type := 74, offset := 2, embedded := false, tag := "", pkgPath := "", byteOffset := 8 }], 3, 32, .agg #[.int .u8 0, .int .u8 0, .slice none 0 0]⟩,
    ⟨169, .map 43 4, 1, 8, .map none⟩,
    ⟨170, .func #[3, 3] #[4] false, 1, 8, .nilFunc⟩,
    ⟨175, .array 3 42, 6, 96, .agg #[.slice none 0 0, .int .i64 0, .slice none 0 0, .int .i64 0, .slice none 0 0, .int .i64 0]⟩,
    ⟨176, .func #[4, 4, 4] #[4] false, 1, 8, .nilFunc⟩,
    ⟨188, .map 3 3, 1, 8, .map none⟩,
    ⟨189, .func #[3] #[3] false, 1, 8, .nilFunc⟩,
    ⟨192, .unsafePointer, 1, 8, .pointer none⟩,
    ⟨197, .map 199 3, 1, 8, .map none⟩,
    ⟨198, .func #[199] #[3] false, 1, 8, .nilFunc⟩,
    ⟨199, .array 3 3, 3, 24, .agg #[.int .i64 0, .int .i64 0, .int .i64 0]⟩,
    ⟨202, .func #[21] #[4] false, 1, 8, .nilFunc⟩,
    ⟨205, .struct #[{ name := "Op", type := 3, offset := 0, embedded := false, tag := "", pkgPath := "", byteOffset := 0 }, { name := "Var", type := 3, offset := 1, embedded := false, tag := "", pkgPath := "", byteOffset := 8 }, { name := "A", type := 3, offset := 2, embedded := false, tag := "", pkgPath := "", byteOffset := 16 }, { name := "B", type := 3, offset := 3, embedded := false, tag := "", pkgPath := "", byteOffset := 24 }], 4, 32, .agg #[.int .i64 0, .int .i64 0, .int .i64 0, .int .i64 0]⟩,
    ⟨208, .array 256 4, 256, 256, .agg #[.bool false, .bool false, .bool false, .bool false, .bool false, .bool false, .bool false, .bool false, .bool false, .bool false, .bool false, .bool false, .bool false, .bool false, .bool false, .bool false, .bool false, .bool false, .bool false, .bool false, .bool false, .bool false, .bool false, .bool false, .bool false, .bool false, .bool false, .bool false, .bool false, .bool false, .bool false, .bool false, .bool false, .bool false, .bool false, .bool false, .bool false, .bool false, .bool false, .bool false, .bool false, .bool false, .bool false, .bool false, .bool false, .bool false, .bool false, .bool false, .bool false, .bool false, .bool false, .bool false, .bool false, .bool false, .bool false, .bool false, .bool false, .bool false, .bool false, .bool false, .bool false, .bool false, .bool false, .bool false, .bool false, .bool false, .bool false, .bool false, .bool false, .bool false, .bool false, .bool false, .bool false, .bool false, .bool false, .bool false, .bool false, .bool false, .bool false, .bool false, .bool false, .bool false, .bool false, .bool false, .bool false, .bool false, .bool false, .bool false, .bool false, .bool false, .bool false, .bool false, .bool false, .bool false, .bool false, .bool false, .bool false, .bool false, .bool false, .bool false, .bool false, .bool false, .bool false, .bool false, .bool false, .bool false, .bool false, .bool false, .bool false, .bool false, .bool false, .bool false, .bool false, .bool false, .bool false, .bool false, .bool false, .bool false, .bool false, .bool false, .bool false, .bool false, .bool false, .bool false, .bool false, .bool false, .bool false, .bool false, .bool false, .bool false, .bool false, .bool false, .bool false, .bool false, .bool false, .bool false, .bool false, .bool false, .bool false, .bool false, .bool false, .bool false, .bool false, .bool false, .bool false, .bool false, .bool false, .bool false, .bool false, .bool false, .bool false, .bool false, .bool false, .bool false, .bool false, .bool false, .bool false, .bool false, .bool false, .bool false, .bool false, .bool false, .bool false, .bool false, .bool false, .bool false, .bool false, .bool false, .bool false, .bool false, .bool false, .bool false, .bool false, .bool false, .bool false, .bool false, .bool false, .bool false, .bool false, .bool false, .bool false, .bool false, .bool false, .bool false, .bool false, .bool false, .bool false, .bool false, .bool false, .bool false, .bool false, .bool false, .bool false, .bool false, .bool false, .bool false, .bool false, .bool false, .bool false, .bool false, .bool false, .bool false, .bool false, .bool false, .bool false, .bool false, .bool false, .bool false, .bool false, .bool false, .bool false, .bool false, .bool false, .bool false, .bool false, .bool false, .bool false, .bool false, .bool false, .bool false, .bool false, .bool false, .bool false, .bool false, .bool false, .bool false, .bool false, .bool false, .bool false, .bool false, .bool false, .bool false, .bool false, .bool false, .bool false, .bool false, .bool false, .bool false, .bool false, .bool false, .bool false, .bool false, .bool false, .bool false, .bool false, .bool false, .bool false, .bool false, .bool false, .bool false, .bool false, .bool false, .bool false, .bool false, .bool false, .bool false]⟩,
    ⟨212, .pointer 208, 1, 8, .pointer none⟩,
    ⟨216, .pointer 218, 1, 8, .pointer none⟩,
    ⟨218, .struct #[{ name := "names", type := 24, offset := 0, embedded := false, tag := "", pkgPath := "koine/koineref03", byteOffset := 0 }, { name := "l", type := 24, offset := 1, embedded := false, tag := "", pkgPath := "koine/koineref03", byteOffset := 24 }, { name := "at", type := 3, offset := 2, embedded := false, tag := "", pkgPath := "koine/koineref03", byteOffset := 48 }, { name := "f", type := 77, offset := 3, embedded := false, tag := "", pkgPath := "koine/koineref03", byteOffset := 56 }, { name := "bad", type := 4, offset := 4, embedded := false, tag := "", pkgPath := "koine/koineref03", byteOffset := 80 }, { name := "unknown", type := 4, offset := 5, embedded := false, tag := "", pkgPath := "koine/koineref03", byteOffset := 81 }], 6, 88, .agg #[.slice none 0 0, .slice none 0 0, .int .i64 0, .slice none 0 0, .bool false, .bool false]⟩,
    ⟨219, .pointer 222, 1, 8, .pointer none⟩,
    ⟨220, .slice 199, 1, 24, .slice none 0 0⟩,
    ⟨222, .struct #[{ name := "a", type := 42, offset := 0, embedded := false, tag := "", pkgPath := "koine/koineref02", byteOffset := 0 }, { name := "b", type := 42, offset := 2, embedded := false, tag := "", pkgPath := "koine/koineref02", byteOffset := 32 }, { name := "op", type := 3, offset := 4, embedded := false, tag := "", pkgPath := "koine/koineref02", byteOffset := 64 }, { name := "nodes", type := 40, offset := 5, embedded := false, tag := "", pkgPath := "koine/koineref02", byteOffset := 72 }, { name := "seen", type := 220, offset := 6, embedded := false, tag := "", pkgPath := "koine/koineref02", byteOffset := 96 }], 7, 120, .agg #[.slice none 0 0, .int .i64 0, .slice none 0 0, .int .i64 0, .int .i64 0, .slice none 0 0, .slice none 0 0]⟩,
    ⟨224, .pointer 226, 1, 8, .pointer none⟩,
    ⟨226, .struct #[{ name := "nodes", type := 40, offset := 0, embedded := false, tag := "", pkgPath := "koine/koineref02", byteOffset := 0 }, { name := "number", type := 52, offset := 1, embedded := false, tag := "", pkgPath := "koine/koineref02", byteOffset := 24 }, { name := "out", type := 40, offset := 2, embedded := false, tag := "", pkgPath := "koine/koineref02", byteOffset := 48 }], 3, 72, .agg #[.slice none 0 0, .slice none 0 0, .slice none 0 0]⟩,
    ⟨232, .array 512 4, 512, 512, .agg #[.bool false, .bool false, .bool false, .bool false, .bool false, .bool false, .bool false, .bool false, .bool false, .bool false, .bool false, .bool false, .bool false, .bool false, .bool false, .bool false, .bool false, .bool false, .bool false, .bool false, .bool false, .bool false, .bool false, .bool false, .bool false, .bool false, .bool false, .bool false, .bool false, .bool false, .bool false, .bool false, .bool false, .bool false, .bool false, .bool false, .bool false, .bool false, .bool false, .bool false, .bool false, .bool false, .bool false, .bool false, .bool false, .bool false, .bool false, .bool false, .bool false, .bool false, .bool false, .bool false, .bool false, .bool false, .bool false, .bool false, .bool false, .bool false, .bool false, .bool false, .bool false, .bool false, .bool false, .bool false, .bool false, .bool false, .bool false, .bool false, .bool false, .bool false, .bool false, .bool false, .bool false, .bool false, .bool false, .bool false, .bool false, .bool false, .bool false, .bool false, .bool false, .bool false, .bool false, .bool false, .bool false, .bool false, .bool false, .bool false, .bool false, .bool false, .bool false, .bool false, .bool false, .bool false, .bool false, .bool false, .bool false, .bool false, .bool false, .bool false, .bool false, .bool false, .bool false, .bool false, .bool false, .bool false, .bool false, .bool false, .bool false, .bool false, .bool false, .bool false, .bool false, .bool false, .bool false, .bool false, .bool false, .bool false, .bool false, .bool false, .bool false, .bool false, .bool false, .bool false, .bool false, .bool false, .bool false, .bool false, .bool false, .bool false, .bool false, .bool false, .bool false, .bool false, .bool false, .bool false, .bool false, .bool false, .bool false, .bool false, .bool false, .bool false, .bool false, .bool false, .bool false, .bool false, .bool false, .bool false, .bool false, .bool false, .bool false, .bool false, .bool false, .bool false, .bool false, .bool false, .bool false, .bool false, .bool false, .bool false, .bool false, .bool false, .bool false, .bool false, .bool false, .bool false, .bool false, .bool false, .bool false, .bool false, .bool false, .bool false, .bool false, .bool false, .bool false, .bool false, .bool false, .bool false, .bool false, .bool false, .bool false, .bool false, .bool false, .bool false, .bool false, .bool false, .bool false, .bool false, .bool false, .bool false, .bool false, .bool false, .bool false, .bool false, .bool false, .bool false, .bool false, .bool false, .bool false, .bool false, .bool false, .bool false, .bool false, .bool false, .bool false, .bool false, .bool false, .bool false, .bool false, .bool false, .bool false, .bool false, .bool false, .bool false, .bool false, .bool false, .bool false, .bool false, .bool false, .bool false, .bool false, .bool false, .bool false, .bool false, .bool false, .bool false, .bool false, .bool false, .bool false, .bool false, .bool false, .bool false, .bool false, .bool false, .bool false, .bool false, .bool false, .bool false, .bool false, .bool false, .bool false, .bool false, .bool false, .bool false, .bool false, .bool false, .bool false, .bool false, .bool false, .bool false, .bool false, .bool false, .bool false, .bool false, .bool false, .bool false, .bool false, .bool false, .bool false, .bool false, .bool false, .bool false, .bool false, .bool false, .bool false, .bool false, .bool false, .bool false, .bool false, .bool false, .bool false, .bool false, .bool false, .bool false, .bool false, .bool false, .bool false, .bool false, .bool false, .bool false, .bool false, .bool false, .bool false, .bool false, .bool false, .bool false, .bool false, .bool false, .bool false, .bool false, .bool false, .bool false, .bool false, .bool false, .bool false, .bool false, .bool false, .bool false, .bool false, .bool false, .bool false, .bool false, .bool false, .bool false, .bool false, .bool false, .bool false, .bool false, .bool false, .bool false, .bool false, .bool false, .bool false, .bool false, .bool false, .bool false, .bool false, .bool false, .bool false, .bool false, .bool false, .bool false, .bool false, .bool false, .bool false, .bool false, .bool false, .bool false, .bool false, .bool false, .bool false, .bool false, .bool false, .bool false, .bool false, .bool false, .bool false, .bool false, .bool false, .bool false, .bool false, .bool false, .bool false, .bool false, .bool false, .bool false, .bool false, .bool false, .bool false, .bool false, .bool false, .bool false, .bool false, .bool false, .bool false, .bool false, .bool false, .bool false, .bool false, .bool false, .bool false, .bool false, .bool false, .bool false, .bool false, .bool false, .bool false, .bool false, .bool false, .bool false, .bool false, .bool false, .bool false, .bool false, .bool false, .bool false, .bool false, .bool false, .bool false, .bool false, .bool false, .bool false, .bool false, .bool false, .bool false, .bool false, .bool false, .bool false, .bool false, .bool false, .bool false, .bool false, .bool false, .bool false, .bool false, .bool false, .bool false, .bool false, .bool false, .bool false, .bool false, .bool false, .bool false, .bool false, .bool false, .bool false, .bool false, .bool false, .bool false, .bool false, .bool false, .bool false, .bool false, .bool false, .bool false, .bool false, .bool false, .bool false, .bool false, .bool false, .bool false, .bool false, .bool false, .bool false, .bool false, .bool false, .bool false, .bool false, .bool false, .bool false, .bool false, .bool false, .bool false, .bool false, .bool false, .bool false, .bool false, .bool false, .bool false, .bool false, .bool false, .bool false, .bool false, .bool false, .bool false, .bool false, .bool false, .bool false, .bool false, .bool false, .bool false, .bool false, .bool false, .bool false, .bool false, .bool false, .bool false, .bool false, .bool false, .bool false, .bool false, .bool false, .bool false, .bool false, .bool false, .bool false, .bool false, .bool false, .bool false, .bool false, .bool false, .bool false, .bool false, .bool false, .bool false, .bool false, .bool false, .bool false, .bool false, .bool false, .bool false, .bool false, .bool false, .bool false, .bool false, .bool false, .bool false, .bool false, .bool false, .bool false, .bool false, .bool false, .bool false, .bool false, .bool false, .bool false, .bool false, .bool false, .bool false, .bool false, .bool false, .bool false, .bool false, .bool false, .bool false, .bool false, .bool false, .bool false, .bool false, .bool false, .bool false, .bool false]⟩,
    ⟨239, .int .u32, 1, 4, .int .u32 0⟩,
    ⟨242, .array 256 5, 256, 256, .agg #[.int .u8 0, .int .u8 0, .int .u8 0, .int .u8 0, .int .u8 0, .int .u8 0, .int .u8 0, .int .u8 0, .int .u8 0, .int .u8 0, .int .u8 0, .int .u8 0, .int .u8 0, .int .u8 0, .int .u8 0, .int .u8 0, .int .u8 0, .int .u8 0, .int .u8 0, .int .u8 0, .int .u8 0, .int .u8 0, .int .u8 0, .int .u8 0, .int .u8 0, .int .u8 0, .int .u8 0, .int .u8 0, .int .u8 0, .int .u8 0, .int .u8 0, .int .u8 0, .int .u8 0, .int .u8 0, .int .u8 0, .int .u8 0, .int .u8 0, .int .u8 0, .int .u8 0, .int .u8 0, .int .u8 0, .int .u8 0, .int .u8 0, .int .u8 0, .int .u8 0, .int .u8 0, .int .u8 0, .int .u8 0, .int .u8 0, .int .u8 0, .int .u8 0, .int .u8 0, .int .u8 0, .int .u8 0, .int .u8 0, .int .u8 0, .int .u8 0, .int .u8 0, .int .u8 0, .int .u8 0, .int .u8 0, .int .u8 0, .int .u8 0, .int .u8 0, .int .u8 0, .int .u8 0, .int .u8 0, .int .u8 0, .int .u8 0, .int .u8 0, .int .u8 0, .int .u8 0, .int .u8 0, .int .u8 0, .int .u8 0, .int .u8 0, .int .u8 0, .int .u8 0, .int .u8 0, .int .u8 0, .int .u8 0, .int .u8 0, .int .u8 0, .int .u8 0, .int .u8 0, .int .u8 0, .int .u8 0, .int .u8 0, .int .u8 0, .int .u8 0, .int .u8 0, .int .u8 0, .int .u8 0, .int .u8 0, .int .u8 0, .int .u8 0, .int .u8 0, .int .u8 0, .int .u8 0, .int .u8 0, .int .u8 0, .int .u8 0, .int .u8 0, .int .u8 0, .int .u8 0, .int .u8 0, .int .u8 0, .int .u8 0, .int .u8 0, .int .u8 0, .int .u8 0, .int .u8 0, .int .u8 0, .int .u8 0, .int .u8 0, .int .u8 0, .int .u8 0, .int .u8 0, .int .u8 0, .int .u8 0, .int .u8 0, .int .u8 0, .int .u8 0, .int .u8 0, .int .u8 0, .int .u8 0, .int .u8 0, .int .u8 0, .int .u8 0, .int .u8 0, .int .u8 0, .int .u8 0, .int .u8 0, .int .u8 0, .int .u8 0, .int .u8 0, .int .u8 0, .int .u8 0, .int .u8 0, .int .u8 0, .int .u8 0, .int .u8 0, .int .u8 0, .int .u8 0, .int .u8 0, .int .u8 0, .int .u8 0, .int .u8 0, .int .u8 0, .int .u8 0, .int .u8 0, .int .u8 0, .int .u8 0, .int .u8 0, .int .u8 0, .int .u8 0, .int .u8 0, .int .u8 0, .int .u8 0, .int .u8 0, .int .u8 0, .int .u8 0, .int .u8 0, .int .u8 0, .int .u8 0, .int .u8 0, .int .u8 0, .int .u8 0, .int .u8 0, .int .u8 0, .int .u8 0, .int .u8 0, .int .u8 0, .int .u8 0, .int .u8 0, .int .u8 0, .int .u8 0, .int .u8 0, .int .u8 0, .int .u8 0, .int .u8 0, .int .u8 0, .int .u8 0, .int .u8 0, .int .u8 0, .int .u8 0, .int .u8 0, .int .u8 0, .int .u8 0, .int .u8 0, .int .u8 0, .int .u8 0, .int .u8 0, .int .u8 0, .int .u8 0, .int .u8 0, .int .u8 0, .int .u8 0, .int .u8 0, .int .u8 0, .int .u8 0, .int .u8 0, .int .u8 0, .int .u8 0, .int .u8 0, .int .u8 0, .int .u8 0, .int .u8 0, .int .u8 0, .int .u8 0, .int .u8 0, .int .u8 0, .int .u8 0, .int .u8 0, .int .u8 0, .int .u8 0, .int .u8 0, .int .u8 0, .int .u8 0, .int .u8 0, .int .u8 0, .int .u8 0, .int .u8 0, .int .u8 0, .int .u8 0, .int .u8 0, .int .u8 0, .int .u8 0, .int .u8 0, .int .u8 0, .int .u8 0, .int .u8 0, .int .u8 0, .int .u8 0, .int .u8 0, .int .u8 0, .int .u8 0, .int .u8 0, .int .u8 0, .int .u8 0, .int .u8 0, .int .u8 0, .int .u8 0, .int .u8 0, .int .u8 0, .int .u8 0, .int .u8 0, .int .u8 0, .int .u8 0, .int .u8 0, .int .u8 0, .int .u8 0, .int .u8 0, .int .u8 0, .int .u8 0, .int .u8 0]⟩,
    ⟨244, .struct #[{ name := "lo", type := 5, offset := 0, embedded := false, tag := "", pkgPath := "unicode/utf8", byteOffset := 0 }, { name := "hi", type := 5, offset := 1, embedded := false, tag := "", pkgPath := "unicode/utf8", byteOffset := 1 }], 2, 2, .agg #[.int .u8 0, .int .u8 0]⟩,
    ⟨245, .array 16 244, 32, 32, .agg #[.int .u8 0, .int .u8 0, .int .u8 0, .int .u8 0, .int .u8 0, .int .u8 0, .int .u8 0, .int .u8 0, .int .u8 0, .int .u8 0, .int .u8 0, .int .u8 0, .int .u8 0, .int .u8 0, .int .u8 0, .int .u8 0, .int .u8 0, .int .u8 0, .int .u8 0, .int .u8 0, .int .u8 0, .int .u8 0, .int .u8 0, .int .u8 0, .int .u8 0, .int .u8 0, .int .u8 0, .int .u8 0, .int .u8 0, .int .u8 0, .int .u8 0, .int .u8 0]⟩]
  fns := [3, 4, 5, 6, 7, 8, 9, 10, 11, 12, 13, 14, 15, 16, 17, 18, 19, 20, 21, 22, 23, 24, 25, 26, 27, 28, 29, 30, 31, 32, 33, 34, 35, 36, 37, 38, 39, 40, 41, 42, 43, 44, 45, 46, 47, 48, 49, 50, 51, 52, 53, 54, 55, 56, 57, 58, 59, 60, 61, 62, 63, 64, 65, 66, 67, 68, 69, 70, 71, 72, 73, 74, 75, 76, 77, 78, 79, 80, 81, 82, 83, 84, 85, 86, 87, 88, 89, 90, 91, 92, 93, 94, 95, 96, 97, 98, 99, 100, 101, 102, 103, 104, 105, 106, 107, 108, 109, 110, 111, 112, 113, 114, 115, 116, 117, 118, 119, 120, 121, 122, 123, 124, 125, 126, 127, 128, 129, 130, 132, 133, 134, 135, 136, 137, 138, 139, 140, 141, 142, 143, 144, 146, 147, 148, 149, 150, 151, 153, 154, 155, 156, 157, 158, 159, 160, 161, 162, 163, 164, 165, 166, 167, 168, 170, 171, 172, 173, 174, 175, 176, 177, 178, 179, 180, 181, 182, 183, 184, 185, 186, 187]
  ms := []
  eqs := [⟨32, [0, 0, 0]⟩, ⟨116, [0, 0, 0]⟩, ⟨205, [0, 0, 0, 0]⟩]

theorem gx_tys : AllTy Tryz.prog gx.tys :=
  ⟨⟨by kernel_rfl, by kernel_rfl⟩,
   ⟨by kernel_rfl, by kernel_rfl⟩,
   ⟨by kernel_rfl, by kernel_rfl⟩,
   ⟨by kernel_rfl, by kernel_rfl⟩,
   ⟨by kernel_rfl, by kernel_rfl⟩,
   ⟨by kernel_rfl, by kernel_rfl⟩,
   ⟨by kernel_rfl, by kernel_rfl⟩,
   ⟨by kernel_rfl, by kernel_rfl⟩,
   ⟨by kernel_rfl, by kernel_rfl⟩,
   ⟨by kernel_rfl, by kernel_rfl⟩,
   ⟨by kernel_rfl, by kernel_rfl⟩,
   ⟨by kernel_rfl, by kernel_rfl⟩,
   ⟨by kernel_rfl, by kernel_rfl⟩,
   ⟨by kernel_rfl, by kernel_rfl⟩,
   ⟨by kernel_rfl, by kernel_rfl⟩,
   ⟨by kernel_rfl, by kernel_rfl⟩,
   ⟨by kernel_rfl, by kernel_rfl⟩,
   ⟨by kernel_rfl, by kernel_rfl⟩,
   ⟨by kernel_rfl, by kernel_rfl⟩,
   ⟨by kernel_rfl, by kernel_rfl⟩,
   ⟨by kernel_rfl, by kernel_rfl⟩,
   ⟨by kernel_rfl, by kernel_rfl⟩,
   ⟨by kernel_rfl, by kernel_rfl⟩,
   ⟨by kernel_rfl, by kernel_rfl⟩,
   ⟨by kernel_rfl, by kernel_rfl⟩,
   ⟨by kernel_rfl, by kernel_rfl⟩,
   ⟨by kernel_rfl, by kernel_rfl⟩,
   ⟨by kernel_rfl, by kernel_rfl⟩,
   ⟨by kernel_rfl, by kernel_rfl⟩,
   ⟨by kernel_rfl, by kernel_rfl⟩,
   ⟨by kernel_rfl, by kernel_rfl⟩,
   ⟨by kernel_rfl, by kernel_rfl⟩,
   ⟨by kernel_rfl, by kernel_rfl⟩,
   ⟨by kernel_rfl, by kernel_rfl⟩,
   ⟨by kernel_rfl, by kernel_rfl⟩,
   ⟨by kernel_rfl, by kernel_rfl⟩,
   ⟨by kernel_rfl, by kernel_rfl⟩,
   ⟨by kernel_rfl, by kernel_rfl⟩,
   ⟨by kernel_rfl, by kernel_rfl⟩,
   ⟨by kernel_rfl, by kernel_rfl⟩,
   ⟨by kernel_rfl, by kernel_rfl⟩,
   ⟨by kernel_rfl, by kernel_rfl⟩,
   ⟨by kernel_rfl, by kernel_rfl⟩,
   ⟨by kernel_rfl, by kernel_rfl⟩,
   ⟨by kernel_rfl, by kernel_rfl⟩,
   ⟨by kernel_rfl, by kernel_rfl⟩,
   ⟨by kernel_rfl, by kernel_rfl⟩,
   ⟨by kernel_rfl, by kernel_rfl⟩,
   ⟨by kernel_rfl, by kernel_rfl⟩,
   ⟨by kernel_rfl, by kernel_rfl⟩,
   ⟨by kernel_rfl, by kernel_rfl⟩,
   ⟨by kernel_rfl, by kernel_rfl⟩,
   ⟨by kernel_rfl, by kernel_rfl⟩,
   ⟨by kernel_rfl, by kernel_rfl⟩,
   ⟨by kernel_rfl, by kernel_rfl⟩,
   ⟨by kernel_rfl, by kernel_rfl⟩,
   ⟨by kernel_rfl, by kernel_rfl⟩,
   ⟨by kernel_rfl, by kernel_rfl⟩,
   ⟨by kernel_rfl, by kernel_rfl⟩,
   ⟨by kernel_rfl, by kernel_rfl⟩,
   ⟨by kernel_rfl, by kernel_rfl⟩,
   ⟨by kernel_rfl, by kernel_rfl⟩,
   ⟨by kernel_rfl, by kernel_rfl⟩,
   ⟨by kernel_rfl, by kernel_rfl⟩,
   ⟨by kernel_rfl, by kernel_rfl⟩,
   ⟨by kernel_rfl, by kernel_rfl⟩,
   ⟨by kernel_rfl, by kernel_rfl⟩,
   ⟨by kernel_rfl, by kernel_rfl⟩,
   ⟨by kernel_rfl, by kernel_rfl⟩,
   ⟨by kernel_rfl, by kernel_rfl⟩,
   ⟨by kernel_rfl, by kernel_rfl⟩,
   ⟨by kernel_rfl, by kernel_rfl⟩,
   ⟨by kernel_rfl, by kernel_rfl⟩,
   ⟨by kernel_rfl, by kernel_rfl⟩,
   ⟨by kernel_rfl, by kernel_rfl⟩,
   ⟨by kernel_rfl, by kernel_rfl⟩,
   ⟨by kernel_rfl, by kernel_rfl⟩,
   ⟨by kernel_rfl, by kernel_rfl⟩,
   ⟨by kernel_rfl, by kernel_rfl⟩,
   ⟨by kernel_rfl, by kernel_rfl⟩,
   ⟨by kernel_rfl, by kernel_rfl⟩, trivial⟩

theorem gx_fns : AllFn Tryz.prog gx.fns :=
  ⟨⟨_, Tryz.func3, by kernel_rfl, by kernel_rfl⟩,
   ⟨_, Tryz.func4, by kernel_rfl, by kernel_rfl⟩,
   ⟨_, Tryz.func5, by kernel_rfl, by kernel_rfl⟩,
   ⟨_, Tryz.func6, by kernel_rfl, by kernel_rfl⟩,
   ⟨_, Tryz.func7, by kernel_rfl, by kernel_rfl⟩,
   ⟨_, Tryz.func8, by kernel_rfl, by kernel_rfl⟩,
   ⟨_, Tryz.func9, by kernel_rfl, by kernel_rfl⟩,
   ⟨_, Tryz.func10, by kernel_rfl, by kernel_rfl⟩,
   ⟨_, Tryz.func11, by kernel_rfl, by kernel_rfl⟩,
   ⟨_, Tryz.func12, by kernel_rfl, by kernel_rfl⟩,
   ⟨_, Tryz.func13, by kernel_rfl, by kernel_rfl⟩,
   ⟨_, Tryz.func14, by kernel_rfl, by kernel_rfl⟩,
   ⟨_, Tryz.func15, by kernel_rfl, by kernel_rfl⟩,
   ⟨_, Tryz.func16, by kernel_rfl, by kernel_rfl⟩,
   ⟨_, Tryz.func17, by kernel_rfl, by kernel_rfl⟩,
   ⟨_, Tryz.func18, by kernel_rfl, by kernel_rfl⟩,
   ⟨_, Tryz.func19, by kernel_rfl, by kernel_rfl⟩,
   ⟨_, Tryz.func20, by kernel_rfl, by kernel_rfl⟩,
   ⟨_, Tryz.func21, by kernel_rfl, by kernel_rfl⟩,
   ⟨_, Tryz.func22, by kernel_rfl, by kernel_rfl⟩,
   ⟨_, Tryz.func23, by kernel_rfl, by kernel_rfl⟩,
   ⟨_, Tryz.func24, by kernel_rfl, by kernel_rfl⟩,
   ⟨_, Tryz.func25, by kernel_rfl, by kernel_rfl⟩,
   ⟨_, Tryz.func26, by kernel_rfl, by kernel_rfl⟩,
   ⟨_, Tryz.func27, by kernel_rfl, by kernel_rfl⟩,
   ⟨_, Tryz.func28, by kernel_rfl, by kernel_rfl⟩,
   ⟨_, Tryz.func29, by kernel_rfl, by kernel_rfl⟩,
   ⟨_, Tryz.func30, by kernel_rfl, by kernel_rfl⟩,
   ⟨_, Tryz.func31, by kernel_rfl, by kernel_rfl⟩,
   ⟨_, Tryz.func32, by kernel_rfl, by kernel_rfl⟩,
   ⟨_, Tryz.func33, by kernel_rfl, by kernel_rfl⟩,
   ⟨_, Tryz.func34, by kernel_rfl, by kernel_rfl⟩,
   ⟨_, Tryz.func35, by kernel_rfl, by kernel_rfl⟩,
   ⟨_, Tryz.func36, by kernel_rfl, by kernel_rfl⟩,
   ⟨_, Tryz.func37, by kernel_rfl, by kernel_rfl⟩,
   ⟨_, Tryz.func38, by kernel_rfl, by kernel_rfl⟩,
   ⟨_, Tryz.func39, by kernel_rfl, by kernel_rfl⟩,
   ⟨_, Tryz.func40, by kernel_rfl, by kernel_rfl⟩,
   ⟨_, Tryz.func41, by kernel_rfl, by kernel_rfl⟩,
   ⟨_, Tryz.func42, by kernel_rfl, by kernel_rfl⟩,
   ⟨_, Tryz.func43, by kernel_rfl, by kernel_rfl⟩,
   ⟨_, Tryz.func44, by kernel_rfl, by kernel_rfl⟩,
   ⟨_, Tryz.func45, by kernel_rfl, by kernel_rfl⟩,
   ⟨_, Tryz.func46, by kernel_rfl, by kernel_rfl⟩,
   ⟨_, Tryz.func47, by kernel_rfl, by kernel_rfl⟩,
   ⟨_, Tryz.func48, by kernel_rfl, by kernel_rfl⟩,
   ⟨_, Tryz.func49, by kernel_rfl, by kernel_rfl⟩,
   ⟨_, Tryz.func50, by kernel_rfl, by kernel_rfl⟩,
   ⟨_, Tryz.func51, by kernel_rfl, by kernel_rfl⟩,
   ⟨_, Tryz.func52, by kernel_rfl, by kernel_rfl⟩,
   ⟨_, Tryz.func53, by kernel_rfl, by kernel_rfl⟩,
   ⟨_, Tryz.func54, by kernel_rfl, by kernel_rfl⟩,
   ⟨_, Tryz.func55, by kernel_rfl, by kernel_rfl⟩,
   ⟨_, Tryz.func56, by kernel_rfl, by kernel_rfl⟩,
   ⟨_, Tryz.func57, by kernel_rfl, by kernel_rfl⟩,
   ⟨_, Tryz.func58, by kernel_rfl, by kernel_rfl⟩,
   ⟨_, Tryz.func59, by kernel_rfl, by kernel_rfl⟩,
   ⟨_, Tryz.func60, by kernel_rfl, by kernel_rfl⟩,
   ⟨_, Tryz.func61, by kernel_rfl, by kernel_rfl⟩,
   ⟨_, Tryz.func62, by kernel_rfl, by kernel_rfl⟩,
   ⟨_, Tryz.func63, by kernel_rfl, by kernel_rfl⟩,
   ⟨_, Tryz.func64, by kernel_rfl, by kernel_rfl⟩,
   ⟨_, Tryz.func65, by kernel_rfl, by kernel_rfl⟩,
   ⟨_, Tryz.func66, by kernel_rfl, by kernel_rfl⟩,
   ⟨_, Tryz.func67, by kernel_rfl, by kernel_rfl⟩,
   ⟨_, Tryz.func68, by kernel_rfl, by kernel_rfl⟩,
   ⟨_, Tryz.func69, by kernel_rfl, by kernel_rfl⟩,
   ⟨_, Tryz.func70, by kernel_rfl, by kernel_rfl⟩,
   ⟨_, Tryz.func71, by kernel_rfl, by kernel_rfl⟩,
   ⟨_, Tryz.func72, by kernel_rfl, by kernel_rfl⟩,
   ⟨_, Tryz.func73, by kernel_rfl, by kernel_rfl⟩,
   ⟨_, Tryz.func74, by kernel_rfl, by kernel_rfl⟩,
   ⟨_, Tryz.func75, by kernel_rfl, by kernel_rfl⟩,
   ⟨_, Tryz.func76, by kernel_rfl, by kernel_rfl⟩,
   ⟨_, Tryz.func77, by kernel_rfl, by kernel_rfl⟩,
   ⟨_, Tryz.func78, by kernel_rfl, by kernel_rfl⟩,
   ⟨_, Tryz.func79, by kernel_rfl, by kernel_rfl⟩,
   ⟨_, Tryz.func80, by kernel_rfl, by kernel_rfl⟩,
   ⟨_, Tryz.func81, by kernel_rfl, by kernel_rfl⟩,
   ⟨_, Tryz.func82, by kernel_rfl, by kernel_rfl⟩,
   ⟨_, Tryz.func83, by kernel_rfl, by kernel_rfl⟩,
   ⟨_, Tryz.func84, by kernel_rfl, by kernel_rfl⟩,
   ⟨_, Tryz.func85, by kernel_rfl, by kernel_rfl⟩,
   ⟨_, Tryz.func86, by kernel_rfl, by kernel_rfl⟩,
   ⟨_, Tryz.func87, by kernel_rfl, by kernel_rfl⟩,
   ⟨_, Tryz.func88, by kernel_rfl, by kernel_rfl⟩,
   ⟨_, Tryz.func89, by kernel_rfl, by kernel_rfl⟩,
   ⟨_, Tryz.func90, by kernel_rfl, by kernel_rfl⟩,
   ⟨_, Tryz.func91, by kernel_rfl, by kernel_rfl⟩,
   ⟨_, Tryz.func92, by kernel_rfl, by kernel_rfl⟩,
   ⟨_, Tryz.func93, by kernel_rfl, by kernel_rfl⟩,
   ⟨_, Tryz.func94, by kernel_rfl, by kernel_rfl⟩,
   ⟨_, Tryz.func95, by kernel_rfl, by kernel_rfl⟩,
   ⟨_, Tryz.func96, by kernel_rfl, by kernel_rfl⟩,
   ⟨_, Tryz.func97, by kernel_rfl, by kernel_rfl⟩,
   ⟨_, Tryz.func98, by kernel_rfl, by kernel_rfl⟩,
   ⟨_, Tryz.func99, by kernel_rfl, by kernel_rfl⟩,
   ⟨_, Tryz.func100, by kernel_rfl, by kernel_rfl⟩,
   ⟨_, Tryz.func101, by kernel_rfl, by kernel_rfl⟩,
   ⟨_, Tryz.func102, by kernel_rfl, by kernel_rfl⟩,
   ⟨_, Tryz.func103, by kernel_rfl, by kernel_rfl⟩,
   ⟨_, Tryz.func104, by kernel_rfl, by kernel_rfl⟩,
   ⟨_, Tryz.func105, by kernel_rfl, by kernel_rfl⟩,
   ⟨_, Tryz.func106, by kernel_rfl, by kernel_rfl⟩,
   ⟨_, Tryz.func107, by kernel_rfl, by kernel_rfl⟩,
   ⟨_, Tryz.func108, by kernel_rfl, by kernel_rfl⟩,
   ⟨_, Tryz.func109, by kernel_rfl, by kernel_rfl⟩,
   ⟨_, Tryz.func110, by kernel_rfl, by kernel_rfl⟩,
   ⟨_, Tryz.func111, by kernel_rfl, by kernel_rfl⟩,
   ⟨_, Tryz.func112, by kernel_rfl, by kernel_rfl⟩,
   ⟨_, Tryz.func113, by kernel_rfl, by kernel_rfl⟩,
   ⟨_, Tryz.func114, by kernel_rfl, by kernel_rfl⟩,
   ⟨_, Tryz.func115, by kernel_rfl, by kernel_rfl⟩,
   ⟨_, Tryz.func116, by kernel_rfl, by kernel_rfl⟩,
   ⟨_, Tryz.func117, by kernel_rfl, by kernel_rfl⟩,
   ⟨_, Tryz.func118, by kernel_rfl, by kernel_rfl⟩,
   ⟨_, Tryz.func119, by kernel_rfl, by kernel_rfl⟩,
   ⟨_, Tryz.func120, by kernel_rfl, by kernel_rfl⟩,
   ⟨_, Tryz.func121, by kernel_rfl, by kernel_rfl⟩,
   ⟨_, Tryz.func122, by kernel_rfl, by kernel_rfl⟩,
   ⟨_, Tryz.func123, by kernel_rfl, by kernel_rfl⟩,
   ⟨_, Tryz.func124, by kernel_rfl, by kernel_rfl⟩,
   ⟨_, Tryz.func125, by kernel_rfl, by kernel_rfl⟩,
   ⟨_, Tryz.func126, by kernel_rfl, by kernel_rfl⟩,
   ⟨_, Tryz.func127, by kernel_rfl, by kernel_rfl⟩,
   ⟨_, Tryz.func128, by kernel_rfl, by kernel_rfl⟩,
   ⟨_, Tryz.func129, by kernel_rfl, by kernel_rfl⟩,
   ⟨_, Tryz.func130, by kernel_rfl, by kernel_rfl⟩,
   ⟨_, Tryz.func132, by kernel_rfl, by kernel_rfl⟩,
   ⟨_, Tryz.func133, by kernel_rfl, by kernel_rfl⟩,
   ⟨_, Tryz.func134, by kernel_rfl, by kernel_rfl⟩,
   ⟨_, Tryz.func135, by kernel_rfl, by kernel_rfl⟩,
   ⟨_, Tryz.func136, by kernel_rfl, by kernel_rfl⟩,
   ⟨_, Tryz.func137, by kernel_rfl, by kernel_rfl⟩,
   ⟨_, Tryz.func138, by kernel_rfl, by kernel_rfl⟩,
   ⟨_, Tryz.func139, by kernel_rfl, by kernel_rfl⟩,
   ⟨_, Tryz.func140, by kernel_rfl, by kernel_rfl⟩,
   ⟨_, Tryz.func141, by kernel_rfl, by kernel_rfl⟩,
   ⟨_, Tryz.func142, by kernel_rfl, by kernel_rfl⟩,
   ⟨_, Tryz.func143, by kernel_rfl, by kernel_rfl⟩,
   ⟨_, Tryz.func144, by kernel_rfl, by kernel_rfl⟩,
   ⟨_, Tryz.func146, by kernel_rfl, by kernel_rfl⟩,
   ⟨_, Tryz.func147, by kernel_rfl, by kernel_rfl⟩,
   ⟨_, Tryz.func148, by kernel_rfl, by kernel_rfl⟩,
   ⟨_, Tryz.func149, by kernel_rfl, by kernel_rfl⟩,
   ⟨_, Tryz.func150, by kernel_rfl, by kernel_rfl⟩,
   ⟨_, Tryz.func151, by kernel_rfl, by kernel_rfl⟩,
   ⟨_, Tryz.func153, by kernel_rfl, by kernel_rfl⟩,
   ⟨_, Tryz.func154, by kernel_rfl, by kernel_rfl⟩,
   ⟨_, Tryz.func155, by kernel_rfl, by kernel_rfl⟩,
   ⟨_, Tryz.func156, by kernel_rfl, by kernel_rfl⟩,
   ⟨_, Tryz.func157, by kernel_rfl, by kernel_rfl⟩,
   ⟨_, Tryz.func158, by kernel_rfl, by kernel_rfl⟩,
   ⟨_, Tryz.func159, by kernel_rfl, by kernel_rfl⟩,
   ⟨_, Tryz.func160, by kernel_rfl, by kernel_rfl⟩,
   ⟨_, Tryz.func161, by kernel_rfl, by kernel_rfl⟩,
   ⟨_, Tryz.func162, by kernel_rfl, by kernel_rfl⟩,
   ⟨_, Tryz.func163, by kernel_rfl, by kernel_rfl⟩,
   ⟨_, Tryz.func164, by kernel_rfl, by kernel_rfl⟩,
   ⟨_, Tryz.func165, by kernel_rfl, by kernel_rfl⟩,
   ⟨_, Tryz.func166, by kernel_rfl, by kernel_rfl⟩,
   ⟨_, Tryz.func167, by kernel_rfl, by kernel_rfl⟩,
   ⟨_, Tryz.func168, by kernel_rfl, by kernel_rfl⟩,
   ⟨_, Tryz.func170, by kernel_rfl, by kernel_rfl⟩,
   ⟨_, Tryz.func171, by kernel_rfl, by kernel_rfl⟩,
   ⟨_, Tryz.func172, by kernel_rfl, by kernel_rfl⟩,
   ⟨_, Tryz.func173, by kernel_rfl, by kernel_rfl⟩,
   ⟨_, Tryz.func174, by kernel_rfl, by kernel_rfl⟩,
   ⟨_, Tryz.func175, by kernel_rfl, by kernel_rfl⟩,
   ⟨_, Tryz.func176, by kernel_rfl, by kernel_rfl⟩,
   ⟨_, Tryz.func177, by kernel_rfl, by kernel_rfl⟩,
   ⟨_, Tryz.func178, by kernel_rfl, by kernel_rfl⟩,
   ⟨_, Tryz.func179, by kernel_rfl, by kernel_rfl⟩,
   ⟨_, Tryz.func180, by kernel_rfl, by kernel_rfl⟩,
   ⟨_, Tryz.func181, by kernel_rfl, by kernel_rfl⟩,
   ⟨_, Tryz.func182, by kernel_rfl, by kernel_rfl⟩,
   ⟨_, Tryz.func183, by kernel_rfl, by kernel_rfl⟩,
   ⟨_, Tryz.func184, by kernel_rfl, by kernel_rfl⟩,
   ⟨_, Tryz.func185, by kernel_rfl, by kernel_rfl⟩,
   ⟨_, Tryz.func186, by kernel_rfl, by kernel_rfl⟩,
   ⟨_, Tryz.func187, by kernel_rfl, by kernel_rfl⟩, trivial⟩

theorem gx_ms : AllM Tryz.prog gx.ms :=
  trivial

theorem gx_eqs : AllE Tryz.prog gx.eqs :=
  ⟨⟨by kernel_rfl, by kernel_rfl, by kernel_rfl⟩,
   ⟨by kernel_rfl, by kernel_rfl, by kernel_rfl⟩,
   ⟨by kernel_rfl, by kernel_rfl, by kernel_rfl⟩, trivial⟩

theorem gx_ok : gx.Ok := ⟨gx_tys, gx_fns, by kernel_rfl, gx_ms, gx_eqs⟩

/-- koinelaw07.SourceMatchesReference -/
noncomputable abbrev c3 : Cx := { g := gx, N := 47, named := 9, keep := [9, 10, 11, 12, 20] }
/-- koinelaw07.SourceNames -/
noncomputable abbrev c4 : Cx := { g := gx, N := 85, named := 11, keep := [11, 12, 13, 14, 23, 29, 37, 50, 58] }
/-- koinelaw07.SourceAnyMatchesReference -/
noncomputable abbrev c5 : Cx := { g := gx, N := 203, named := 3, keep := [3, 4, 5, 6, 7, 8, 9, 10, 11, 12, 13, 14, 15, 16, 17, 18, 19, 20, 21, 22, 23, 24, 25, 26, 27, 28, 29, 30, 47, 53, 64, 134, 138, 149] }
/-- koinelaw07.SourceSelection -/
noncomputable abbrev c6 : Cx := { g := gx, N := 54, named := 10, keep := [10, 11, 12, 35, 40, 52] }
/-- koinelaw07.SourceSections -/
noncomputable abbrev c7 : Cx := { g := gx, N := 118, named := 2, keep := [2, 4, 5, 6, 7, 8, 9, 10, 11, 12, 59, 62, 67, 83] }
/-- koinelaw07.SourceOffsets -/
noncomputable abbrev c8 : Cx := { g := gx, N := 193, named := 10, keep := [10, 11, 12, 13, 14, 15, 16, 17, 18, 19, 20, 21, 22, 24, 26, 49, 83, 112, 114, 152] }
/-- koinelaw07.SourceIncludes -/
noncomputable abbrev c9 : Cx := { g := gx, N := 112, named := 8, keep := [8, 9, 10, 11, 12, 13, 14, 15, 33, 46, 95, 100, 110] }
/-- koinelaw07.SourceErrors -/
noncomputable abbrev c10 : Cx := { g := gx, N := 114, named := 8, keep := [9, 10, 11, 12, 13, 15, 25, 55, 64, 76, 82] }
/-- koinelaw07.SourcePlain -/
noncomputable abbrev c11 : Cx := { g := gx, N := 130, named := 10, keep := [10, 11, 20, 38, 43, 49, 78, 80] }
/-- koinelaw07.SourceDead -/
noncomputable abbrev c12 : Cx := { g := gx, N := 105, named := 9, keep := [9, 10, 11, 12, 13, 14, 15, 16, 17, 19, 46, 51, 55, 83, 95] }
/-- koinelaw07.sanity -/
noncomputable abbrev c13 : Cx := { g := gx, N := 157, named := 1, keep := [1, 2, 3, 4, 5, 6, 7, 8, 9, 11, 12, 13, 14, 15, 17, 18, 20, 21, 54] }
/-- koineref03.Letters -/
noncomputable abbrev c14 : Cx := { g := gx, N := 6, named := 3, keep := [] }
/-- koinelaw07.few -/
noncomputable abbrev c15 : Cx := { g := gx, N := 29, named := 4, keep := [6, 10, 28] }
/-- source.Read -/
noncomputable abbrev c16 : Cx := { g := gx, N := 81, named := 6, keep := [6, 7, 9, 10, 11, 12, 13, 14, 15, 22, 29, 38, 39, 40, 41, 63] }
/-- koineref07.Read -/
noncomputable abbrev c17 : Cx := { g := gx, N := 54, named := 6, keep := [6, 7, 8, 9, 10, 13, 20, 31, 43] }
/-- koineref07.Same -/
noncomputable abbrev c18 : Cx := { g := gx, N := 73, named := 2, keep := [2, 3, 4, 5, 6, 7, 21, 26, 72] }
/-- source.Local -/
noncomputable abbrev c19 : Cx := { g := gx, N := 52, named := 3, keep := [3, 6, 7, 8, 10, 13, 16, 17, 18, 19, 31, 50] }
/-- koineref07.Local -/
noncomputable abbrev c20 : Cx := { g := gx, N := 64, named := 3, keep := [3, 6, 7, 8, 9, 10, 11, 14, 19, 43, 50, 62] }
/-- source.Global -/
noncomputable abbrev c21 : Cx := { g := gx, N := 47, named := 3, keep := [3, 6, 7, 9, 10, 17, 20, 21, 22, 23, 33, 43] }
/-- koineref07.Global -/
noncomputable abbrev c22 : Cx := { g := gx, N := 63, named := 3, keep := [3, 6, 7, 8, 9, 10, 17, 22, 34, 43, 59] }
/-- source.Origin -/
noncomputable abbrev c23 : Cx := { g := gx, N := 44, named := 2, keep := [2, 4, 5, 6, 8, 22, 24, 25, 26, 27, 33] }
/-- koineref07.Origin -/
noncomputable abbrev c24 : Cx := { g := gx, N := 43, named := 2, keep := [2, 4, 5, 6, 7, 8, 11, 16, 33] }
/-- source.Dead -/
noncomputable abbrev c25 : Cx := { g := gx, N := 36, named := 2, keep := [2, 3, 4, 5, 6, 7, 8, 9, 13, 17, 19, 20, 21, 22, 29] }
/-- koineref07.Dead -/
noncomputable abbrev c26 : Cx := { g := gx, N := 38, named := 2, keep := [2, 3, 4, 5, 6, 7, 8, 12, 16, 22, 32] }
/-- source.Check -/
noncomputable abbrev c27 : Cx := { g := gx, N := 83, named := 1, keep := [1, 2, 3, 5, 15, 17, 18, 19, 20, 55, 74, 82] }
/-- koineref07.Check -/
noncomputable abbrev c28 : Cx := { g := gx, N := 87, named := 1, keep := [1, 2, 3, 4, 5, 15, 20, 72, 79, 86] }
/-- source.Select -/
noncomputable abbrev c29 : Cx := { g := gx, N := 29, named := 2, keep := [2, 4, 5, 7, 10, 13, 14, 15, 16] }
/-- koineref07.Select -/
noncomputable abbrev c30 : Cx := { g := gx, N := 38, named := 2, keep := [2, 4, 5, 6, 7, 10, 16, 27] }
/-- koineref07.Made -/
noncomputable abbrev c31 : Cx := { g := gx, N := 16, named := 7, keep := [] }
/-- koineref07.Chosen -/
noncomputable abbrev c32 : Cx := { g := gx, N := 108, named := 17, keep := [26, 31, 51, 66, 81, 90, 97] }
/-- koineref07.Formula -/
noncomputable abbrev c33 : Cx := { g := gx, N := 75, named := 7, keep := [9, 39, 40, 44, 48, 54, 60, 68] }
/-- diagram.Constant -/
noncomputable abbrev c34 : Cx := { g := gx, N := 6, named := 2, keep := [2, 3] }
/-- diagram.Disjoint -/
noncomputable abbrev c35 : Cx := { g := gx, N := 16, named := 2, keep := [2, 3, 4] }
/-- diagram.Or -/
noncomputable abbrev c36 : Cx := { g := gx, N := 11, named := 2, keep := [2, 3, 4, 5] }
/-- diagram.Same -/
noncomputable abbrev c37 : Cx := { g := gx, N := 17, named := 2, keep := [2, 3, 4] }
/-- koineref02.Same -/
noncomputable abbrev c38 : Cx := { g := gx, N := 38, named := 2, keep := [2, 3, 4, 5, 19, 24, 37] }
/-- koineref07.Condition -/
noncomputable abbrev c39 : Cx := { g := gx, N := 38, named := 2, keep := [2, 4, 5, 10, 30] }
/-- koineref02.Constant -/
noncomputable abbrev c40 : Cx := { g := gx, N := 6, named := 2, keep := [2, 3] }
/-- koineref02.Made -/
noncomputable abbrev c41 : Cx := { g := gx, N := 11, named := 4, keep := [4] }
/-- koineref02.Var -/
noncomputable abbrev c42 : Cx := { g := gx, N := 15, named := 2, keep := [2, 3, 9] }
/-- formula.Parse -/
noncomputable abbrev c43 : Cx := { g := gx, N := 50, named := 4, keep := [4, 5, 6, 7, 8, 15, 25, 32, 38] }
/-- source.checkFiles -/
noncomputable abbrev c44 : Cx := { g := gx, N := 87, named := 2, keep := [2, 3, 4, 5, 6, 7, 10, 13, 14, 15, 16, 46, 47, 48, 73, 79] }
/-- source.Read$1 -/
noncomputable abbrev c45 : Cx := { g := gx, N := 13, named := 2, keep := [2, 3, 9] }
/-- (*source.reader).read -/
noncomputable abbrev c46 : Cx := { g := gx, N := 230, named := 5, keep := [5, 6, 7, 8, 9, 10, 11, 12, 13, 14, 16, 17, 18, 19, 20, 21, 56, 96, 125, 147, 163, 172, 201] }
/-- (*strings.Builder).String -/
noncomputable abbrev c47 : Cx := { g := gx, N := 14, named := 3, keep := [] }
/-- koineref03.Names -/
noncomputable abbrev c48 : Cx := { g := gx, N := 44, named := 4, keep := [7, 40] }
/-- koineref07.Files -/
noncomputable abbrev c49 : Cx := { g := gx, N := 72, named := 2, keep := [2, 3, 4, 5, 6, 9, 14, 46, 64, 68] }
/-- (*koineref07.reader).number -/
noncomputable abbrev c50 : Cx := { g := gx, N := 26, named := 6, keep := [12, 24] }
/-- (*koineref07.reader).file -/
noncomputable abbrev c51 : Cx := { g := gx, N := 159, named := 5, keep := [5, 6, 7, 8, 9, 10, 11, 12, 46, 51, 62, 75, 99, 131] }
/-- source.selected -/
noncomputable abbrev c52 : Cx := { g := gx, N := 25, named := 2, keep := [2, 4, 5, 7, 9, 10, 11, 12, 18] }
/-- koineref02.In -/
noncomputable abbrev c53 : Cx := { g := gx, N := 30, named := 2, keep := [2, 4, 5, 6, 10, 23] }
/-- diagram.Check -/
noncomputable abbrev c54 : Cx := { g := gx, N := 106, named := 1, keep := [1, 2, 3, 4, 5, 6, 10, 13, 14, 15, 16, 63, 79, 94, 105] }
/-- koineref02.Check -/
noncomputable abbrev c55 : Cx := { g := gx, N := 10, named := 1, keep := [1, 2, 6, 9] }
/-- koineref02.Disjoint -/
noncomputable abbrev c56 : Cx := { g := gx, N := 17, named := 2, keep := [2, 3, 4] }
/-- (*strings.Builder).WriteString -/
noncomputable abbrev c57 : Cx := { g := gx, N := 19, named := 6, keep := [] }
/-- koineref07.lines -/
noncomputable abbrev c58 : Cx := { g := gx, N := 139, named := 12, keep := [12, 13, 14, 15, 25, 42, 73, 96, 108, 120, 133] }
/-- koineref07.begins -/
noncomputable abbrev c59 : Cx := { g := gx, N := 18, named := 5, keep := [] }
/-- koineref07.opened -/
noncomputable abbrev c60 : Cx := { g := gx, N := 15, named := 9, keep := [10, 14] }
/-- koineref07.next -/
noncomputable abbrev c61 : Cx := { g := gx, N := 25, named := 9, keep := [10, 23] }
/-- diagram.check -/
noncomputable abbrev c62 : Cx := { g := gx, N := 18, named := 4, keep := [4, 5, 6, 7, 8, 9, 15] }
/-- diagram.meets -/
noncomputable abbrev c63 : Cx := { g := gx, N := 17, named := 3, keep := [3, 4, 5, 6, 7, 8] }
/-- diagram.binary -/
noncomputable abbrev c64 : Cx := { g := gx, N := 26, named := 3, keep := [3, 4, 5, 6, 7, 8, 14] }
/-- diagram.Or$1 -/
noncomputable abbrev c65 : Cx := { g := gx, N := 9, named := 5, keep := [] }
/-- slices.Equal[[]api.Branch,api.Branch] -/
noncomputable abbrev c66 : Cx := { g := gx, N := 26, named := 6, keep := [10, 12, 13, 14, 24] }
/-- koineref02.table -/
noncomputable abbrev c67 : Cx := { g := gx, N := 59, named := 8, keep := [8, 9, 13] }
/-- formula.numbers -/
noncomputable abbrev c68 : Cx := { g := gx, N := 47, named := 7, keep := [8, 9, 10, 11, 31] }
/-- formula.Parse$1 -/
noncomputable abbrev c69 : Cx := { g := gx, N := 17, named := 5, keep := [7, 14] }
/-- (*formula.reader).whole -/
noncomputable abbrev c70 : Cx := { g := gx, N := 6, named := 1, keep := [1, 2] }
/-- (*formula.reader).skip -/
noncomputable abbrev c71 : Cx := { g := gx, N := 29, named := 7, keep := [] }
/-- strings.IndexByte -/
noncomputable abbrev c72 : Cx := { g := gx, N := 8, named := 5, keep := [] }
/-- strings.Cut -/
noncomputable abbrev c73 : Cx := { g := gx, N := 13, named := 7, keep := [] }
/-- (*source.reader).set -/
noncomputable abbrev c74 : Cx := { g := gx, N := 32, named := 4, keep := [4, 5, 6, 16, 17, 25] }
/-- (*source.reader).deeper -/
noncomputable abbrev c75 : Cx := { g := gx, N := 16, named := 2, keep := [6] }
/-- (*source.reader).split -/
noncomputable abbrev c76 : Cx := { g := gx, N := 29, named := 4, keep := [4, 5, 6, 7] }
/-- (*source.reader).number -/
noncomputable abbrev c77 : Cx := { g := gx, N := 56, named := 7, keep := [27, 52] }
/-- (*source.reader).fail -/
noncomputable abbrev c78 : Cx := { g := gx, N := 16, named := 4, keep := [] }
/-- (*source.reader).branch -/
noncomputable abbrev c79 : Cx := { g := gx, N := 42, named := 8, keep := [8, 9, 13, 25] }
/-- (*source.reader).add -/
noncomputable abbrev c80 : Cx := { g := gx, N := 80, named := 7, keep := [7, 8, 31, 37] }
/-- koineref03.Identifier -/
noncomputable abbrev c81 : Cx := { g := gx, N := 34, named := 4, keep := [7, 30] }
/-- koineref03.index -/
noncomputable abbrev c82 : Cx := { g := gx, N := 19, named := 6, keep := [9, 17] }
/-- koineref07.validName -/
noncomputable abbrev c83 : Cx := { g := gx, N := 28, named := 4, keep := [7, 25] }
/-- koineref07.directive -/
noncomputable abbrev c84 : Cx := { g := gx, N := 21, named := 3, keep := [] }
/-- (*koineref07.reader).text -/
noncomputable abbrev c85 : Cx := { g := gx, N := 99, named := 8, keep := [8, 12, 38, 46] }
/-- (*koineref07.reader).set -/
noncomputable abbrev c86 : Cx := { g := gx, N := 42, named := 8, keep := [8, 9, 10, 11, 23, 30] }
/-- (*koineref07.reader).deeper -/
noncomputable abbrev c87 : Cx := { g := gx, N := 22, named := 6, keep := [10] }
/-- koineref02.Minus -/
noncomputable abbrev c88 : Cx := { g := gx, N := 9, named := 2, keep := [2, 3, 4] }
/-- koineref02.Intersection -/
noncomputable abbrev c89 : Cx := { g := gx, N := 8, named := 2, keep := [2, 3, 4] }
/-- (*koineref07.reader).include -/
noncomputable abbrev c90 : Cx := { g := gx, N := 87, named := 7, keep := [7, 10, 11, 12, 28, 41, 47, 61, 75] }
/-- (*koineref07.reader).branch -/
noncomputable abbrev c91 : Cx := { g := gx, N := 90, named := 11, keep := [11, 12, 13, 14, 15, 18, 37, 49, 59] }
/-- (*koineref07.reader).fail -/
noncomputable abbrev c92 : Cx := { g := gx, N := 21, named := 8, keep := [13] }
/-- diagram.Holds -/
noncomputable abbrev c93 : Cx := { g := gx, N := 32, named := 2, keep := [2, 4, 5, 6, 9, 13, 25] }
/-- diagram.level -/
noncomputable abbrev c94 : Cx := { g := gx, N := 14, named := 2, keep := [2, 4, 6] }
/-- (*diagram.builder).diagram -/
noncomputable abbrev c95 : Cx := { g := gx, N := 17, named := 2, keep := [2, 4, 5, 6, 7] }
/-- koineref02.Valid -/
noncomputable abbrev c96 : Cx := { g := gx, N := 34, named := 1, keep := [1, 2, 3, 15, 20, 26] }
/-- koineref02.first -/
noncomputable abbrev c97 : Cx := { g := gx, N := 19, named := 5, keep := [8, 17] }
/-- (*strings.Builder).copyCheck -/
noncomputable abbrev c98 : Cx := { g := gx, N := 20, named := 2, keep := [6, 19] }
/-- koineref07.text -/
noncomputable abbrev c99 : Cx := { g := gx, N := 43, named := 1, keep := [1, 2, 3, 4, 19, 23, 40] }
/-- koineref07.holds -/
noncomputable abbrev c100 : Cx := { g := gx, N := 18, named := 9, keep := [] }
/-- diagram.meets$1 -/
noncomputable abbrev c101 : Cx := { g := gx, N := 67, named := 15, keep := [16, 24, 26, 31] }
/-- diagram.sides -/
noncomputable abbrev c102 : Cx := { g := gx, N := 29, named := 3, keep := [3, 6, 7, 12] }
/-- diagram.limited -/
noncomputable abbrev c103 : Cx := { g := gx, N := 10, named := 1, keep := [1, 2, 3, 7] }
/-- diagram.combine -/
noncomputable abbrev c104 : Cx := { g := gx, N := 25, named := 2, keep := [2, 3, 4, 5, 6, 7] }
/-- diagram.binary$1 -/
noncomputable abbrev c105 : Cx := { g := gx, N := 12, named := 8, keep := [] }
/-- koineref02.Union -/
noncomputable abbrev c106 : Cx := { g := gx, N := 8, named := 2, keep := [2, 3, 4] }
/-- formula.identifier -/
noncomputable abbrev c107 : Cx := { g := gx, N := 23, named := 4, keep := [7, 21] }
/-- (*formula.reader).expression -/
noncomputable abbrev c108 : Cx := { g := gx, N := 25, named := 11, keep := [15] }
/-- (*formula.reader).whole$1 -/
noncomputable abbrev c109 : Cx := { g := gx, N := 6, named := 2, keep := [] }
/-- (*formula.reader).factor -/
noncomputable abbrev c110 : Cx := { g := gx, N := 84, named := 9, keep := [10, 18, 23, 32, 49, 50, 55] }
/-- strings.TrimLeft -/
noncomputable abbrev c111 : Cx := { g := gx, N := 37, named := 5, keep := [5, 6, 12, 21, 31] }
/-- strings.CutPrefix -/
noncomputable abbrev c112 : Cx := { g := gx, N := 11, named := 6, keep := [] }
/-- internal/stringslite.IndexByte -/
noncomputable abbrev c113 : Cx := { g := gx, N := 8, named := 5, keep := [] }
/-- internal/stringslite.Cut -/
noncomputable abbrev c114 : Cx := { g := gx, N := 23, named := 8, keep := [12] }
/-- (*source.reader).want -/
noncomputable abbrev c115 : Cx := { g := gx, N := 13, named := 4, keep := [4, 6, 8] }
/-- formula.Diagram -/
noncomputable abbrev c116 : Cx := { g := gx, N := 108, named := 2, keep := [2, 3, 4, 5, 6, 7, 10, 15, 16, 17, 18, 23, 24, 34, 45, 59, 78, 98] }
/-- diagram.And -/
noncomputable abbrev c117 : Cx := { g := gx, N := 11, named := 2, keep := [2, 3, 4, 5] }
/-- diagram.Not -/
noncomputable abbrev c118 : Cx := { g := gx, N := 9, named := 1, keep := [1, 2, 3] }
/-- strings.Count -/
noncomputable abbrev c119 : Cx := { g := gx, N := 34, named := 7, keep := [9, 15, 24] }
/-- (*strings.Builder).Len -/
noncomputable abbrev c120 : Cx := { g := gx, N := 8, named := 3, keep := [] }
/-- source.clone -/
noncomputable abbrev c121 : Cx := { g := gx, N := 9, named := 1, keep := [1, 2] }
/-- koineref03.letter -/
noncomputable abbrev c122 : Cx := { g := gx, N := 21, named := 3, keep := [] }
/-- koineref03.Parse -/
noncomputable abbrev c123 : Cx := { g := gx, N := 58, named := 9, keep := [11, 18, 25, 42, 47] }
/-- koineref03.Diagram -/
noncomputable abbrev c124 : Cx := { g := gx, N := 94, named := 2, keep := [2, 3, 4, 5, 6, 7, 8, 11, 16, 28, 29, 37, 48, 64, 81] }
/-- koineref02.Complement -/
noncomputable abbrev c125 : Cx := { g := gx, N := 6, named := 1, keep := [1, 2] }
/-- koineref02.combine -/
noncomputable abbrev c126 : Cx := { g := gx, N := 26, named := 3, keep := [3, 4, 6, 7, 8] }
/-- (*koineref07.reader).open -/
noncomputable abbrev c127 : Cx := { g := gx, N := 24, named := 6, keep := [12, 23] }
/-- (*diagram.builder).diagram$1 -/
noncomputable abbrev c128 : Cx := { g := gx, N := 55, named := 9, keep := [9, 10, 11, 18] }
/-- koineref02.branch -/
noncomputable abbrev c129 : Cx := { g := gx, N := 79, named := 2, keep := [2, 4, 5, 6, 50, 66, 69, 78] }
/-- koineref02.numbered -/
noncomputable abbrev c130 : Cx := { g := gx, N := 22, named := 4, keep := [4, 5, 6] }
/-- koineref07.word -/
noncomputable abbrev c132 : Cx := { g := gx, N := 13, named := 4, keep := [] }
/-- koineref03.Holds -/
noncomputable abbrev c133 : Cx := { g := gx, N := 16, named := 5, keep := [] }
/-- diagram.newBuilder -/
noncomputable abbrev c134 : Cx := { g := gx, N := 4, named := 1, keep := [] }
/-- diagram.combine$1 -/
noncomputable abbrev c135 : Cx := { g := gx, N := 97, named := 6, keep := [6, 7, 8, 9, 10, 11, 12, 13, 14, 15, 28, 39, 46, 64, 65] }
/-- (*diagram.builder).branch -/
noncomputable abbrev c136 : Cx := { g := gx, N := 54, named := 9, keep := [9, 10, 11, 14, 30] }
/-- strings.IndexFunc -/
noncomputable abbrev c137 : Cx := { g := gx, N := 8, named := 5, keep := [] }
/-- formula.identifier$1 -/
noncomputable abbrev c138 : Cx := { g := gx, N := 29, named := 3, keep := [] }
/-- (*formula.reader).put -/
noncomputable abbrev c139 : Cx := { g := gx, N := 21, named := 3, keep := [3, 4] }
/-- strings.trimLeftByte -/
noncomputable abbrev c140 : Cx := { g := gx, N := 17, named := 5, keep := [13] }
/-- strings.makeASCIISet -/
noncomputable abbrev c141 : Cx := { g := gx, N := 21, named := 2, keep := [2, 3, 4, 5, 9, 16] }
/-- strings.trimLeftASCII -/
noncomputable abbrev c142 : Cx := { g := gx, N := 16, named := 5, keep := [7, 12] }
/-- strings.trimLeftUnicode -/
noncomputable abbrev c143 : Cx := { g := gx, N := 23, named := 7, keep := [9, 18] }
/-- internal/stringslite.CutPrefix -/
noncomputable abbrev c144 : Cx := { g := gx, N := 15, named := 6, keep := [9] }
/-- internal/stringslite.Index -/
noncomputable abbrev c146 : Cx := { g := gx, N := 143, named := 14, keep := [16, 24, 31, 36, 59, 64, 73, 93, 107, 114, 132, 139] }
/-- formula.Check -/
noncomputable abbrev c147 : Cx := { g := gx, N := 63, named := 3, keep := [3, 4, 5, 6, 8, 9, 17, 18, 19, 20, 21, 29, 36, 37, 38, 39, 44, 54, 55, 56, 61] }
/-- diagram.Var -/
noncomputable abbrev c148 : Cx := { g := gx, N := 15, named := 2, keep := [2, 3, 9] }
/-- diagram.And$1 -/
noncomputable abbrev c149 : Cx := { g := gx, N := 9, named := 5, keep := [] }
/-- diagram.Not$1 -/
noncomputable abbrev c150 : Cx := { g := gx, N := 7, named := 5, keep := [] }
/-- unicode/utf8.RuneCountInString -/
noncomputable abbrev c151 : Cx := { g := gx, N := 10, named := 3, keep := [4, 6] }
/-- strings.Index -/
noncomputable abbrev c153 : Cx := { g := gx, N := 8, named := 5, keep := [] }
/-- koineref03.tokens -/
noncomputable abbrev c154 : Cx := { g := gx, N := 99, named := 7, keep := [10, 11, 24, 41, 63, 83] }
/-- (*koineref03.parser).expression -/
noncomputable abbrev c155 : Cx := { g := gx, N := 24, named := 5, keep := [15] }
/-- koineref03.Check -/
noncomputable abbrev c156 : Cx := { g := gx, N := 79, named := 7, keep := [14, 21, 30, 38, 50, 64, 78] }
/-- koineref02.Not -/
noncomputable abbrev c157 : Cx := { g := gx, N := 16, named := 1, keep := [1, 2, 3, 4, 8] }
/-- koineref02.And -/
noncomputable abbrev c158 : Cx := { g := gx, N := 11, named := 2, keep := [2, 3, 4, 5] }
/-- koineref02.Or -/
noncomputable abbrev c159 : Cx := { g := gx, N := 11, named := 2, keep := [2, 3, 4, 5] }
/-- (*koineref02.apply).at -/
noncomputable abbrev c160 : Cx := { g := gx, N := 137, named := 17, keep := [22, 33, 57] }
/-- koineref02.level -/
noncomputable abbrev c161 : Cx := { g := gx, N := 14, named := 2, keep := [2, 4, 6] }
/-- (*koineref02.walk).visit -/
noncomputable abbrev c162 : Cx := { g := gx, N := 77, named := 5, keep := [5, 6, 7, 9, 19] }
/-- koineref03.value -/
noncomputable abbrev c163 : Cx := { g := gx, N := 61, named := 7, keep := [7, 13, 14, 16, 25, 33, 47] }
/-- strings.indexFunc -/
noncomputable abbrev c164 : Cx := { g := gx, N := 21, named := 9, keep := [10, 11, 12, 19] }
/-- (*strings.asciiSet).contains -/
noncomputable abbrev c165 : Cx := { g := gx, N := 10, named := 5, keep := [] }
/-- unicode/utf8.DecodeRuneInString -/
noncomputable abbrev c166 : Cx := { g := gx, N := 19, named := 4, keep := [10] }
/-- strings.ContainsRune -/
noncomputable abbrev c167 : Cx := { g := gx, N := 9, named := 5, keep := [] }
/-- internal/stringslite.HasPrefix -/
noncomputable abbrev c168 : Cx := { g := gx, N := 18, named := 5, keep := [] }
/-- internal/bytealg.Cutover -/
noncomputable abbrev c170 : Cx := { g := gx, N := 6, named := 3, keep := [] }
/-- internal/bytealg.IndexRabinKarp[string] -/
noncomputable abbrev c171 : Cx := { g := gx, N := 81, named := 11, keep := [20, 39, 44, 77] }
/-- formula.arity -/
noncomputable abbrev c172 : Cx := { g := gx, N := 69, named := 2, keep := [2, 4, 5, 6, 11, 12, 15, 27, 28, 33, 67] }
/-- (*koineref03.parser).conjunction -/
noncomputable abbrev c173 : Cx := { g := gx, N := 24, named := 5, keep := [15] }
/-- (*koineref03.parser).next -/
noncomputable abbrev c174 : Cx := { g := gx, N := 36, named := 5, keep := [28] }
/-- (*koineref03.parser).put -/
noncomputable abbrev c175 : Cx := { g := gx, N := 21, named := 3, keep := [3, 4] }
/-- koineref03.node -/
noncomputable abbrev c176 : Cx := { g := gx, N := 75, named := 2, keep := [2, 4, 5, 30, 46, 74] }
/-- koineref03.operands -/
noncomputable abbrev c177 : Cx := { g := gx, N := 13, named := 3, keep := [3, 4, 8, 10] }
/-- koineref02.limited -/
noncomputable abbrev c178 : Cx := { g := gx, N := 10, named := 1, keep := [1, 2, 3, 7] }
/-- koineref02.operation -/
noncomputable abbrev c179 : Cx := { g := gx, N := 24, named := 3, keep := [3, 4, 6, 7, 8, 14] }
/-- (*koineref02.apply).constant -/
noncomputable abbrev c180 : Cx := { g := gx, N := 25, named := 7, keep := [10, 11, 16] }
/-- koineref02.sides -/
noncomputable abbrev c181 : Cx := { g := gx, N := 29, named := 3, keep := [3, 6, 7, 12] }
/-- koineref02.unique -/
noncomputable abbrev c182 : Cx := { g := gx, N := 38, named := 3, keep := [3, 4, 5, 6, 11, 18, 26] }
/-- unicode/utf8.decodeRuneInStringSlow -/
noncomputable abbrev c183 : Cx := { g := gx, N := 117, named := 9, keep := [9, 10, 11, 12, 16, 23, 45, 57, 59, 75, 77, 98] }
/-- strings.IndexRune -/
noncomputable abbrev c184 : Cx := { g := gx, N := 187, named := 17, keep := [26, 33, 43, 51, 64, 98, 108, 124, 139, 143, 160, 171, 175, 176, 177, 181, 183] }
/-- internal/bytealg.hashStr[string] -/
noncomputable abbrev c185 : Cx := { g := gx, N := 39, named := 9, keep := [12, 25, 30] }
/-- (*koineref03.parser).factor -/
noncomputable abbrev c186 : Cx := { g := gx, N := 97, named := 7, keep := [15, 21, 27, 34, 39, 86] }
/-- unicode/utf8.ValidRune -/
noncomputable abbrev c187 : Cx := { g := gx, N := 17, named := 4, keep := [10] }

end Go.Proofs.YtedopgkbajhanaaGreatDoor
