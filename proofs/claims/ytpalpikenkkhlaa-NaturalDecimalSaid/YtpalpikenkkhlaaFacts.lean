/-
  The facts of this translation that the engine asks: its types, its functions, and for each function how many slots it has. Printed by a program (wip/gen.py).
  Conditions: none.
-/
import Derived.Test.YtpalpikenkkhlaaProg
import Derived.Test.YtpalpikenkkhlaaMem
namespace Go.Proofs.Ytpalpikenkkhlaa
open Go Go.RowKit

noncomputable def gx : Gx where
  P := Try.prog
  tys := [
    ⟨3, .int .i64, 1, 8, .int .i64 0⟩,
    ⟨4, .bool, 1, 1, .bool false⟩,
    ⟨5, .int .u8, 1, 1, .int .u8 0⟩,
    ⟨9, .string, 1, 16, .string ByteArray.empty⟩,
    ⟨22, .slice 35, 1, 24, .slice none 0 0⟩,
    ⟨23, .slice 35, 1, 24, .slice none 0 0⟩,
    ⟨25, .int .i64, 1, 8, .int .i64 0⟩,
    ⟨35, .int .u32, 1, 4, .int .u32 0⟩,
    ⟨38, .int .u64, 1, 8, .int .u64 0⟩,
    ⟨52, .slice 5, 1, 24, .slice none 0 0⟩,
    ⟨62, .slice 3, 1, 24, .slice none 0 0⟩]
  fns := [3, 4, 5, 6, 7, 8, 9, 10, 11, 12, 13, 14, 15, 16, 17, 18, 19, 20, 21, 22, 23, 24, 25, 26, 27, 28, 29, 30, 31, 32, 33, 34, 35, 36, 37, 38, 39, 40, 41, 42, 43, 44, 45, 46, 47, 48, 49, 50]

theorem gx_tys : AllTy Try.prog gx.tys :=
  ⟨⟨by kernel_rfl, by kernel_rfl⟩,
   ⟨by kernel_rfl, by kernel_rfl⟩,
   ⟨by kernel_rfl, by kernel_rfl⟩,
   ⟨by kernel_rfl, by kernel_rfl⟩,
   ⟨by kernel_rfl, by kernel_rfl⟩,
   ⟨by kernel_rfl, by kernel_rfl⟩,
   ⟨by kernel_rfl, by kernel_rfl⟩,
   ⟨by kernel_rfl, by kernel_rfl⟩,
   ⟨by kernel_rfl, by kernel_rfl⟩,
   ⟨by kernel_rfl, by kernel_rfl⟩,
   ⟨by kernel_rfl, by kernel_rfl⟩, trivial⟩

theorem gx_fns : AllFn Try.prog gx.fns :=
  ⟨⟨_, Try.func3, by kernel_rfl, by kernel_rfl⟩,
   ⟨_, Try.func4, by kernel_rfl, by kernel_rfl⟩,
   ⟨_, Try.func5, by kernel_rfl, by kernel_rfl⟩,
   ⟨_, Try.func6, by kernel_rfl, by kernel_rfl⟩,
   ⟨_, Try.func7, by kernel_rfl, by kernel_rfl⟩,
   ⟨_, Try.func8, by kernel_rfl, by kernel_rfl⟩,
   ⟨_, Try.func9, by kernel_rfl, by kernel_rfl⟩,
   ⟨_, Try.func10, by kernel_rfl, by kernel_rfl⟩,
   ⟨_, Try.func11, by kernel_rfl, by kernel_rfl⟩,
   ⟨_, Try.func12, by kernel_rfl, by kernel_rfl⟩,
   ⟨_, Try.func13, by kernel_rfl, by kernel_rfl⟩,
   ⟨_, Try.func14, by kernel_rfl, by kernel_rfl⟩,
   ⟨_, Try.func15, by kernel_rfl, by kernel_rfl⟩,
   ⟨_, Try.func16, by kernel_rfl, by kernel_rfl⟩,
   ⟨_, Try.func17, by kernel_rfl, by kernel_rfl⟩,
   ⟨_, Try.func18, by kernel_rfl, by kernel_rfl⟩,
   ⟨_, Try.func19, by kernel_rfl, by kernel_rfl⟩,
   ⟨_, Try.func20, by kernel_rfl, by kernel_rfl⟩,
   ⟨_, Try.func21, by kernel_rfl, by kernel_rfl⟩,
   ⟨_, Try.func22, by kernel_rfl, by kernel_rfl⟩,
   ⟨_, Try.func23, by kernel_rfl, by kernel_rfl⟩,
   ⟨_, Try.func24, by kernel_rfl, by kernel_rfl⟩,
   ⟨_, Try.func25, by kernel_rfl, by kernel_rfl⟩,
   ⟨_, Try.func26, by kernel_rfl, by kernel_rfl⟩,
   ⟨_, Try.func27, by kernel_rfl, by kernel_rfl⟩,
   ⟨_, Try.func28, by kernel_rfl, by kernel_rfl⟩,
   ⟨_, Try.func29, by kernel_rfl, by kernel_rfl⟩,
   ⟨_, Try.func30, by kernel_rfl, by kernel_rfl⟩,
   ⟨_, Try.func31, by kernel_rfl, by kernel_rfl⟩,
   ⟨_, Try.func32, by kernel_rfl, by kernel_rfl⟩,
   ⟨_, Try.func33, by kernel_rfl, by kernel_rfl⟩,
   ⟨_, Try.func34, by kernel_rfl, by kernel_rfl⟩,
   ⟨_, Try.func35, by kernel_rfl, by kernel_rfl⟩,
   ⟨_, Try.func36, by kernel_rfl, by kernel_rfl⟩,
   ⟨_, Try.func37, by kernel_rfl, by kernel_rfl⟩,
   ⟨_, Try.func38, by kernel_rfl, by kernel_rfl⟩,
   ⟨_, Try.func39, by kernel_rfl, by kernel_rfl⟩,
   ⟨_, Try.func40, by kernel_rfl, by kernel_rfl⟩,
   ⟨_, Try.func41, by kernel_rfl, by kernel_rfl⟩,
   ⟨_, Try.func42, by kernel_rfl, by kernel_rfl⟩,
   ⟨_, Try.func43, by kernel_rfl, by kernel_rfl⟩,
   ⟨_, Try.func44, by kernel_rfl, by kernel_rfl⟩,
   ⟨_, Try.func45, by kernel_rfl, by kernel_rfl⟩,
   ⟨_, Try.func46, by kernel_rfl, by kernel_rfl⟩,
   ⟨_, Try.func47, by kernel_rfl, by kernel_rfl⟩,
   ⟨_, Try.func48, by kernel_rfl, by kernel_rfl⟩,
   ⟨_, Try.func49, by kernel_rfl, by kernel_rfl⟩,
   ⟨_, Try.func50, by kernel_rfl, by kernel_rfl⟩, trivial⟩

theorem gx_ok : gx.Ok := ⟨gx_tys, gx_fns, by kernel_rfl⟩

/-- koinelaw01.NaturalTextMatchesReference -/
noncomputable abbrev c3 : Cx := { g := gx, N := 48, named := 10, keep := [18] }
/-- koinelaw01.NaturalStrings -/
noncomputable abbrev c4 : Cx := { g := gx, N := 75, named := 8, keep := [11, 23, 49] }
/-- koinelaw01.NaturalRing -/
noncomputable abbrev c5 : Cx := { g := gx, N := 101, named := 13, keep := [] }
/-- koinelaw01.NaturalPowers -/
noncomputable abbrev c6 : Cx := { g := gx, N := 84, named := 12, keep := [19, 66, 69, 82] }
/-- koinelaw01.NaturalOrder -/
noncomputable abbrev c7 : Cx := { g := gx, N := 92, named := 12, keep := [43, 57, 74] }
/-- koinelaw01.NaturalDivision -/
noncomputable abbrev c8 : Cx := { g := gx, N := 89, named := 15, keep := [29] }
/-- koinelaw01.NaturalDecimal -/
noncomputable abbrev c9 : Cx := { g := gx, N := 111, named := 15, keep := [50, 55, 67, 94, 97] }
/-- koinelaw01.NaturalLimits -/
noncomputable abbrev c10 : Cx := { g := gx, N := 114, named := 22, keep := [] }
/-- koinelaw01.NaturalDifferences -/
noncomputable abbrev c11 : Cx := { g := gx, N := 65, named := 12, keep := [32, 42] }
/-- koinelaw01.NaturalMatchesReference -/
noncomputable abbrev c12 : Cx := { g := gx, N := 170, named := 23, keep := [31, 53, 74, 95] }
/-- koinelaw01.NaturalCanonical -/
noncomputable abbrev c13 : Cx := { g := gx, N := 105, named := 20, keep := [] }
/-- koinelaw01.sanity -/
noncomputable abbrev c14 : Cx := { g := gx, N := 81, named := 11, keep := [] }
/-- natural.Parse -/
noncomputable abbrev c15 : Cx := { g := gx, N := 81, named := 9, keep := [20, 22, 23, 24, 35, 39, 40, 41, 49, 50, 51, 70, 78] }
/-- koineref01.Parse -/
noncomputable abbrev c16 : Cx := { g := gx, N := 71, named := 11, keep := [22, 26, 38, 43, 53, 67] }
/-- natural.Text -/
noncomputable abbrev c17 : Cx := { g := gx, N := 75, named := 8, keep := [10, 14, 20, 21, 44, 52, 57, 58, 59] }
/-- koineref01.Text -/
noncomputable abbrev c18 : Cx := { g := gx, N := 29, named := 6, keep := [8, 11, 14] }
/-- koineref01.Same -/
noncomputable abbrev c19 : Cx := { g := gx, N := 26, named := 6, keep := [10, 14, 25] }
/-- natural.Valid -/
noncomputable abbrev c20 : Cx := { g := gx, N := 20, named := 3, keep := [] }
/-- koineref01.Made -/
noncomputable abbrev c21 : Cx := { g := gx, N := 16, named := 6, keep := [] }
/-- koinelaw01.add -/
noncomputable abbrev c22 : Cx := { g := gx, N := 14, named := 7, keep := [] }
/-- koinelaw01.mul -/
noncomputable abbrev c23 : Cx := { g := gx, N := 14, named := 7, keep := [] }
/-- natural.Of -/
noncomputable abbrev c24 : Cx := { g := gx, N := 16, named := 5, keep := [] }
/-- natural.Sub -/
noncomputable abbrev c25 : Cx := { g := gx, N := 34, named := 8, keep := [16] }
/-- natural.Compare -/
noncomputable abbrev c26 : Cx := { g := gx, N := 54, named := 8, keep := [15, 20, 25, 27, 28, 29, 49, 52] }
/-- natural.Div -/
noncomputable abbrev c27 : Cx := { g := gx, N := 102, named := 14, keep := [22, 26, 51, 52, 53, 75] }
/-- koineref01.Long -/
noncomputable abbrev c28 : Cx := { g := gx, N := 19, named := 7, keep := [10] }
/-- natural.Add -/
noncomputable abbrev c29 : Cx := { g := gx, N := 72, named := 9, keep := [16, 21, 32, 33, 34, 46] }
/-- koineref01.Add -/
noncomputable abbrev c30 : Cx := { g := gx, N := 49, named := 10, keep := [17, 25] }
/-- natural.Mul -/
noncomputable abbrev c31 : Cx := { g := gx, N := 78, named := 10, keep := [17, 25, 26, 27, 30, 31, 32] }
/-- koineref01.Mul -/
noncomputable abbrev c32 : Cx := { g := gx, N := 74, named := 11, keep := [18, 28, 34] }
/-- koineref01.Sub -/
noncomputable abbrev c33 : Cx := { g := gx, N := 52, named := 10, keep := [17, 21, 26] }
/-- koineref01.Valid -/
noncomputable abbrev c34 : Cx := { g := gx, N := 20, named := 3, keep := [] }
/-- koineref01.Compare -/
noncomputable abbrev c35 : Cx := { g := gx, N := 38, named := 6, keep := [13, 21, 30, 37] }
/-- koineref01.Div -/
noncomputable abbrev c36 : Cx := { g := gx, N := 64, named := 12, keep := [19, 22, 33, 48] }
/-- natural.Uint64 -/
noncomputable abbrev c37 : Cx := { g := gx, N := 31, named := 6, keep := [13, 15, 16, 17] }
/-- koineref01.Uint64 -/
noncomputable abbrev c38 : Cx := { g := gx, N := 18, named := 4, keep := [11] }
/-- koineref01.Of -/
noncomputable abbrev c39 : Cx := { g := gx, N := 11, named := 3, keep := [] }
/-- natural.short -/
noncomputable abbrev c40 : Cx := { g := gx, N := 52, named := 10, keep := [14, 15, 16] }
/-- koineref01.small -/
noncomputable abbrev c41 : Cx := { g := gx, N := 39, named := 10, keep := [17] }
/-- koineref01.trim -/
noncomputable abbrev c42 : Cx := { g := gx, N := 21, named := 4, keep := [15] }
/-- natural.trim -/
noncomputable abbrev c43 : Cx := { g := gx, N := 24, named := 5, keep := [16, 20] }
/-- natural.subtract -/
noncomputable abbrev c44 : Cx := { g := gx, N := 43, named := 7, keep := [8, 9, 10, 16, 30] }
/-- natural.shift -/
noncomputable abbrev c45 : Cx := { g := gx, N := 28, named := 6, keep := [7, 8, 9] }
/-- natural.less -/
noncomputable abbrev c46 : Cx := { g := gx, N := 38, named := 9, keep := [10, 11, 12, 26, 33] }
/-- koineref01.limb -/
noncomputable abbrev c47 : Cx := { g := gx, N := 14, named := 5, keep := [8] }
/-- koineref01.fit -/
noncomputable abbrev c48 : Cx := { g := gx, N := 11, named := 5, keep := [9] }
/-- koineref01.Bits -/
noncomputable abbrev c49 : Cx := { g := gx, N := 31, named := 7, keep := [11, 19] }
/-- koineref01.binary -/
noncomputable abbrev c50 : Cx := { g := gx, N := 39, named := 7, keep := [11, 22] }

end Go.Proofs.Ytpalpikenkkhlaa
