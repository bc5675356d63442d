/-
  formula: the canonical formula: put, side, build.
  formula: Of, Text.
  Conditions: none.
-/
import Derived.Test.YtedopgkbajhanaaGreatDoorKe
namespace Go.Proofs.YtedopgkbajhanaaGreatDoor
section
open Go Go.RowKit

def putC (x : Fz) (f : List Fz) : Nat × List Fz := if f.length ≤ 512 then (f.length, f ++ [x]) else (f.length - 1, f)
def sideC (bld : Int → List Fz → Nat × List Fz) (op v : Int) (pos : Bool) (num : Int) (f : List Fz) : Nat × List Fz :=
  let p := putC ⟨2, v, 0, 0⟩ f
  let a := if pos then p else putC ⟨3, 0, (p.1 : Nat), 0⟩ p.2
  if op = 4 ∧ num = 1 then a else
    let c := bld num a.2
    putC ⟨op, 0, (a.1 : Nat), (c.1 : Nat)⟩ c.2
def bldC (nd : List Br) : Nat → Int → List Fz → Nat × List Fz
  | 0, _, f => (0, f)
  | m + 1, n, f => if n < 2 ∨ 512 < f.length then putC ⟨min n 1, 0, 0, 0⟩ f else
      match nd[(n - 2).toNat]? with
      | none => (0, f)
      | some b =>
        if b.l = 0 then sideC (bldC nd m) 4 b.v true b.h f else
        if b.h = 0 then sideC (bldC nd m) 4 b.v false b.l f else
        if b.h = 1 then sideC (bldC nd m) 5 b.v true b.l f else
        if b.l = 1 then sideC (bldC nd m) 5 b.v false b.h f else
          let hi := sideC (bldC nd m) 4 b.v true b.h f
          let lo := sideC (bldC nd m) 4 b.v false b.l hi.2
          putC ⟨5, 0, (hi.1 : Nat), (lo.1 : Nat)⟩ lo.2

section
variable {base x : Nat} {NA : Option Addr} {nn nc : Nat} {nd : List Br} {root : Int}
end
end

section
open Go Go.RowKit

/-- What Of answers. -/
noncomputable def ofP (nd : List Br) (root : Int) : List Fz × Int := if chkD nd root = 0 then (if 512 < (bldC nd (root.toNat + 1) root []).2.length then ([], 2) else ((bldC nd (root.toNat + 1) root []).2, 0)) else ([], chkD nd root)
noncomputable def textP (names : List (List Nat)) (nd : List Br) (root : Int) : List Nat × Int := if numsOk names then (if (ofP nd root).2 = 0 then printP names (ofP nd root).1 else ([], (ofP nd root).2)) else ([], 1)

end
end Go.Proofs.YtedopgkbajhanaaGreatDoor
