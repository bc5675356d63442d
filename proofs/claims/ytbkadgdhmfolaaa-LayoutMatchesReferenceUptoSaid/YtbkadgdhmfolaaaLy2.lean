/-
  layout: less, keep.
  Conditions: none.
-/
import Derived.Test.YtbkadgdhmfolaaaLy1
namespace Go.Proofs.Ytbkadgdhmfolaaa
open Go Go.RowKit

theorem load_blk2 {w : World} {g t : Nat} {cs : List Value} {i j : Nat} {v : Value} {K : Value → Prop} (h : Blk w g t cs) (hv : cs[i + j]? = some v) (k : K v) : Load w (((⟨g, 0, none⟩ : Addr).add i).add j) K := by
  rw [add_add]; exact load_blk h hv k

/-- A cost and the choices that lead to it (true: flat). -/
structure Rs where
  b : Nat
  l : Nat
  c : List Bool
def chB (c : List Bool) : List Nat := c.map fun b => if b then 0 else 1
def rsV (r : Rs) : Value := .agg #[.int .i64 r.b, .int .i64 r.l, .string (strOf (chB r.c))]
def lessC (x y : List Bool) : Bool := Op.bytesLess (strOf (chB x)).data.toList (strOf (chB y)).data.toList
def lessR (x y : Rs) : Bool := if x.b ≠ y.b then decide (x.b < y.b) else if x.l ≠ y.l then decide (x.l < y.l) else lessC x.c y.c

theorem less_fn (x y : Rs) (w : World) : Fn Try.prog 53 [rsV x, rsV y] w (fun v w' => v = .bool (lessR x y) ∧ Ext w w') := by
  refine fn_of_exec (c := c53) gx_ok Try.func53 rfl rfl rfl ?_
  refine new (fun w1 hE1 hz1 hB1 => ?_)
  refine new (fun w2 hE2 hz2 hB2 => ?_)
  have hA := hB1.ext hE2
  have hE := hE1.trans hE2
  refine load_blk2 hA rfl ?_
  refine load_blk2 hB2 rfl ?_
  refine wif_ne (fun h1 => ?_) (fun h1 => ?_)
  · refine load_blk2 hA rfl ?_
    refine load_blk2 hB2 rfl ?_
    refine ⟨?_, hE⟩
    unfold lessR
    rw [if_pos (by omega)]
    congr 1
    exact decide_eq_decide.2 (by omega)
  refine load_blk2 hA rfl ?_
  refine load_blk2 hB2 rfl ?_
  refine wif_ne (fun h2 => ?_) (fun h2 => ?_)
  · refine load_blk2 hA rfl ?_
    refine load_blk2 hB2 rfl ?_
    refine ⟨?_, hE⟩
    unfold lessR
    rw [if_neg (by omega), if_pos (by omega)]
    congr 1
    exact decide_eq_decide.2 (by omega)
  refine load_blk hA rfl ?_
  refine load_blk hB2 rfl ?_
  refine ⟨?_, hE⟩
  unfold lessR
  rw [if_neg (by omega), if_neg (by omega)]
  rfl

/-! ### Keys -/
theorem eqStruct {P : Program} {t : TypeId} {fs : Array Field} {ks : List Nat} {xs ys : Array Value} {b : Bool} {w : World} (hu : P.underlying t = some (.struct fs)) (hh : P.stoodInHeld t = false) (hf : fieldsB P 0 fs.toList ks = true) (h : eqCells ks xs.toList ys.toList = some b) (n : Nat) :
    (Op.equalIn (n + 2) t (.agg xs) (.agg ys)).run P w = .ok b w := by
  have hf2 : P.fieldsOf t = fs := by simp [Program.fieldsOf, hu]
  rw [run_equalIn_struct w (n + 1) t xs ys (by rw [hf2]; exact hu) hh, hf2]
  exact eqCells_fields fs.toList ks 0 _ _ b hf h (fun j => by simp) (fun j => by simp) n w

theorem k3 : kindD (Try.prog.underlying 3) < 3 := by rw [Try.underlying3]; decide
theorem k4 : kindD (Try.prog.underlying 4) < 3 := by rw [Try.underlying4]; decide
theorem plEq (a b : Pl) (n : Nat) (w : World) : (Op.equalIn (n + 2) 94 (plV a) (plV b)).run Try.prog w = .ok (decide (a = b)) w := by
  refine eqStruct (ks := [0, 2]) Try.underlying94 (by kernel_rfl) (by kernel_rfl) ?_ n
  obtain ⟨a1, a2⟩ := a
  obtain ⟨b1, b2⟩ := b
  simp [eqCells]
  by_cases h : a1 = b1
  · subst h; cases a2 <;> cases b2 <;> simp
  · have : ¬ ((a1 : Nat) : Int) = b1 := by omega
    simp [h, this]
theorem plCheck (b : Bool) (a : Pl) (n : Nat) (w : World) : (Instr.checkKey b (n + 2) 94 (plV a)).run Try.prog w = .ok () w := by
  simp [Instr.checkKey, run_underlying Try.underlying94, plV, part_one k3 (cs := #[Value.int IntKind.i64 ↑a.fst, Value.bool a.snd]) (n := 0) rfl, part_one k4 (cs := #[Value.int IntKind.i64 ↑a.fst, Value.bool a.snd]) (n := 1) rfl]

theorem plKey : KeyQ Try.prog 94 plV :=
  KeyQ.asking Try.underlying94 (fun a b w => plEq a b 9998 w) (fun b a w => plCheck b a 9998 w) (fun a => by simp [plV, Instr.sameBits])

/-- How a node is entered. -/
abbrev Sta := Nat × Nat × Pl
def staV (s : Sta) : Value := .agg #[.int .i64 s.1, .int .i64 s.2.1, .int .i64 s.2.2.1, .bool s.2.2.2]
theorem fieldsOf_of {P : Program} {t : TypeId} {fs : Array Field} (hu : P.underlying t = some (.struct fs)) : P.fieldsOf t = fs := by simp [Program.fieldsOf, hu]
theorem partPl (x y z : Nat) (q : Bool) (w : World) : (part 94 #[Value.int .i64 x, .int .i64 y, .int .i64 z, .bool q] 2).run Try.prog w = .ok (plV (z, q)) w := by
  have h1 : (isAgg 94).run Try.prog w = .ok true w := by
    have h := run_isAgg (c := c53) (t := 94) gx_ok rfl w
    exact h
  have h2 : (sizeOf 94).run Try.prog w = .ok 2 w := by
    have h := run_sizeOf (c := c53) (t := 94) gx_ok rfl w
    exact h
  simp [part, h1, plV]
theorem partI0 (x y z : Nat) (q : Bool) (w : World) : (part 3 #[Value.int .i64 x, .int .i64 y, .int .i64 z, .bool q] 0).run Try.prog w = .ok (.int .i64 x) w := part_one k3 rfl w
theorem partI1 (x y z : Nat) (q : Bool) (w : World) : (part 3 #[Value.int .i64 x, .int .i64 y, .int .i64 z, .bool q] 1).run Try.prog w = .ok (.int .i64 y) w := part_one k3 rfl w
theorem intEq (a b : Nat) (n : Nat) (w : World) : (Op.equalIn (n + 1) 3 (.int .i64 a) (.int .i64 b)).run Try.prog w = .ok (decide (a = b)) w := by
  simp [Op.equalIn, run_underlying Try.underlying3]
  by_cases h : a = b
  · simp [h]
  · have : ¬ ((a : Nat) : Int) = b := by omega
    simp [h, this]
theorem staEq (a b : Sta) (n : Nat) (w : World) : (Op.equalIn (n + 3) 96 (staV a) (staV b)).run Try.prog w = .ok (decide (a = b)) w := by
  have hu := Try.underlying96
  unfold staV
  rw [run_equalIn_struct w (n + 2) 96 _ _ (by rw [fieldsOf_of hu]; exact hu) (by kernel_rfl), fieldsOf_of hu]
  obtain ⟨a1, a2, a3⟩ := a
  obtain ⟨b1, b2, b3⟩ := b
  simp only [Op.eqFields, ne_eq, String.reduceEq, not_false_eq_true, if_true, Sem.run_bind, partI0, Result.andThen_ok, intEq]
  by_cases h1 : a1 = b1
  · subst h1
    by_cases h2 : a2 = b2
    · subst h2
      by_cases h3 : a3 = b3
      · subst h3; simp [partI1, partPl, intEq, plEq]
      · simp [partI1, partPl, intEq, plEq, h3]
    · simp [partI1, intEq, h2]
  · simp [h1]
theorem staCheck (b : Bool) (a : Sta) (n : Nat) (w : World) : (Instr.checkKey b (n + 3) 96 (staV a)).run Try.prog w = .ok () w := by
  have hi : ∀ (x : Nat) (w : World), (Instr.checkKey b (n + 2) 3 (.int .i64 x)).run Try.prog w = .ok () w := fun x w => by
    simp [Instr.checkKey, run_underlying Try.underlying3]
  rw [Instr.checkKey]
  simp only [Sem.run_bind, run_underlying Try.underlying96, staV, Result.andThen_ok]
  simp [partPl, partI0, partI1, hi, plCheck]
theorem staKey : KeyQ Try.prog 96 staV :=
  KeyQ.asking Try.underlying96 (fun a b w => staEq a b 9997 w) (fun b a w => staCheck b a 9997 w) (fun a => by simp [staV, Instr.sameBits])
end Go.Proofs.Ytbkadgdhmfolaaa
