/-
  The program's operations on diagrams: the memo's keys; the closure of combine.
  Conditions: none.
-/
import Derived.Test.YtedopgkbajhanaaGreatDoorDa
import Derived.ChangeKeysEq
namespace Go.Proofs.YtedopgkbajhanaaGreatDoor
open Go Go.RowKit

/-! ### Keys that are arrays -/
theorem KeyQ.askingA {α : Type} [DecidableEq α] {P : Program} {ke : Nat} {kv : α → Value} {len elem : Nat} (hu : P.underlying ke = some (.array len elem))
    (heq : ∀ (a b : α) (w : World), (Op.equal ke (kv a) (kv b)).run P w = .ok (decide (a = b)) w) (hc : ∀ b a w, (Instr.checkKey b 10000 ke (kv a)).run P w = .ok () w) (hb : ∀ a, Instr.sameBits 10000 (kv a) (kv a) = true) : KeyQ P ke kv := by
  refine ⟨fun a m bs w hl => ?_, hc, hb⟩
  have key := findAsking_ents (P := P) (ke := ke) (kv := kv) a w (fun b => heq a b w) m bs 0 hl
  obtain ⟨r, h1, h2, h3, h4⟩ := key
  refine ⟨r, ?_, h2, fun j v hj v' => by simpa using (h3 j v hj).2 v', h4⟩
  unfold Instr.findKey
  simp only [Sem.run_bind, run_underlying hu, Result.andThen_ok]
  cases m with
  | nil =>
    simp only [entsOf, List.zip_nil_left, List.map_nil, Instr.findNow, Sem.run_pure]
    simp [entsOf, Instr.findAsking] at h1
    rw [h1]
  | cons p m =>
    cases bs with
    | nil => simp at hl
    | cons s bs =>
      have e : entsOf kv (p :: m) (s :: bs) = { key := kv p.1, val := p.2, born := s } :: entsOf kv m bs := rfl
      rw [e] at h1 ⊢
      have hn : Instr.findNow (.array len elem) (kv a) ({ key := kv p.1, val := p.2, born := s } :: entsOf kv m bs) 0 = none := by
        simp [Instr.findNow, Instr.sameNow]
      rw [hn]
      exact h1
abbrev I3 := Int × Int × Int
abbrev i3C (t : I3) : List Value := [.int .i64 t.1, .int .i64 t.2.1, .int .i64 t.2.2]
abbrev i3K : I3 → Value := fun t => .agg #[.int .i64 t.1, .int .i64 t.2.1, .int .i64 t.2.2]
theorem ci1 : Tryz.prog.cellsOf 3 = 1 := by kernel_rfl
theorem intEq (a b : Int) (n : Nat) (w : World) : (Op.equalIn (n + 1) 3 (.int .i64 a) (.int .i64 b)).run Tryz.prog w = .ok (a == b) w := by
  simp [Op.equalIn, run_underlying Tryz.underlying3]
theorem i3Eq (a b : I3) (n : Nat) (w : World) : (Op.equalIn (n + 2) 199 (i3K a) (i3K b)).run Tryz.prog w = .ok (decide (a = b)) w := by
  obtain ⟨i, hi⟩ := Option.isSome_iff_exists.1 (show (Tryz.prog.info? 3).isSome = true by kernel_rfl)
  obtain ⟨a0, a1, a2⟩ := a
  obtain ⟨b0, b1, b2⟩ := b
  have e := run_equalIn_array (w := w) (n + 1) #[.int .i64 a0, .int .i64 a1, .int .i64 a2] #[.int .i64 b0, .int .i64 b1, .int .i64 b2] Tryz.underlying199 hi
  rw [ci1, show List.range 3 = [0, 1, 2] from rfl] at e
  refine e.trans ?_
  have p0 : ∀ x y z : Int, (part 3 #[Value.int .i64 x, .int .i64 y, .int .i64 z] (0 * 1)).run Tryz.prog w = .ok (.int .i64 x) w := fun x y z => part_one k3 rfl w
  have p1 : ∀ x y z : Int, (part 3 #[Value.int .i64 x, .int .i64 y, .int .i64 z] (1 * 1)).run Tryz.prog w = .ok (.int .i64 y) w := fun x y z => part_one k3 rfl w
  have p2 : ∀ x y z : Int, (part 3 #[Value.int .i64 x, .int .i64 y, .int .i64 z] (2 * 1)).run Tryz.prog w = .ok (.int .i64 z) w := fun x y z => part_one k3 rfl w
  have dd : decide ((a0, a1, a2) = (b0, b1, b2)) = (a0 == b0 && (a1 == b1 && a2 == b2)) := by
    by_cases h0 : a0 = b0 <;> by_cases h1 : a1 = b1 <;> by_cases h2 : a2 = b2 <;> simp [h0, h1, h2]
  rw [dd]
  simp only [Op.eqItems, Sem.run_bind, p0, Result.andThen_ok, intEq]
  cases h0 : a0 == b0 with
  | false => simp
  | true =>
    simp only [Bool.not_true, Bool.false_eq_true, if_false, Sem.run_bind, p1, Result.andThen_ok, intEq, Bool.true_and]
    cases h1 : a1 == b1 with
    | false => simp
    | true =>
      simp only [Bool.not_true, Bool.false_eq_true, if_false, Sem.run_bind, p2, Result.andThen_ok, intEq, Bool.true_and]
      cases h2 : a2 == b2 <;> simp
theorem i3Check (b : Bool) (a : I3) (n : Nat) (w : World) : (Instr.checkKey b (n + 2) 199 (i3K a)).run Tryz.prog w = .ok () w := by
  obtain ⟨i, hi⟩ := Option.isSome_iff_exists.1 (show (Tryz.prog.info? 3).isSome = true by kernel_rfl)
  have p0 : ∀ x y z : Int, (part 3 #[Value.int .i64 x, .int .i64 y, .int .i64 z] 0).run Tryz.prog w = .ok (.int .i64 x) w := fun x y z => part_one k3 rfl w
  have p1 : ∀ x y z : Int, (part 3 #[Value.int .i64 x, .int .i64 y, .int .i64 z] 1).run Tryz.prog w = .ok (.int .i64 y) w := fun x y z => part_one k3 rfl w
  have p2 : ∀ x y z : Int, (part 3 #[Value.int .i64 x, .int .i64 y, .int .i64 z] 2).run Tryz.prog w = .ok (.int .i64 z) w := fun x y z => part_one k3 rfl w
  have hz : (sizeOf 3).run Tryz.prog w = .ok 1 w := by rw [← ci1]; exact Go.run_sizeOf w hi
  simp [Instr.checkKey, run_underlying Tryz.underlying199, run_underlying Tryz.underlying3, hz, p0, p1, p2, Std.Legacy.Range.forIn_eq_forIn_range', Std.Legacy.Range.size, List.range'_succ]
theorem i3Key : KeyQ Tryz.prog 199 i3K :=
  KeyQ.askingA Tryz.underlying199 (fun a b w => i3Eq a b 9998 w) (fun b a w => i3Check b a 9998 w) (fun a => by simp [Instr.sameBits])
end Go.Proofs.YtedopgkbajhanaaGreatDoor
