/-
  The reference's node, Check.
  Conditions: none.
-/
import Derived.Test.YtedopgkbajhanaaGreatDoorPo
namespace Go.Proofs.YtedopgkbajhanaaGreatDoor
open Go Go.RowKit

theorem rnode_fn (x : Fz) (i : Nat) (w : World) : Fn Tryz.prog 176 [.agg x.cells.toArray, .int .i64 i] w (fun v w' => v = .bool (decide (fzP x i)) ∧ Ext w w') := by
  refine fn_of_exec (c := { c176 with cuts := [2, 4] }) gx_ok Tryz.func176 rfl rfl rfl ?_
  refine new (fun w1 hE1 hz1 hB1 => ?_)
  replace hB1 : Blk w1 w.heap.size 205 x.cells := hB1
  refine load_blk0 hB1 rfl ?_
  refine call (operands_fn x.o w1) ?_
  rintro _ _ ⟨rfl, rfl⟩
  have no : ¬ fzP x i → (Value.bool false = .bool (decide (fzP x i))) ∧ Ext w w1 := fun h => ⟨by rw [decide_eq_false h], hE1⟩
  have hk := fAr_cases x.o
  refine cutIn [] gx_ok [] (fun _ : Unit => []) (fun _ w' => w1 = w' ∧ 0 ≤ fAr x.o ∧ (if x.o = 2 then 0 ≤ x.v ∧ x.v < 64 else x.v = 0)) ?_ ?_
  · refine wif_d (fun a1 => ?_) (fun a1 => ?_)
    · exact no (fun h => by have := h.1; omega)
    refine load_blk0 hB1 rfl ?_
    refine wif_ne (fun a2 => ?_) (fun a2 => ?_)
    · refine load_blk hB1 rfl ?_
      refine wif_ne (fun a3 => ?_) (fun a3 => ?_)
      · exact no (fun h => by have := h.2.1; rw [if_neg a2] at this; exact a3 this)
      refine load_blk hB1 rfl ?_
      refine wif_df (by omega) ?_
      refine load_blk hB1 rfl ?_
      refine wif_df (by omega) ?_
      exact ⟨(), rfl, rfl, by omega, by rw [if_neg a2]; exact a3⟩
    · refine load_blk hB1 rfl ?_
      refine wif_d (fun a3 => ?_) (fun a3 => ?_)
      · exact no (fun h => by have := h.2.1; rw [if_pos a2] at this; omega)
      refine load_blk hB1 rfl ?_
      refine wif_d (fun a4 => ?_) (fun a4 => ?_)
      · exact no (fun h => by have := h.2.1; rw [if_pos a2] at this; omega)
      exact ⟨(), rfl, rfl, by omega, by rw [if_pos a2]; omega⟩
  rintro ⟨⟩ _ ⟨rfl, h0, hv⟩
  refine cutIn [] gx_ok [] (fun _ : Unit => []) (fun _ w' => w1 = w' ∧ (fAr x.o ≤ 0 → x.a = 0) ∧ (fAr x.o ≤ 1 → x.b = 0)) ?_ ?_
  · refine wif_d (fun a1 => ?_) (fun a1 => ?_)
    · refine load_blk hB1 rfl ?_
      refine wif_ne (fun a2 => ?_) (fun a2 => ?_)
      · exact no (fun h => by have := h.2.2.1; rw [if_neg (by omega)] at this; exact a2 this)
      refine wif_dt (show fAr x.o < 2 by omega) ?_
      refine load_blk hB1 rfl ?_
      refine wif_ne (fun a3 => ?_) (fun a3 => ?_)
      · exact no (fun h => by have := h.2.2.2; rw [if_neg (by omega)] at this; exact a3 this)
      exact ⟨(), rfl, rfl, fun _ => a2, fun _ => a3⟩
    · refine wif_d (fun a2 => ?_) (fun a2 => ?_)
      · refine load_blk hB1 rfl ?_
        refine wif_ne (fun a3 => ?_) (fun a3 => ?_)
        · exact no (fun h => by have := h.2.2.2; rw [if_neg (by omega)] at this; exact a3 this)
        exact ⟨(), rfl, rfl, fun h => by omega, fun _ => a3⟩
      · exact ⟨(), rfl, rfl, fun h => by omega, fun h => by omega⟩
  rintro ⟨⟩ _ ⟨rfl, ha, hb⟩
  have yes : fzP x i → (Value.bool true = .bool (decide (fzP x i))) ∧ Ext w w1 := fun h => ⟨by rw [decide_eq_true h], hE1⟩
  refine wif_d (fun a1 => ?_) (fun a1 => ?_)
  · refine load_blk hB1 rfl ?_
    refine wif_d (fun a2 => ?_) (fun a2 => ?_)
    · exact no (fun h => by have := h.2.2.1; rw [if_pos (by omega)] at this; omega)
    refine load_blk hB1 rfl ?_
    refine wif_d (fun a3 => ?_) (fun a3 => ?_)
    · exact no (fun h => by have := h.2.2.1; rw [if_pos (by omega)] at this; omega)
    refine wif_d (fun a4 => ?_) (fun a4 => ?_)
    · refine load_blk hB1 rfl ?_
      refine wif_d (fun a5 => ?_) (fun a5 => ?_)
      · exact no (fun h => by have := h.2.2.2; rw [if_pos (by omega)] at this; omega)
      refine load_blk hB1 rfl ?_
      refine wif_d (fun a6 => ?_) (fun a6 => ?_)
      · exact no (fun h => by have := h.2.2.2; rw [if_pos (by omega)] at this; omega)
      exact yes ⟨h0, hv, by rw [if_pos (by omega)]; omega, by rw [if_pos (by omega)]; omega⟩
    · exact yes ⟨h0, hv, by rw [if_pos (by omega)]; omega, by rw [if_neg (by omega)]; exact hb (by omega)⟩
  · refine wif_df (show ¬ fAr x.o > 1 by omega) ?_
    exact yes ⟨h0, hv, by rw [if_neg (by omega)]; exact ha (by omega), by rw [if_neg (by omega)]; exact hb (by omega)⟩
end Go.Proofs.YtedopgkbajhanaaGreatDoor
