/-
  The reference's operands, Postorder, Letters. (Printed by pogen.py.)
  Conditions: none.
-/
import Derived.Test.YtedopgkbajhanaaGreatDoorKk
namespace Go.Proofs.YtedopgkbajhanaaGreatDoor
open Go Go.RowKit

theorem operands_fn (o : Int) (w : World) : Fn Tryz.prog 177 [.int .i64 o] w (fun v w' => v = .int .i64 (fAr o) ∧ w = w') := by
  refine fn_of_exec (c := c177) gx_ok Tryz.func177 rfl rfl rfl ?_
  unfold fAr
  refine wif_eq (fun h0 => ?_) (fun h0 => ?_)
  · exact ⟨by rw [if_pos (.inl h0)], rfl⟩
  refine wif_eq (fun h1 => ?_) (fun h1 => ?_)
  · exact ⟨by rw [if_pos (.inr (.inl h1))], rfl⟩
  refine wif_eq (fun h2 => ?_) (fun h2 => ?_)
  · exact ⟨by rw [if_pos (.inr (.inr h2))], rfl⟩
  rw [if_neg (fun h => h.elim h0 (fun h => h.elim h1 h2))]
  refine wif_eq (fun h3 => ?_) (fun h3 => ?_)
  · exact ⟨by rw [if_pos h3], rfl⟩
  rw [if_neg h3]
  refine wif_eq (fun h4 => ?_) (fun h4 => ?_)
  · exact ⟨by rw [if_pos (.inl h4)], rfl⟩
  refine wif_eq (fun h5 => ?_) (fun h5 => ?_)
  · exact ⟨by rw [if_pos (.inr h5)], rfl⟩
  exact ⟨by rw [if_neg (fun h => h.elim h4 h5)], rfl⟩

/-- The nodes so far, and what was appended. -/
def CpTo (base : Nat) (w : World) (A : Option Addr) (out : List Fz) (v : Value) (w' : World) : Prop := ∃ A' c', v = .slice A' out.length c' ∧ Own w' base 205 4 A' out.length c' (fzV out) ∧ Mod (rowS A) w w' ∧ Moved w A A'
def letters12 : List (List Nat) := [[65], [66], [67], [68], [108, 111, 110, 103, 95, 110, 97, 109, 101], [95], [120, 49], [84, 82, 85, 69], [116], [102], [116, 114, 117], [102, 97, 108, 115, 101, 101]]
theorem letters_fn (k : Nat) (w : World) (hk : k ≤ 12) :
    Fn Tryz.prog 14 [.int .i64 k] w (fun v w' => ∃ A c, v = .slice A k c ∧ Ext w w' ∧ Sl w' 1 A k c (strsV (letters12.take k))) := by
  refine fn_of_exec (c := { c14 with cuts := [] }) gx_ok Tryz.func14 rfl rfl rfl ?_
  refine at_buildN gx_ok (letters12.map (fun s => [.string (strOf s)])) rfl rfl rfl rfl rfl ⟨rfl, rfl, rfl, rfl, rfl, rfl, rfl, rfl, rfl, rfl, rfl, rfl, rfl, rfl, rfl, rfl, rfl, rfl, rfl, rfl, rfl, rfl, rfl, rfl, ⟨⟩⟩ rfl (fun cs h => by simp only [List.mem_map] at h; obtain ⟨s, _, rfl⟩ := h; rfl) rfl (by decide) (by decide) ?_
  intro w1 hE1 hz1 hB1
  refine at_slice_h gx_ok rfl rfl rfl rfl rfl rfl hk ?_
  have hS : Sl w1 1 (some ⟨w.heap.size, 0, none⟩) 12 12 (strsV letters12) := Sl.own' (n := 12) hB1 rfl (by decide)
  have := hS.take (m := k) hk
  rw [Nat.mul_one] at this
  exact ⟨_, 12, rfl, hE1, by rw [show strsV (letters12.take k) = (strsV letters12).take k by simp [strsV]]; exact this⟩
theorem letters_ok (k : Nat) (hk : k ≤ 12) : NamesOk (letters12.take k) ∧ numsOk (letters12.take k) = true ∧ (letters12.take k).length = k := by
  have hb : NamesOk letters12 := namesOk_of (by decide)
  have hb' : NamesOk (letters12.take k) := fun s hs => hb s (List.mem_of_mem_take hs)
  have hl : (letters12.take k).length = k := by rw [List.length_take]; show min k 12 = k; omega
  refine ⟨hb', (numsOk_iff hb').2 ⟨?_, List.Nodup.sublist (List.take_sublist k letters12) (by decide), by omega⟩, hl⟩
  have : letters12.all nameOk = true := by decide
  exact List.all_eq_true.2 (fun s hs => List.all_eq_true.1 this s (List.mem_of_mem_take hs))
end Go.Proofs.YtedopgkbajhanaaGreatDoor
