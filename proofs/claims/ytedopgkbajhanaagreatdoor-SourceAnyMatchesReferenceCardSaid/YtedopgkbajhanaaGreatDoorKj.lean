/-
  Equal formulas (the reference's Same); Xor of diagrams.
  The example of the chapter, as the laws evaluate it first.
  The example of the chapter: the walk.
  Conditions: none.
-/
import Derived.Test.YtedopgkbajhanaaGreatDoorKi
import Derived.Test.YtedopgkbajhanaaGreatDoorKf
namespace Go.Proofs.YtedopgkbajhanaaGreatDoor
section
open Go Go.RowKit

theorem fz_eq {x y : Fz} : x = y ↔ x.o = y.o ∧ x.v = y.v ∧ x.a = y.a ∧ x.b = y.b := by
  constructor
  · rintro rfl; exact ⟨rfl, rfl, rfl, rfl⟩
  · obtain ⟨a, b, c, d⟩ := x; obtain ⟨a', b', c', d'⟩ := y
    simp only
    rintro ⟨rfl, rfl, rfl, rfl⟩; rfl

theorem dg_wrap {w1 w2 w : World} {g : Nat} {r : (List Br × Int) × Int} {A : Option Addr} {n c : Nat} (hE : Ext w w1) (hM : Mod (· = g) w1 w2) (hg : w.heap.size ≤ g) (hs : SB w1 A n c r.1.1) (hr : ∀ i, rowS A i → g < i) :
    Ext w w2 ∧ SB w2 A n c r.1.1 ∧ ∀ i, rowS A i → w.heap.size ≤ i :=
  ⟨hM.ext hE (fun i hi => by omega), ⟨hs.1.modS hM (fun _ i hi e => by have := hr i hi; omega), hs.2⟩, fun i hi => by have := hr i hi; omega⟩

end

section
open Go Go.RowKit

def nm3 : List (List Nat) := [[65], [66], [67]]
theorem namesOk_of {names : List (List Nat)} (h : names.all (fun s => s.all (fun x => decide (x < 256)) && decide (s.length ≤ 100)) = true) : NamesOk names := fun s hs => by
  have := List.all_eq_true.1 h s hs
  rw [Bool.and_eq_true, decide_eq_true_eq] at this
  exact ⟨fun x hx => by have := List.all_eq_true.1 this.1 x hx; simpa using this, by omega⟩
theorem nm3_b : NamesOk nm3 := namesOk_of (by decide)
theorem nm3_ok : numsOk nm3 = true := (numsOk_iff nm3_b).2 (by decide)
theorem parse_some {nm : List (List Nat)} (hn : numsOk nm = true) {s : List Nat} {ts : List (List Nat)} {t : Fm} {u : Bool} (h1 : lexA s = (ts, true)) (h2 : wholeT (ixN nm) (s.length + 1) ts = some (t, u, [])) : parseP nm s = if u then ([], 3) else if 512 < szF t then ([], 2) else (postF t 0, 0) := by
  rw [parse_tok]; unfold parseK
  rw [if_pos hn, h1]
  simp only
  rw [if_pos trivial, h2]
  simp only
  rw [if_neg (c := ([] : List (List Nat)) ≠ []) (fun h => h rfl)]
theorem parse_none {nm : List (List Nat)} (hn : numsOk nm = true) {s : List Nat} {ts : List (List Nat)} (h1 : lexA s = (ts, true)) (h2 : wholeT (ixN nm) (s.length + 1) ts = none) : parseP nm s = ([], 31) := by
  rw [parse_tok]; unfold parseK
  rw [if_pos hn, h1]
  simp only
  rw [if_pos trivial, h2]

def sa_t1 : Fm := .and (.not (.v 0)) (.v 1)
def sa_t2 : Fm := .and (.v 0) (.and (.v 1) (.v 2))
def sa_t3 : Fm := .or (.and (.v 0) (.not (.v 1))) (.and (.not (.v 0)) (.v 1))
theorem sa_p1 : parseP nm3 [33, 65, 32, 38, 38, 32, 66] = (postF sa_t1 0, 0) := parse_print nm3_ok (nmOk_of nm3_b nm3_ok) sa_t1 (by decide) (by decide)
theorem sa_r1 : printP nm3 (postF sa_t1 0) = ([33, 65, 32, 38, 38, 32, 66], 0) := print_post nm3_ok (by decide) (by decide) (by decide)
theorem sa_p2 : parseP nm3 [65, 32, 38, 38] = ([], 31) := parse_none (ts := [[65], [38, 38]]) nm3_ok rfl rfl
theorem sa_p3 : parseP nm3 [65, 32, 38, 38, 32, 68] = ([], 3) := parse_some (ts := [[65], [38, 38], [68]]) (t := .and (.v 0) (.v 0)) (u := true) nm3_ok rfl rfl
theorem sa_r2 : printP nm3 (postF sa_t2 0) = ([65, 32, 38, 38, 32, 40, 66, 32, 38, 38, 32, 67, 41], 0) := print_post nm3_ok (by decide) (by decide) (by decide)

theorem rd0_var {k : Int} (h0 : 0 ≤ k) (h1 : k ≤ 63) : Rd0 [⟨k, 0, 1⟩] := fun j b hb => by
  obtain ⟨rfl, rfl⟩ := one_cases hb
  refine ⟨h0, h1, Int.le_refl 0, ?_, (by decide : (0 : Int) ≤ 1), ?_, (by decide : (0 : Int) ≠ 1), by simp, ?_, ?_⟩
  · simp only; omega
  · simp only; omega
  · rw [lvl_one (by simp only; omega)]; simp only; omega
  · rw [lvl_one (by simp only; omega)]; simp only; omega
theorem vd_var {k : Int} (h0 : 0 ≤ k) (h1 : k ≤ 63) : VD [⟨k, 0, 1⟩] 2 := ⟨rd0_var h0 h1, by decide, by simp, rfl⟩
def sa_x : List Br := [⟨1, 0, 1⟩, ⟨1, 1, 0⟩, ⟨0, 2, 3⟩]
theorem sa_c : combD [⟨0, 0, 1⟩] 2 [⟨1, 0, 1⟩] 2 2 = (sa_x, 4) := by decide
theorem sa_op : opD [⟨0, 0, 1⟩] 2 [⟨1, 0, 1⟩] 2 2 = ((sa_x, 4), 0) := by
  have e1 : chkD [⟨0, 0, 1⟩] 2 = 0 := chkD_ok (by decide) (vd_var (by decide) (by decide))
  have e2 : chkD [⟨1, 0, 1⟩] 2 = 0 := chkD_ok (by decide) (vd_var (by decide) (by decide))
  unfold opD
  rw [if_neg (fun h => h e1), if_neg (fun h => h e2), sa_c]; rfl
theorem sa_vd : VD sa_x 4 := by
  have := (comb_vd (vd_var (k := 0) (by decide) (by decide)) (vd_var (k := 1) (by decide) (by decide)) 2).1
  rw [sa_c] at this; exact this
theorem sa_of : ofP sa_x 4 = (postF sa_t3 0, 0) := by
  have e1 : chkD sa_x 4 = 0 := chkD_ok (by decide) sa_vd
  unfold ofP
  rw [if_pos e1, show bldC sa_x ((4 : Int).toNat + 1) 4 [] = (8, postF sa_t3 0) by decide]
  rfl
theorem sa_tx : textP nm3 sa_x 4 = ([65, 32, 38, 38, 32, 33, 66, 32, 124, 124, 32, 33, 65, 32, 38, 38, 32, 66], 0) := by
  unfold textP
  rw [if_pos nm3_ok, sa_of]
  simp only
  rw [if_pos trivial]
  exact print_post nm3_ok (by decide) (by decide) (by decide)
theorem sa_ck : chkF (postF sa_t1 0) = 0 := chkF_ok (post_FV (by decide) (by decide))
theorem sa_cn : chkF [] = 30 := chkF_no (fun h => by have := h.2.1; simp at this)
end

section
open Go Go.RowKit

end
end Go.Proofs.YtedopgkbajhanaaGreatDoor
