/-
  The limbs' functions at numbers: what they answer for limbs that stand for numbers small enough.
  Conditions: none.
-/
import Derived.Test.YtpalpikenkkhlaaT12
namespace Go.Proofs.Ytpalpikenkkhlaa
open Go Go.RowKit

/-- A slice whose limbs are those of the number x. -/
abbrev NV (w : World) (A : Option Addr) (c x : Nat) : Prop := SN w A (toL x).length c (toL x)

/-- x has at most k limbs. -/
abbrev Lt (k x : Nat) : Prop := x < 4294967296 ^ k

theorem lt_up {i k x : Nat} (h : Lt i x) (hik : i ≤ k) : Lt k x := Nat.lt_of_lt_of_le h (pow_le_pow hik)
theorem lt_add {i j k x y : Nat} (hx : Lt i x) (hy : Lt j y) (h : max i j < k) : Lt k (x + y) := by
  have h1 : x < 4294967296 ^ (max i j) := lt_up hx (Nat.le_max_left _ _)
  have h2 : y < 4294967296 ^ (max i j) := lt_up hy (Nat.le_max_right _ _)
  refine lt_up (i := max i j + 1) ?_ h
  unfold Lt
  rw [Nat.pow_succ]; omega
theorem lt_mul {i j k x y : Nat} (hx : Lt i x) (hy : Lt j y) (h : i + j ≤ k) : Lt k (x * y) := by
  refine lt_up (i := i + j) ?_ h
  unfold Lt
  rw [Nat.pow_add]
  exact Nat.mul_lt_mul'' hx hy
theorem lt_le {k x y : Nat} (hy : Lt k y) (h : x ≤ y) : Lt k x := Nat.lt_of_le_of_lt h hy
theorem lt_len {k x : Nat} (h : Lt k x) : (toL x).length ≤ k := (toL_len x k).2 h
theorem lt_vd {k x : Nat} (h : Lt k x) (hk : k ≤ 1024) : Vd (toL x) := ⟨Nat.le_trans (lt_len h) hk, toL_last x⟩
theorem lt_resL {k x : Nat} (h : Lt k x) (hk : k ≤ 1024) : resL x = toL x := resL_of (lt_len (lt_up h hk))
theorem lt_resE {k x : Nat} (h : Lt k x) (hk : k ≤ 1024) : resE x = 0 := resE_of (lt_len (lt_up h hk))
theorem toL_inj {x y : Nat} (h : toL x = toL y) : x = y := by rw [← val_toL x, h, val_toL]
theorem toL_eq {x y : Nat} : toL x = toL y ↔ x = y := ⟨toL_inj, fun h => by rw [h]⟩
theorem len_zero {x : Nat} : (toL x).length = 0 ↔ x = 0 := by
  rw [List.length_eq_zero_iff]; exact toL_eq_nil
theorem toL_one : toL 1 = [1] := rfl

theorem cmpN_neg {x y : Nat} : cmpN x y < 0 ↔ x < y := by unfold cmpN; split <;> (try split) <;> omega
theorem cmpN_range (x y : Nat) : -1 ≤ cmpN x y ∧ cmpN x y ≤ 1 := by unfold cmpN; split <;> (try split) <;> omega
theorem cmpN_swap (x y : Nat) : IntKind.i64.wrap (0 - cmpN y x) = cmpN x y := by
  have h1 : IntKind.i64.wrap (0 - cmpN y x) = 0 - cmpN y x := IntWalk.i64_in _ (by have := cmpN_range y x; omega)
  rw [h1]; unfold cmpN
  split <;> (try split) <;> (try split) <;> omega
theorem cmpN_zero {x y : Nat} : cmpN x y = 0 ↔ x = y := by unfold cmpN; split <;> (try split) <;> omega
theorem cmpN_same (x y : Nat) : (!((cmpN x y == 0) == decide (x = y))) = false := by
  have := @cmpN_zero x y
  by_cases h : x = y
  · simp [h, cmpN]
  · have h2 : cmpN x y ≠ 0 := fun e => h (this.1 e)
    simp [h, h2]
theorem cmpN_le {x y : Nat} : cmpN x y ≤ 0 ↔ x ≤ y := by unfold cmpN; split <;> (try split) <;> omega
theorem cmpN_trans {x y z : Nat} (h1 : cmpN x y ≤ 0) (h2 : cmpN y z ≤ 0) : cmpN x z ≤ 0 := by rw [cmpN_le] at *; omega
theorem cmpN_add (x y z : Nat) : cmpN (x + z) (y + z) = cmpN x y := by unfold cmpN; simp
theorem cmpN_mul (x y : Nat) {z : Nat} (hz : 0 < z) : cmpN (x * z) (y * z) = cmpN x y := by
  unfold cmpN
  simp [Nat.mul_lt_mul_right hz]

theorem nv_zero (w : World) : NV w none 0 0 := Sl.nil w 1

theorem sanityN (w : World) : Fn Try.prog 14 [] w (fun v w' => v = .bool true ∧ Ext w w') := sanity_fn w

theorem madeN (A : Option Addr) (n c : Nat) (l : List Nat) (k : Nat) (w : World) (h : SN w A n c l) (hL : Limbs l) (hk : k ≤ 1000000) :
    Fn Try.prog 21 [.slice A n c, .int .i64 k] w (fun v w' => ∃ A c x, v = .slice A (toL x).length c ∧ Lt k x ∧ NV w' A c x ∧ Ext w w') :=
  (made_fn A n c l k w h hL hk).mono fun _ _ ⟨A', c', h1, h2, h3⟩ => ⟨A', c', val (l.take k), h1, by
    have h4 := val_lt (hL.take k)
    refine Nat.lt_of_lt_of_le h4 (pow_le_pow ?_)
    rw [List.length_take]; omega, h2, h3⟩

theorem addN {A B : Option Addr} {c d x y : Nat} {w : World} (k : Nat) (ha : NV w A c x) (hb : NV w B d y) (h : Lt k (x + y)) (hk : k ≤ 1024) :
    Fn Try.prog 22 [.slice A (toL x).length c, .slice B (toL y).length d] w (fun v w' => ∃ A' c', v = .slice A' (toL (x + y)).length c' ∧ NV w' A' c' (x + y) ∧ Ext w w') := by
  have := addw_fn _ _ _ _ _ _ _ _ _ ha hb (limbs_toL _) (limbs_toL _)
  rw [binL_yes (lt_vd (lt_le h (Nat.le_add_right _ _)) hk) (lt_vd (lt_le h (Nat.le_add_left _ _)) hk), val_toL, val_toL, lt_resL h hk] at this
  exact this

theorem mulN {A B : Option Addr} {c d x y : Nat} {w : World} (i j : Nat) (ha : NV w A c x) (hb : NV w B d y) (hx : Lt i x) (hy : Lt j y) (hk : i + j ≤ 1024) :
    Fn Try.prog 23 [.slice A (toL x).length c, .slice B (toL y).length d] w (fun v w' => ∃ A' c', v = .slice A' (toL (x * y)).length c' ∧ NV w' A' c' (x * y) ∧ Ext w w') := by
  have := mulw_fn _ _ _ _ _ _ _ _ _ ha hb (limbs_toL _) (limbs_toL _)
  rw [binL_yes (lt_vd hx (by omega)) (lt_vd hy (by omega)), val_toL, val_toL, lt_resL (lt_mul hx hy (Nat.le_refl _)) hk] at this
  exact this

theorem subN {A B : Option Addr} {c d x y : Nat} {w : World} (i j : Nat) (ha : NV w A c x) (hb : NV w B d y) (hx : Lt i x) (hy : Lt j y) (hi : i ≤ 1024) (hj : j ≤ 1024) :
    Fn Try.prog 25 [.slice A (toL x).length c, .slice B (toL y).length d] w (fun v w' => ∃ A' c', v = .tuple #[.slice A' (toL (x - y)).length c', .int .i64 (if x < y then 10 else 0)] ∧ NV w' A' c' (x - y) ∧ Ext w w') := by
  have := sub_fn _ _ _ _ _ _ _ _ _ ha hb (limbs_toL _) (limbs_toL _)
  have va := lt_vd hx hi
  have vb := lt_vd hy hj
  refine this.mono fun v w' hr => ?_
  by_cases h : x < y
  · rw [subL_lt va vb (by rwa [val_toL, val_toL]), subE_lt va vb (by rwa [val_toL, val_toL])] at hr
    obtain ⟨A', c', h1, h2, h3⟩ := hr
    have e : x - y = 0 := by omega
    rw [if_pos h, e]
    exact ⟨A', c', h1, h2, h3⟩
  · rw [subL_ge va vb (by rwa [val_toL, val_toL]), subE_ge va vb (by rwa [val_toL, val_toL]), val_toL, val_toL] at hr
    rw [if_neg h]
    exact hr

theorem compareN {A B : Option Addr} {c d x y : Nat} {w : World} (i j : Nat) (ha : NV w A c x) (hb : NV w B d y) (hx : Lt i x) (hy : Lt j y) (hi : i ≤ 1024) (hj : j ≤ 1024) :
    Fn Try.prog 26 [.slice A (toL x).length c, .slice B (toL y).length d] w (fun v w' => v = .int .i64 (cmpN x y) ∧ Ext w w') := by
  refine (compare_fn _ _ _ _ _ _ _ _ _ ha hb (limbs_toL _) (limbs_toL _)).mono fun v w' hr => ?_
  rw [cmpL_yes (lt_vd hx hi) (lt_vd hy hj), val_toL, val_toL] at hr
  exact ⟨hr.1, hr.2⟩

theorem divN {A B : Option Addr} {c d x y : Nat} {w : World} (i j : Nat) (ha : NV w A c x) (hb : NV w B d y) (hx : Lt i x) (hy : Lt j y) (hi : i ≤ 1024) (hj : j ≤ 1024) :
    Fn Try.prog 27 [.slice A (toL x).length c, .slice B (toL y).length d] w (fun v w' => ∃ A' c' A2 c2 q r, v = .tuple #[.slice A' (toL q).length c', .slice A2 (toL r).length c2, .int .i64 (if y = 0 then 11 else 0)] ∧ q = x / y ∧ r = (if y = 0 then 0 else x % y) ∧ NV w' A' c' q ∧ NV w' A2 c2 r ∧ Ext w w') := by
  refine (div_fn _ _ _ _ _ _ _ _ _ ha hb (limbs_toL _) (limbs_toL _)).mono fun v w' hr => ?_
  have va := lt_vd hx hi
  have vb := lt_vd hy hj
  by_cases h : y = 0
  · subst h
    rw [quoL_zero (toL_eq_nil.2 rfl), remL_zero (toL_eq_nil.2 rfl), divE_zero va vb (toL_eq_nil.2 rfl)] at hr
    obtain ⟨A', c', A2, c2, h1, h2, h3, h4⟩ := hr
    exact ⟨A', c', A2, c2, 0, 0, h1, by simp, by simp, h2, h3, h4⟩
  · have hne : toL y ≠ [] := fun e => h (toL_eq_nil.1 e)
    rw [quoL_yes va vb hne, remL_yes va vb hne, divE_yes va vb hne, val_toL, val_toL] at hr
    obtain ⟨A', c', A2, c2, h1, h2, h3, h4⟩ := hr
    rw [if_neg h, if_neg h]
    exact ⟨A', c', A2, c2, _, _, h1, rfl, rfl, h2, h3, h4⟩

theorem sameN {A B : Option Addr} {c d x y : Nat} {w : World} (ha : NV w A c x) (hb : NV w B d y) :
    Fn Try.prog 19 [.slice A (toL x).length c, .slice B (toL y).length d] w (fun v w' => v = .bool (decide (x = y)) ∧ Ext w w') := by
  refine (same_fn _ _ _ _ _ _ _ _ _ ha hb).mono fun v w' hr => ⟨hr.1.trans ?_, hr.2⟩
  congr 1
  rw [Bool.eq_iff_iff]
  simp [toL_eq]

theorem sameT {A B : Option Addr} {c d x y : Nat} {w : World} (ha : NV w A c x) (hb : NV w B d y) (h : x = y) :
    Fn Try.prog 19 [.slice A (toL x).length c, .slice B (toL y).length d] w (fun v w' => v = .bool true ∧ Ext w w') :=
  (sameN ha hb).mono fun v w' hr => ⟨by rw [hr.1, decide_eq_true h], hr.2⟩

theorem ofN (x : Nat) (w : World) (h : x < 18446744073709551616) :
    Fn Try.prog 24 [.int .u64 x] w (fun v w' => ∃ A' c', v = .slice A' (toL x).length c' ∧ NV w' A' c' x ∧ Ext w w') := of_fn x w h

theorem validN {A : Option Addr} {c x : Nat} {w : World} (i : Nat) (ha : NV w A c x) (hx : Lt i x) (hi : i ≤ 1024) :
    Fn Try.prog 20 [.slice A (toL x).length c] w (fun v w' => v = .bool true ∧ Ext w w') := by
  refine (valid_fn _ _ _ _ _ ha).mono fun v w' hr => ⟨hr.1.trans ?_, hr.2 ▸ Ext.refl _⟩
  rw [decide_eq_true (lt_vd hx hi)]

theorem textN {A : Option Addr} {c x : Nat} {w : World} (i : Nat) (ha : NV w A c x) (hx : Lt i x) (hi : i ≤ 1024) :
    Fn Try.prog 17 [.slice A (toL x).length c] w (fun v w' => v = .string (strOf (textL x)) ∧ Ext w w') := by
  refine (text_fn _ _ _ _ _ ha (limbs_toL _)).mono fun v w' hr => ⟨hr.1.trans ?_, hr.2⟩
  unfold textS
  rw [if_pos (lt_vd hx hi), val_toL]
end Go.Proofs.Ytpalpikenkkhlaa
