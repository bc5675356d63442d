/-
  The limbs' functions that only look: Valid, trim, Of and their like.
  Conditions: none.
-/
import Derived.Test.YtpalpikenkkhlaaFacts
import Derived.Test.YtpalpikenkkhlaaNum
namespace Go.Proofs.Ytpalpikenkkhlaa
open Go Go.RowKit

def cells (l : List Nat) : List Value := l.map fun (x : Nat) => .int .u32 x

theorem cells_get {l : List Nat} {j : Nat} {u : Value} (h : (cells l)[j]? = some u) : ∃ x, l[j]? = some x ∧ u = .int .u32 (x : Int) := by
  simp only [cells, List.getElem?_map, Option.map_eq_some_iff] at h
  obtain ⟨x, hx, rfl⟩ := h; exact ⟨x, hx, rfl⟩
theorem cells_get' {l : List Nat} {j x : Nat} (h : l[j]? = some x) : (cells l)[j]? = some (.int .u32 (x : Int)) := by
  simp [cells, h]
theorem cells_append (l m : List Nat) : cells (l ++ m) = cells l ++ cells m := by simp [cells]
theorem cells_take (l : List Nat) (n : Nat) : cells (l.take n) = (cells l).take n := by simp [cells]
theorem cells_length (l : List Nat) : (cells l).length = l.length := by simp [cells]
theorem cells_set (l : List Nat) (i x : Nat) : cells (l.set i x) = (cells l).set i (.int .u32 (x : Int)) := by simp [cells, List.map_set]
theorem cells_scalar (l : List Nat) : ∀ u ∈ cells l, scalar u = true := by
  intro u hu; simp only [cells, List.mem_map] at hu; obtain ⟨x, _, rfl⟩ := hu; rfl

/-- A slice that reads as limbs. -/
abbrev SN (w : World) (A : Option Addr) (n c : Nat) (l : List Nat) : Prop := Sl w 1 A n c (cells l)
theorem SN.length {w : World} {A : Option Addr} {n c : Nat} {l : List Nat} (h : SN w A n c l) : l.length = n := by have := h.len; simpa [cells] using this
theorem SN.bd {w : World} {A : Option Addr} {n c : Nat} {l : List Nat} (h : SN w A n c l) : n ≤ c ∧ (c : Int) ≤ 9223372036854775807 := by
  have h1 := h.le; have h2 := h.cap; unfold maxLen at h2; omega

theorem vd_iff (l : List Nat) : decide (Vd l) = (decide (l.length ≤ 1024) && (decide (l.length = 0) || (l.getLast? != some 0))) := by
  unfold Vd
  cases l with
  | nil => simp
  | cons x l => rw [Bool.eq_iff_iff]; simp

theorem valid_fn (A : Option Addr) (n c : Nat) (l : List Nat) (w : World) (h : SN w A n c l) :
    Fn Try.prog 20 [.slice A n c] w (fun v w' => v = .bool (decide (Vd l)) ∧ w' = w) := by
  have hl := h.length
  have hb := h.bd
  refine fn_of_exec (c := c20) gx_ok Try.func20 rfl rfl rfl ?_
  rw [vd_iff]
  refine wif_d (fun h1 => ?_) (fun h1 => ?_)
  · refine wif_eq (fun h2 => ?_) (fun h2 => ?_)
    · refine And.intro ?_ rfl
      have : l = [] := List.eq_nil_of_length_eq_zero (by omega)
      subst this
      simp
    · refine norm_i64_to ((n - 1 : Nat) : Int) (by omega) (by omega) ?_
      refine index_sl h (by omega) (fun ad u hA hu hcell => ?_)
      obtain ⟨x, hx, rfl⟩ := cells_get hu
      refine load hcell ?_
      refine And.intro ?_ rfl
      have hlast : l.getLast? = some x := by rw [List.getLast?_eq_getElem?]; rw [hl]; exact hx
      congr 1
      rw [hlast, decide_eq_true (by omega : l.length ≤ 1024), decide_eq_false (by omega : ¬ l.length = 0)]
      show ((x : Int) != 0) = _
      rw [Bool.eq_iff_iff]; simp
  · refine And.intro ?_ rfl
    rw [decide_eq_false (by omega : ¬ l.length ≤ 1024)]
    rfl

theorem rvalid_fn (A : Option Addr) (n c : Nat) (l : List Nat) (w : World) (h : SN w A n c l) :
    Fn Try.prog 34 [.slice A n c] w (fun v w' => v = .bool (decide (Vd l)) ∧ w' = w) := by
  have hl := h.length
  have hb := h.bd
  refine fn_of_exec (c := c34) gx_ok Try.func34 rfl rfl rfl ?_
  rw [vd_iff]
  refine wif_d (fun h1 => ?_) (fun h1 => ?_)
  · refine wif_eq (fun h2 => ?_) (fun h2 => ?_)
    · refine And.intro ?_ rfl
      have : l = [] := List.eq_nil_of_length_eq_zero (by omega)
      subst this
      simp
    · refine norm_i64_to ((n - 1 : Nat) : Int) (by omega) (by omega) ?_
      refine index_sl h (by omega) (fun ad u hA hu hcell => ?_)
      obtain ⟨x, hx, rfl⟩ := cells_get hu
      refine load hcell ?_
      refine And.intro ?_ rfl
      have hlast : l.getLast? = some x := by rw [List.getLast?_eq_getElem?]; rw [hl]; exact hx
      congr 1
      rw [hlast, decide_eq_true (by omega : l.length ≤ 1024), decide_eq_false (by omega : ¬ l.length = 0)]
      show ((x : Int) != 0) = _
      rw [Bool.eq_iff_iff]; simp
  · refine And.intro ?_ rfl
    rw [decide_eq_false (by omega : ¬ l.length ≤ 1024)]
    rfl

theorem drop_pred {l : List Nat} {k : Nat} (hk : 0 < k) (h : ∀ x ∈ l.drop k, x = 0) (h0 : l[k - 1]? = some 0) : ∀ x ∈ l.drop (k - 1), x = 0 := by
  have hlt : k - 1 < l.length := (List.getElem?_eq_some_iff.1 h0).1
  rw [List.drop_eq_getElem_cons hlt]
  intro x hx
  rcases List.mem_cons.1 hx with rfl | hx
  · simpa [List.getElem?_eq_getElem hlt] using h0
  · rw [show k - 1 + 1 = k by omega] at hx; exact h x hx

theorem trim_fn' (A : Option Addr) (n c : Nat) (l : List Nat) (w : World) (h : SN w A n c l) (hL : Limbs l) :
    Fn Try.prog 43 [.slice A n c] w (fun v w' => ∃ A' c', v = .tuple #[.slice A' (resL (val l)).length c', .int .i64 (resE (val l))] ∧ SN w A' (resL (val l)).length c' (resL (val l)) ∧ (A' = A ∨ A' = none) ∧ w' = w) := by
  have hl := h.length
  have hb := h.bd
  refine fn_of_exec (c := c43) gx_ok Try.func43 rfl rfl rfl ?_
  refine loop gx_ok [4] (fun k : Nat => [.int .i64 k]) (fun k w' => w' = w ∧ k ≤ n ∧ ∀ x ∈ l.drop k, x = 0) (fun k _ => k) n rfl ⟨rfl, Nat.le_refl n, by rw [← hl]; simp⟩ ?_
  intro k w' hI
  obtain ⟨rfl, hkn, hz⟩ := hI
  have done : (k = 0 ∨ ∃ x, l[k - 1]? = some x ∧ x ≠ 0) → ∃ A' c', (if k ≤ 1024 then Value.tuple #[.slice A k c, .int .i64 0] else .tuple #[.slice none 0 0, .int .i64 2]) = .tuple #[.slice A' (resL (val l)).length c', .int .i64 (resE (val l))] ∧ SN w' A' (resL (val l)).length c' (resL (val l)) ∧ (A' = A ∨ A' = none) ∧ w' = w' := by
    intro hlast
    have hs := strip_eq hL hz hlast
    have hlen : (toL (val l)).length = k := by rw [← hs, List.length_take]; omega
    unfold resL resE
    rw [hlen]
    split
    · refine ⟨A, c, by rw [hlen], ?_, .inl rfl, rfl⟩
      rw [hlen]
      have := h.take hkn
      rwa [Nat.mul_one, ← cells_take, hs] at this
    · exact ⟨none, 0, rfl, Sl.nil w' 1, .inr rfl, rfl⟩
  refine wif_d (fun h1 => ?_) (fun h1 => ?_)
  · refine norm_i64_to ((k - 1 : Nat) : Int) (by omega) (by omega) ?_
    refine index_sl h (by omega) (fun ad u hA hu hcell => ?_)
    obtain ⟨x, hx, rfl⟩ := cells_get hu
    refine load hcell ?_
    refine wif_eq (fun h2 => ?_) (fun h2 => ?_)
    · refine norm_i64_to ((k - 1 : Nat) : Int) (by omega) (by omega) ?_
      refine ⟨k - 1, rfl, ⟨rfl, by omega, ?_⟩, by show k - 1 < k; omega⟩
      have : x = 0 := by omega
      subst this
      exact drop_pred (by omega) hz hx
    · have hd := done (.inr ⟨x, hx, by omega⟩)
      refine wif_d (fun h3 => ?_) (fun h3 => ?_)
      · rw [if_neg (by omega)] at hd; exact hd
      · refine at_slice_h gx_ok rfl rfl rfl rfl rfl rfl (by omega) ?_
        rw [if_pos (by omega)] at hd; exact hd
  · have hd := done (.inl (by omega))
    refine wif_d (fun h3 => ?_) (fun h3 => ?_)
    · omega
    · refine at_slice_h gx_ok rfl rfl rfl rfl rfl rfl (by omega) ?_
      rw [if_pos (by omega)] at hd; exact hd

theorem trim_fn (A : Option Addr) (n c : Nat) (l : List Nat) (w : World) (h : SN w A n c l) (hL : Limbs l) :
    Fn Try.prog 43 [.slice A n c] w (fun v w' => ∃ A' c', v = .tuple #[.slice A' (resL (val l)).length c', .int .i64 (resE (val l))] ∧ SN w A' (resL (val l)).length c' (resL (val l)) ∧ w' = w) :=
  (trim_fn' A n c l w h hL).mono fun _ _ ⟨A', c', h1, h2, _, h4⟩ => ⟨A', c', h1, h2, h4⟩
end Go.Proofs.Ytpalpikenkkhlaa
