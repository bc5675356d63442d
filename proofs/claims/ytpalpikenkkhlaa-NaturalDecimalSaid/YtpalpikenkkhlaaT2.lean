/-
  Of, trim, fit, limb, Made, Long, Same and Compare: the contracts of the small functions over limbs.
  Conditions: none.
-/
import Derived.Test.YtpalpikenkkhlaaT1
namespace Go.Proofs.Ytpalpikenkkhlaa
open Go Go.RowKit

theorem resL_of {n : Nat} (h : (toL n).length ≤ 1024) : resL n = toL n := if_pos h
theorem resE_of {n : Nat} (h : (toL n).length ≤ 1024) : resE n = 0 := if_pos h

theorem rtrim_fn' (A : Option Addr) (n c : Nat) (l : List Nat) (w : World) (h : SN w A n c l) (hL : Limbs l) :
    Fn Try.prog 42 [.slice A n c] w (fun v w' => ∃ A' c', v = .slice A' (toL (val l)).length c' ∧ SN w A' (toL (val l)).length c' (toL (val l)) ∧ A' = A ∧ w' = w) := by
  have hl := h.length
  have hb := h.bd
  refine fn_of_exec (c := c42) gx_ok Try.func42 rfl rfl rfl ?_
  refine loop gx_ok [3] (fun k : Nat => [.int .i64 k]) (fun k w' => w' = w ∧ k ≤ n ∧ ∀ x ∈ l.drop k, x = 0) (fun k _ => k) n rfl ⟨rfl, Nat.le_refl n, by rw [← hl]; simp⟩ ?_
  intro k w' hI
  obtain ⟨rfl, hkn, hz⟩ := hI
  have done : (k = 0 ∨ ∃ x, l[k - 1]? = some x ∧ x ≠ 0) → ∃ A' c', Value.slice A k c = .slice A' (toL (val l)).length c' ∧ SN w' A' (toL (val l)).length c' (toL (val l)) ∧ A' = A ∧ w' = w' := by
    intro hlast
    have hs := strip_eq hL hz hlast
    have hlen : (toL (val l)).length = k := by rw [← hs, List.length_take]; omega
    refine ⟨A, c, by rw [hlen], ?_, rfl, rfl⟩
    rw [hlen]
    have := h.take hkn
    rwa [Nat.mul_one, ← cells_take, hs] at this
  refine wif_d (fun h1 => ?_) (fun h1 => ?_)
  · refine norm_i64_to ((k - 1 : Nat) : Int) (by omega) (by omega) ?_
    refine index_sl h (by omega) (fun ad u hA hu hcell => ?_)
    obtain ⟨x, hx, rfl⟩ := cells_get hu
    refine load hcell ?_
    refine wif_eq (fun h2 => ?_) (fun h2 => ?_)
    · refine norm_i64_to ((k - 1 : Nat) : Int) (by omega) (by omega) ?_
      refine ⟨k - 1, rfl, ⟨rfl, by omega, ?_⟩, by show k - 1 < k; omega⟩
      have : x = 0 := by omega
      subst this
      exact drop_pred (by omega) hz hx
    · have hd := done (.inr ⟨x, hx, by omega⟩)
      exact at_slice_h gx_ok rfl rfl rfl rfl rfl rfl (by omega) hd
  · have hd := done (.inl (by omega))
    exact at_slice_h gx_ok rfl rfl rfl rfl rfl rfl (by omega) hd

theorem rtrim_fn (A : Option Addr) (n c : Nat) (l : List Nat) (w : World) (h : SN w A n c l) (hL : Limbs l) :
    Fn Try.prog 42 [.slice A n c] w (fun v w' => ∃ A' c', v = .slice A' (toL (val l)).length c' ∧ SN w A' (toL (val l)).length c' (toL (val l)) ∧ w' = w) :=
  (rtrim_fn' A n c l w h hL).mono fun _ _ ⟨A', c', h1, h2, _, h4⟩ => ⟨A', c', h1, h2, h4⟩

theorem rfit_fn (A : Option Addr) (n c : Nat) (l : List Nat) (w : World) (h : SN w A n c l) (hL : Limbs l) :
    Fn Try.prog 48 [.slice A n c] w (fun v w' => ∃ A' c', v = .tuple #[.slice A' (resL (val l)).length c', .int .i64 (resE (val l))] ∧ SN w A' (resL (val l)).length c' (resL (val l)) ∧ w' = w) := by
  refine fn_of_exec (c := c48) gx_ok Try.func48 rfl rfl rfl ?_
  refine call (rtrim_fn _ _ _ _ _ h hL) ?_
  rintro v w' ⟨A', c', rfl, hs, rfl⟩
  refine wif_d (fun h1 => ?_) (fun h1 => ?_)
  · unfold resL resE
    rw [if_neg (by omega), if_neg (by omega)]
    exact ⟨none, 0, rfl, Sl.nil _ 1, rfl⟩
  · unfold resL resE
    rw [if_pos (by omega), if_pos (by omega)]
    exact ⟨A', c', rfl, hs, rfl⟩

theorem rlimb_fn (A : Option Addr) (n c : Nat) (l : List Nat) (i : Nat) (w : World) (h : SN w A n c l) (hL : Limbs l) :
    Fn Try.prog 47 [.slice A n c, .int .i64 i] w (fun v w' => v = .int .u64 (l[i]?.getD 0 : Nat) ∧ w' = w) := by
  have hl := h.length
  refine fn_of_exec (c := c47) gx_ok Try.func47 rfl rfl rfl ?_
  refine wif_d (fun h1 => ?_) (fun h1 => ?_)
  · refine index_sl h (by omega) (fun ad u hA hu hcell => ?_)
    obtain ⟨x, hx, rfl⟩ := cells_get hu
    refine load hcell ?_
    have := hL.get hx
    refine norm_u64 (by omega) ?_
    refine And.intro ?_ rfl
    rw [hx]; rfl
  · refine And.intro ?_ rfl
    rw [List.getElem?_eq_none (by omega)]; rfl

theorem val_two (N : Nat) (h : N < 18446744073709551616) : val [N % 4294967296, N / 4294967296 % 4294967296] = N := by
  simp [val]; omega

theorem of_fn (N : Nat) (w : World) (hN : N < 18446744073709551616) :
    Fn Try.prog 24 [.int .u64 N] w (fun v w' => ∃ A c, v = .slice A (toL N).length c ∧ SN w' A (toL N).length c (toL N) ∧ Ext w w') := by
  refine fn_of_exec (c := c24) gx_ok Try.func24 rfl rfl rfl ?_
  refine norm_u32 ?_
  refine norm_shr 32 4294967296 (by decide) rfl rfl ?_
  refine norm_u32 ?_
  refine at_build2 gx_ok rfl rfl rfl rfl rfl rfl rfl rfl rfl rfl ?_
  intro w1 hE hsz hB
  have hs : SN w1 (some ⟨w.heap.size, 0, none⟩) 2 2 [N % 4294967296, N / 4294967296 % 4294967296] := Sl.own' hB rfl (by simp [maxLen])
  have hL : Limbs [N % 4294967296, N / 4294967296 % 4294967296] := limbs_cons.2 ⟨Nat.mod_lt _ (by omega), limbs_cons.2 ⟨Nat.mod_lt _ (by omega), limbs_nil⟩⟩
  refine call (trim_fn _ _ _ _ _ hs hL) ?_
  rintro v w' ⟨A', c', rfl, hs', rfl⟩
  rw [val_two N hN] at hs' ⊢
  have hr : resL N = toL N := resL_of (by have := (toL_len N 2).2 (by omega); omega)
  rw [hr] at hs' ⊢
  exact ⟨A', c', rfl, hs', hE⟩

theorem rof_fn (N : Nat) (w : World) (hN : N < 18446744073709551616) :
    Fn Try.prog 39 [.int .u64 N] w (fun v w' => ∃ A c, v = .slice A (toL N).length c ∧ SN w' A (toL N).length c (toL N) ∧ Ext w w') := by
  refine fn_of_exec (c := c39) gx_ok Try.func39 rfl rfl rfl ?_
  refine norm_rem (d := 4294967296) (by omega) ?_
  refine norm_u32 ?_
  refine norm_quo64 (d := 4294967296) (by omega) (by omega) ?_
  refine norm_u32 ?_
  refine at_build2 gx_ok rfl rfl rfl rfl rfl rfl rfl rfl rfl rfl ?_
  intro w1 hE hsz hB
  have hs : SN w1 (some ⟨w.heap.size, 0, none⟩) 2 2 [N % 4294967296 % 4294967296, N / 4294967296 % 4294967296] := Sl.own' hB rfl (by simp [maxLen])
  rw [Nat.mod_mod] at hs
  have hL : Limbs [N % 4294967296, N / 4294967296 % 4294967296] := limbs_cons.2 ⟨Nat.mod_lt _ (by omega), limbs_cons.2 ⟨Nat.mod_lt _ (by omega), limbs_nil⟩⟩
  refine call (rtrim_fn _ _ _ _ _ hs hL) ?_
  rintro v w' ⟨A', c', rfl, hs', rfl⟩
  rw [val_two N hN] at hs' ⊢
  exact ⟨A', c', rfl, hs', hE⟩

theorem made_fn (A : Option Addr) (n c : Nat) (l : List Nat) (k : Nat) (w : World) (h : SN w A n c l) (hL : Limbs l) (hk : k ≤ 1000000) :
    Fn Try.prog 21 [.slice A n c, .int .i64 k] w (fun v w' => ∃ A c, v = .slice A (toL (val (l.take k))).length c ∧ SN w' A (toL (val (l.take k))).length c (toL (val (l.take k))) ∧ Ext w w') := by
  have hl := h.length
  have hb := h.bd
  refine fn_of_exec (c := c21) gx_ok Try.func21 rfl rfl rfl ?_
  refine at_build0 gx_ok rfl rfl rfl rfl rfl rfl ?_
  intro w1 hE hsz hB
  refine norm (m := ((min n k : Nat) : Int)) (by split <;> omega) ?_
  refine at_slice_h gx_ok rfl rfl rfl rfl rfl rfl (by omega) ?_
  have hown : Own w1 w.heap.size 35 1 (some ⟨w.heap.size, 0, none⟩) 0 0 [] := Own.empty hB (Nat.le_refl _)
  have htake := (h.ext hE).take (Nat.min_le_left n k)
  rw [Nat.mul_one, ← cells_take] at htake
  refine at_append gx_ok rfl rfl rfl rfl rfl rfl rfl ⟨_, rfl⟩ rfl rfl hown htake (cells_scalar _) (by unfold maxLen; omega) (by show _ * 4 ≤ _; omega) (by omega) ?_
  intro A' c' w2 hgr hown'
  have hE2 : Ext w w2 := hE.row (Nat.le_refl _) hown hgr
  have hs : SN w2 A' (0 + min n k) c' (l.take (min n k)) := by simpa using hown'.sl
  have ht : l.take (min n k) = l.take k := by rw [← hl, List.take_eq_take_iff]; omega
  rw [ht] at hs
  refine call (rtrim_fn _ _ _ _ _ hs (hL.take k)) ?_
  rintro v w' ⟨A', c', rfl, hs', rfl⟩
  exact ⟨A', c', rfl, hs', hE2⟩
end Go.Proofs.Ytpalpikenkkhlaa
