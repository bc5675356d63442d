/-
  The chapter's own examples: 'sanity' returns true.
  Conditions: none.
-/
import Derived.Test.YtpalpikenkkhlaaT10
namespace Go.Proofs.Ytpalpikenkkhlaa
open Go Go.RowKit

theorem sanity_fn (w : World) : Fn Try.prog 14 [] w (fun v w' => v = .bool true ∧ Ext w w') := by
  refine fn_of_exec (c := c14) gx_ok Try.func14 rfl rfl rfl ?_
  refine call (of_fn 4294967295 _ (by omega)) ?_
  rintro v w1 ⟨A1, c1, rfl, hs1, hE1⟩
  rw [show toL 4294967295 = [4294967295] by decide +kernel] at hs1 ⊢
  refine call (of_fn 4294967295 _ (by omega)) ?_
  rintro v w2 ⟨A2, c2, rfl, hs2, hE2⟩
  rw [show toL 4294967295 = [4294967295] by decide +kernel] at hs2 ⊢
  have hL1 : Limbs [4294967295] := limbs_cons.2 ⟨by omega, limbs_nil⟩
  refine call (mul_fn _ _ _ _ _ _ _ _ _ (hs1.ext hE2) hs2 hL1 hL1) ?_
  rintro v w3 ⟨A3, c3, rfl, hs3, hE3⟩
  rw [show binL [4294967295] [4294967295] (val [4294967295] * val [4294967295]) = [1, 4294967294] by decide +kernel] at hs3 ⊢
  rw [show binE [4294967295] [4294967295] (val [4294967295] * val [4294967295]) = 0 by decide +kernel]
  refine call (parse_fn _ _ (by decide +kernel)) ?_
  rintro v w4 ⟨A4, c4, rfl, hs4, hE4⟩
  rw [show parL (bytesOf { data := #[49, 48, 48, 48, 48, 48, 48, 48, 48, 48, 48, 48, 48, 48, 48, 48, 48, 48, 48, 48, 48] }) = [1661992960, 1808227885, 5] by decide +kernel] at hs4 ⊢
  rw [show parE (bytesOf { data := #[49, 48, 48, 48, 48, 48, 48, 48, 48, 48, 48, 48, 48, 48, 48, 48, 48, 48, 48, 48, 48] }) = 0 by decide +kernel]
  refine call (of_fn 7 _ (by omega)) ?_
  rintro v w5 ⟨A5, c5, rfl, hs5, hE5⟩
  rw [show toL 7 = [7] by decide +kernel] at hs5 ⊢
  have hL4 : Limbs [1661992960, 1808227885, 5] := limbs_cons.2 ⟨by omega, limbs_cons.2 ⟨by omega, limbs_cons.2 ⟨by omega, limbs_nil⟩⟩⟩
  have hL7 : Limbs [7] := limbs_cons.2 ⟨by omega, limbs_nil⟩
  refine call (div_fn _ _ _ _ _ _ _ _ _ (hs4.ext hE5) hs5 hL4 hL7) ?_
  rintro v w6 ⟨A6, c6, A7, c7, rfl, hs6, hs7, hE6⟩
  rw [show quoL [1661992960, 1808227885, 5] [7] = toL (100000000000000000000 / 7) by decide +kernel] at hs6 ⊢
  rw [show remL [1661992960, 1808227885, 5] [7] = [2] by decide +kernel] at hs7 ⊢
  rw [show divE [1661992960, 1808227885, 5] [7] = 0 by decide +kernel]
  refine call (parse_fn _ _ (by decide +kernel)) ?_
  rintro v w7 ⟨A8, c8, rfl, hs8, hE7⟩
  rw [show parE (bytesOf { data := #[48, 48] }) = 12 by decide +kernel]
  have hE47 : Ext w3 w7 := hE4.trans (hE5.trans (hE6.trans hE7))
  have hE07 : Ext w w7 := hE1.trans (hE2.trans (hE3.trans hE47))
  refine wif_eqt rfl ?_
  refine wif_eqt rfl ?_
  refine wif_eqt rfl ?_
  refine wif_eqt rfl ?_
  refine at_build2 gx_ok rfl rfl rfl rfl rfl rfl rfl rfl rfl rfl ?_
  intro w8 hE8 hsz8 hB8
  have hb8 : SN w8 (some ⟨w7.heap.size, 0, none⟩) 2 2 [1, 4294967294] := Sl.own' hB8 rfl (by simp [maxLen])
  refine call (same_fn _ _ _ _ _ _ _ _ _ ((hs3.ext hE47).ext hE8) hb8) ?_
  rintro v w9 ⟨rfl, hE9⟩
  refine wif_dt rfl ?_
  have hE39 : Ext w3 w9 := hE47.trans (hE8.trans hE9)
  have hLs : Limbs [1, 4294967294] := limbs_cons.2 ⟨by omega, limbs_cons.2 ⟨by omega, limbs_nil⟩⟩
  refine call (text_fn _ _ _ _ _ (hs3.ext hE39) hLs) ?_
  rintro v w10 ⟨rfl, hE10⟩
  refine wif_dt (by decide +kernel) ?_
  have hE69 : Ext w6 w10 := hE7.trans (hE8.trans (hE9.trans hE10))
  refine call (text_fn _ _ _ _ _ (hs6.ext hE69) (limbs_toL _)) ?_
  rintro v w11 ⟨rfl, hE11⟩
  refine wif_dt (by decide +kernel) ?_
  refine at_build1 gx_ok rfl rfl rfl rfl rfl rfl rfl rfl ?_
  intro w12 hE12 hsz12 hB12
  have hb12 : SN w12 (some ⟨w11.heap.size, 0, none⟩) 1 1 [2] := Sl.own' hB12 rfl (by simp [maxLen])
  refine call (same_fn _ _ _ _ _ _ _ _ _ (((hs7.ext hE69).ext hE11).ext hE12) hb12) ?_
  rintro v w13 ⟨rfl, hE13⟩
  refine wif_dt rfl ?_
  refine call (of_fn 0 _ (by omega)) ?_
  rintro v w14 ⟨A14, c14, rfl, hs14, hE14⟩
  refine wif_eqt rfl ?_
  refine call (text_fn _ _ _ [] _ (Sl.nil _ 1) limbs_nil) ?_
  rintro v w15 ⟨rfl, hE15⟩
  refine wif_dt (by decide +kernel) ?_
  refine at_build2 gx_ok rfl rfl rfl rfl rfl rfl rfl rfl rfl rfl ?_
  intro w16 hE16 hsz16 hB16
  have hb16 : SN w16 (some ⟨w15.heap.size, 0, none⟩) 2 2 [5, 0] := Sl.own' hB16 rfl (by simp [maxLen])
  refine call (valid_fn _ _ _ _ _ hb16) ?_
  rintro v w17 ⟨rfl, rfl⟩
  refine And.intro (by rw [show decide (Vd [5, 0]) = false by decide +kernel]; rfl) ?_
  exact hE07.trans (hE8.trans (hE9.trans (hE10.trans (hE11.trans (hE12.trans (hE13.trans (hE14.trans (hE15.trans hE16))))))))

theorem addw_fn (A B : Option Addr) (n c m d : Nat) (a b : List Nat) (w : World) (ha : SN w A n c a) (hb : SN w B m d b) (hLa : Limbs a) (hLb : Limbs b) :
    Fn Try.prog 22 [.slice A n c, .slice B m d] w (fun v w' => ∃ A' c', v = .slice A' (binL a b (val a + val b)).length c' ∧ SN w' A' (binL a b (val a + val b)).length c' (binL a b (val a + val b)) ∧ Ext w w') := by
  refine fn_of_exec (c := c22) gx_ok Try.func22 rfl rfl rfl ?_
  refine call (add_fn _ _ _ _ _ _ _ _ _ ha hb hLa hLb) ?_
  rintro v w' ⟨A', c', rfl, hs, hE⟩
  exact ⟨A', c', rfl, hs, hE⟩

theorem mulw_fn (A B : Option Addr) (n c m d : Nat) (a b : List Nat) (w : World) (ha : SN w A n c a) (hb : SN w B m d b) (hLa : Limbs a) (hLb : Limbs b) :
    Fn Try.prog 23 [.slice A n c, .slice B m d] w (fun v w' => ∃ A' c', v = .slice A' (binL a b (val a * val b)).length c' ∧ SN w' A' (binL a b (val a * val b)).length c' (binL a b (val a * val b)) ∧ Ext w w') := by
  refine fn_of_exec (c := c23) gx_ok Try.func23 rfl rfl rfl ?_
  refine call (mul_fn _ _ _ _ _ _ _ _ _ ha hb hLa hLb) ?_
  rintro v w' ⟨A', c', rfl, hs, hE⟩
  exact ⟨A', c', rfl, hs, hE⟩
end Go.Proofs.Ytpalpikenkkhlaa
