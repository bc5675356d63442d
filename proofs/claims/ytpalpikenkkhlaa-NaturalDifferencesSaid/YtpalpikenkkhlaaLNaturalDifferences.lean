/-
  The walk of the law NaturalDifferences.
  Conditions: none.
-/
import Derived.Test.YtpalpikenkkhlaaT13
namespace Go.Proofs.Ytpalpikenkkhlaa
open Go Go.RowKit

theorem naturalDifferences_law (A0 : Option Addr) (n0 c0 : Nat) (l0 : List Nat) (A1 : Option Addr) (n1 c1 : Nat) (l1 : List Nat) (w0 : World) (h0 : SN w0 A0 n0 c0 l0) (L0 : Limbs l0) (h1 : SN w0 A1 n1 c1 l1) (L1 : Limbs l1) :
    Fn Try.prog 11 [.slice A0 n0 c0, .slice A1 n1 c1] w0 (fun v w' => v = .bool true ∧ Ext w0 w') := by
  refine fn_of_exec (c := { c11 with cuts := [] }) gx_ok Try.func11 rfl rfl rfl ?_
  refine call (sanityN w0) ?_
  rintro v w1 ⟨rfl, hE0⟩
  replace h0 := h0.ext hE0
  replace h1 := h1.ext hE0
  refine call (madeN _ _ _ _ 60 _ h0 L0 (by omega)) ?_
  rintro v w2 ⟨Aa, ca, a, rfl, La, ha, hE⟩
  replace h0 := h0.ext hE
  replace h1 := h1.ext hE
  replace hE0 := hE0.trans hE
  refine call (madeN _ _ _ _ 60 _ h1 L1 (by omega)) ?_
  rintro v w3 ⟨Ab, cb, b, rfl, Lb, hb, hE⟩
  replace h0 := h0.ext hE
  replace h1 := h1.ext hE
  replace ha := ha.ext hE
  replace hE0 := hE0.trans hE
  have Lp : Lt 61 _ := lt_add La Lb (by omega)
  refine call (addN 61 ha hb Lp (by omega)) ?_
  rintro v w4 ⟨Ap, cp, rfl, hp, hE⟩
  replace h0 := h0.ext hE
  replace h1 := h1.ext hE
  replace ha := ha.ext hE
  replace hb := hb.ext hE
  replace hE0 := hE0.trans hE
  refine call (subN 61 60 hp hb Lp Lb (by omega) (by omega)) ?_
  rintro v w5 ⟨Aq, cq, rfl, hq, hE⟩
  replace h0 := h0.ext hE
  replace h1 := h1.ext hE
  replace ha := ha.ext hE
  replace hb := hb.ext hE
  replace hp := hp.ext hE
  replace hE0 := hE0.trans hE
  rw [if_neg (by omega : ¬ a + b < b)]
  refine wif_nef rfl ?_
  refine call (sameT hq ha (Nat.add_sub_cancel _ _)) ?_
  rintro v w6 ⟨rfl, hE⟩
  replace h0 := h0.ext hE
  replace h1 := h1.ext hE
  replace ha := ha.ext hE
  replace hb := hb.ext hE
  replace hp := hp.ext hE
  replace hq := hq.ext hE
  replace hE0 := hE0.trans hE
  refine wif_f rfl ?_
  refine call (subN 60 60 hb ha Lb La (by omega) (by omega)) ?_
  rintro v w7 ⟨Ad, cd, rfl, hd, hE⟩
  replace h0 := h0.ext hE
  replace h1 := h1.ext hE
  replace ha := ha.ext hE
  replace hb := hb.ext hE
  replace hp := hp.ext hE
  replace hq := hq.ext hE
  replace hE0 := hE0.trans hE
  refine call (compareN 60 60 hb ha Lb La (by omega) (by omega)) ?_
  rintro v w8 ⟨rfl, hE⟩
  replace h0 := h0.ext hE
  replace h1 := h1.ext hE
  replace ha := ha.ext hE
  replace hb := hb.ext hE
  replace hp := hp.ext hE
  replace hq := hq.ext hE
  replace hd := hd.ext hE
  replace hE0 := hE0.trans hE
  refine wif_d (fun hlt => ?_) (fun hlt => ?_)
  · have hba : b < a := cmpN_neg.1 hlt
    rw [if_pos hba]
    refine wif_eqt rfl ?_
    refine wif_eqt (by rw [show b - a = 0 by omega]; rfl) ?_
    exact And.intro rfl hE0
  · have hba : ¬ b < a := fun h => hlt (cmpN_neg.2 h)
    rw [if_neg hba]
    refine wif_eqt rfl ?_
    have hab : a + (b - a) = b := by omega
    have Lr : Lt 60 (a + (b - a)) := by rw [hab]; exact Lb
    refine call (addN 60 ha hd Lr (by omega)) ?_
    rintro v w9 ⟨Ar, cr, rfl, hr, hE⟩
    replace h0 := h0.ext hE
    replace h1 := h1.ext hE
    replace ha := ha.ext hE
    replace hb := hb.ext hE
    replace hp := hp.ext hE
    replace hq := hq.ext hE
    replace hd := hd.ext hE
    replace hE0 := hE0.trans hE
    refine call (sameT hr hb (hab)) ?_
    rintro v w10 ⟨rfl, hE⟩
    replace h0 := h0.ext hE
    replace h1 := h1.ext hE
    replace ha := ha.ext hE
    replace hb := hb.ext hE
    replace hp := hp.ext hE
    replace hq := hq.ext hE
    replace hd := hd.ext hE
    replace hr := hr.ext hE
    replace hE0 := hE0.trans hE
    refine wif_t rfl ?_
    exact And.intro rfl hE0
end Go.Proofs.Ytpalpikenkkhlaa
