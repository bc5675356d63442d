/-
  The walk of the law NaturalRing.
  Conditions: none.
-/
import Derived.Test.YtpalpikenkkhlaaT13
namespace Go.Proofs.Ytpalpikenkkhlaa
open Go Go.RowKit

theorem naturalRing_law (A0 : Option Addr) (n0 c0 : Nat) (l0 : List Nat) (A1 : Option Addr) (n1 c1 : Nat) (l1 : List Nat) (A2 : Option Addr) (n2 c2 : Nat) (l2 : List Nat) (w0 : World) (h0 : SN w0 A0 n0 c0 l0) (L0 : Limbs l0) (h1 : SN w0 A1 n1 c1 l1) (L1 : Limbs l1) (h2 : SN w0 A2 n2 c2 l2) (L2 : Limbs l2) :
    Fn Try.prog 5 [.slice A0 n0 c0, .slice A1 n1 c1, .slice A2 n2 c2] w0 (fun v w' => v = .bool true ∧ Ext w0 w') := by
  refine fn_of_exec (c := { c5 with cuts := [] }) gx_ok Try.func5 rfl rfl rfl ?_
  refine call (sanityN w0) ?_
  rintro v w1 ⟨rfl, hE0⟩
  replace h0 := h0.ext hE0
  replace h1 := h1.ext hE0
  replace h2 := h2.ext hE0
  refine call (madeN _ _ _ _ 40 _ h0 L0 (by omega)) ?_
  rintro v w2 ⟨Aa, ca, a, rfl, La, ha, hE⟩
  replace h0 := h0.ext hE
  replace h1 := h1.ext hE
  replace h2 := h2.ext hE
  replace hE0 := hE0.trans hE
  refine call (madeN _ _ _ _ 40 _ h1 L1 (by omega)) ?_
  rintro v w3 ⟨Ab, cb, b, rfl, Lb, hb, hE⟩
  replace h0 := h0.ext hE
  replace h1 := h1.ext hE
  replace h2 := h2.ext hE
  replace ha := ha.ext hE
  replace hE0 := hE0.trans hE
  refine call (madeN _ _ _ _ 40 _ h2 L2 (by omega)) ?_
  rintro v w4 ⟨Ac, cc, c, rfl, Lc, hc, hE⟩
  replace h0 := h0.ext hE
  replace h1 := h1.ext hE
  replace h2 := h2.ext hE
  replace ha := ha.ext hE
  replace hb := hb.ext hE
  replace hE0 := hE0.trans hE
  have Lz : Lt 0 0 := by decide
  have Lp : Lt 41 _ := lt_add La Lb (by omega)
  refine call (addN 41 ha hb Lp (by omega)) ?_
  rintro v w5 ⟨Ap, cp, rfl, hp, hE⟩
  replace h0 := h0.ext hE
  replace h1 := h1.ext hE
  replace h2 := h2.ext hE
  replace ha := ha.ext hE
  replace hb := hb.ext hE
  replace hc := hc.ext hE
  replace hE0 := hE0.trans hE
  have Lq : Lt 42 _ := lt_add Lp Lc (by omega)
  refine call (addN 42 hp hc Lq (by omega)) ?_
  rintro v w6 ⟨Aq, cq, rfl, hq, hE⟩
  replace h0 := h0.ext hE
  replace h1 := h1.ext hE
  replace h2 := h2.ext hE
  replace ha := ha.ext hE
  replace hb := hb.ext hE
  replace hc := hc.ext hE
  replace hp := hp.ext hE
  replace hE0 := hE0.trans hE
  have Lr : Lt 41 _ := lt_add Lb Lc (by omega)
  refine call (addN 41 hb hc Lr (by omega)) ?_
  rintro v w7 ⟨Ar, cr, rfl, hr, hE⟩
  replace h0 := h0.ext hE
  replace h1 := h1.ext hE
  replace h2 := h2.ext hE
  replace ha := ha.ext hE
  replace hb := hb.ext hE
  replace hc := hc.ext hE
  replace hp := hp.ext hE
  replace hq := hq.ext hE
  replace hE0 := hE0.trans hE
  have Ls : Lt 42 _ := lt_add La Lr (by omega)
  refine call (addN 42 ha hr Ls (by omega)) ?_
  rintro v w8 ⟨As, cs, rfl, hs, hE⟩
  replace h0 := h0.ext hE
  replace h1 := h1.ext hE
  replace h2 := h2.ext hE
  replace ha := ha.ext hE
  replace hb := hb.ext hE
  replace hc := hc.ext hE
  replace hp := hp.ext hE
  replace hq := hq.ext hE
  replace hr := hr.ext hE
  replace hE0 := hE0.trans hE
  refine call (sameT hq hs (Nat.add_assoc _ _ _)) ?_
  rintro v w9 ⟨rfl, hE⟩
  replace h0 := h0.ext hE
  replace h1 := h1.ext hE
  replace h2 := h2.ext hE
  replace ha := ha.ext hE
  replace hb := hb.ext hE
  replace hc := hc.ext hE
  replace hp := hp.ext hE
  replace hq := hq.ext hE
  replace hr := hr.ext hE
  replace hs := hs.ext hE
  replace hE0 := hE0.trans hE
  refine wif_t rfl ?_
  have Lp : Lt 41 _ := lt_add La Lb (by omega)
  refine call (addN 41 ha hb Lp (by omega)) ?_
  rintro v w10 ⟨Ap, cp, rfl, hp, hE⟩
  replace h0 := h0.ext hE
  replace h1 := h1.ext hE
  replace h2 := h2.ext hE
  replace ha := ha.ext hE
  replace hb := hb.ext hE
  replace hc := hc.ext hE
  replace hq := hq.ext hE
  replace hr := hr.ext hE
  replace hs := hs.ext hE
  replace hE0 := hE0.trans hE
  have Lr : Lt 41 _ := lt_add Lb La (by omega)
  refine call (addN 41 hb ha Lr (by omega)) ?_
  rintro v w11 ⟨Ar, cr, rfl, hr, hE⟩
  replace h0 := h0.ext hE
  replace h1 := h1.ext hE
  replace h2 := h2.ext hE
  replace ha := ha.ext hE
  replace hb := hb.ext hE
  replace hc := hc.ext hE
  replace hq := hq.ext hE
  replace hs := hs.ext hE
  replace hp := hp.ext hE
  replace hE0 := hE0.trans hE
  refine call (sameT hp hr (Nat.add_comm _ _)) ?_
  rintro v w12 ⟨rfl, hE⟩
  replace h0 := h0.ext hE
  replace h1 := h1.ext hE
  replace h2 := h2.ext hE
  replace ha := ha.ext hE
  replace hb := hb.ext hE
  replace hc := hc.ext hE
  replace hq := hq.ext hE
  replace hs := hs.ext hE
  replace hp := hp.ext hE
  replace hr := hr.ext hE
  replace hE0 := hE0.trans hE
  refine wif_t rfl ?_
  have Ls : Lt 41 (a + 0) := lt_add La Lz (by omega)
  refine call (addN 41 ha (nv_zero _) Ls (by omega)) ?_
  rintro v w13 ⟨As, cs, rfl, hs, hE⟩
  replace h0 := h0.ext hE
  replace h1 := h1.ext hE
  replace h2 := h2.ext hE
  replace ha := ha.ext hE
  replace hb := hb.ext hE
  replace hc := hc.ext hE
  replace hq := hq.ext hE
  replace hp := hp.ext hE
  replace hr := hr.ext hE
  replace hE0 := hE0.trans hE
  refine call (sameT hs ha (Nat.add_zero _)) ?_
  rintro v w14 ⟨rfl, hE⟩
  replace h0 := h0.ext hE
  replace h1 := h1.ext hE
  replace h2 := h2.ext hE
  replace ha := ha.ext hE
  replace hb := hb.ext hE
  replace hc := hc.ext hE
  replace hq := hq.ext hE
  replace hp := hp.ext hE
  replace hr := hr.ext hE
  replace hs := hs.ext hE
  replace hE0 := hE0.trans hE
  have Lp : Lt 80 _ := lt_mul La Lb (by omega)
  refine call (mulN 40 40 ha hb La Lb (by omega)) ?_
  rintro v w15 ⟨Ap, cp, rfl, hp, hE⟩
  replace ha := ha.ext hE
  replace hb := hb.ext hE
  replace hc := hc.ext hE
  replace hE0 := hE0.trans hE
  have Lq : Lt 120 _ := lt_mul Lp Lc (by omega)
  refine call (mulN 80 40 hp hc Lp Lc (by omega)) ?_
  rintro v w16 ⟨Aq, cq, rfl, hq, hE⟩
  replace ha := ha.ext hE
  replace hb := hb.ext hE
  replace hc := hc.ext hE
  replace hp := hp.ext hE
  replace hE0 := hE0.trans hE
  have Lr : Lt 80 _ := lt_mul Lb Lc (by omega)
  refine call (mulN 40 40 hb hc Lb Lc (by omega)) ?_
  rintro v w17 ⟨Ar, cr, rfl, hr, hE⟩
  replace ha := ha.ext hE
  replace hb := hb.ext hE
  replace hc := hc.ext hE
  replace hp := hp.ext hE
  replace hq := hq.ext hE
  replace hE0 := hE0.trans hE
  have Ls : Lt 120 _ := lt_mul La Lr (by omega)
  refine call (mulN 40 80 ha hr La Lr (by omega)) ?_
  rintro v w18 ⟨As, cs, rfl, hs, hE⟩
  replace ha := ha.ext hE
  replace hb := hb.ext hE
  replace hc := hc.ext hE
  replace hp := hp.ext hE
  replace hq := hq.ext hE
  replace hr := hr.ext hE
  replace hE0 := hE0.trans hE
  refine call (sameT hq hs (Nat.mul_assoc _ _ _)) ?_
  rintro v w19 ⟨rfl, hE⟩
  replace ha := ha.ext hE
  replace hb := hb.ext hE
  replace hc := hc.ext hE
  replace hp := hp.ext hE
  replace hq := hq.ext hE
  replace hr := hr.ext hE
  replace hs := hs.ext hE
  replace hE0 := hE0.trans hE
  refine wif_t rfl ?_
  have Lp : Lt 80 _ := lt_mul La Lb (by omega)
  refine call (mulN 40 40 ha hb La Lb (by omega)) ?_
  rintro v w20 ⟨Ap, cp, rfl, hp, hE⟩
  replace ha := ha.ext hE
  replace hb := hb.ext hE
  replace hc := hc.ext hE
  replace hq := hq.ext hE
  replace hr := hr.ext hE
  replace hs := hs.ext hE
  replace hE0 := hE0.trans hE
  have Lr : Lt 80 _ := lt_mul Lb La (by omega)
  refine call (mulN 40 40 hb ha Lb La (by omega)) ?_
  rintro v w21 ⟨Ar, cr, rfl, hr, hE⟩
  replace ha := ha.ext hE
  replace hb := hb.ext hE
  replace hc := hc.ext hE
  replace hq := hq.ext hE
  replace hs := hs.ext hE
  replace hp := hp.ext hE
  replace hE0 := hE0.trans hE
  refine call (sameT hp hr (Nat.mul_comm _ _)) ?_
  rintro v w22 ⟨rfl, hE⟩
  replace ha := ha.ext hE
  replace hb := hb.ext hE
  replace hc := hc.ext hE
  replace hq := hq.ext hE
  replace hs := hs.ext hE
  replace hp := hp.ext hE
  replace hr := hr.ext hE
  replace hE0 := hE0.trans hE
  refine wif_t rfl ?_
  refine at_build1 gx_ok rfl rfl rfl rfl rfl rfl rfl rfl ?_
  intro w hE hsz hB
  replace ha := ha.ext hE
  replace hb := hb.ext hE
  replace hc := hc.ext hE
  replace hE0 := hE0.trans hE
  have h1 : NV w _ 1 1 := Sl.own' hB rfl (by rw [toL_one]; simp [maxLen])
  have L1 : Lt 1 1 := by decide
  have Lr : Lt 41 _ := lt_mul La L1 (by omega)
  refine call (mulN 40 1 ha h1 La L1 (by omega)) ?_
  rintro v w23 ⟨Ar, cr, rfl, hr, hE⟩
  replace ha := ha.ext hE
  replace hb := hb.ext hE
  replace hc := hc.ext hE
  replace h1 := h1.ext hE
  replace hE0 := hE0.trans hE
  refine call (sameT hr ha (Nat.mul_one _)) ?_
  rintro v w24 ⟨rfl, hE⟩
  replace ha := ha.ext hE
  replace hb := hb.ext hE
  replace hc := hc.ext hE
  replace h1 := h1.ext hE
  replace hr := hr.ext hE
  replace hE0 := hE0.trans hE
  refine wif_t rfl ?_
  refine call (mulN 40 0 ha (nv_zero _) La Lz (by omega)) ?_
  rintro v w25 ⟨As, cs, rfl, hs, hE⟩
  replace ha := ha.ext hE
  replace hb := hb.ext hE
  replace hc := hc.ext hE
  replace h1 := h1.ext hE
  replace hr := hr.ext hE
  replace hE0 := hE0.trans hE
  rw [Nat.mul_zero]
  refine wif_t rfl ?_
  refine wif_eqt rfl ?_
  have Lr : Lt 41 _ := lt_add Lb Lc (by omega)
  refine call (addN 41 hb hc Lr (by omega)) ?_
  rintro v w26 ⟨Ar, cr, rfl, hr, hE⟩
  replace ha := ha.ext hE
  replace hb := hb.ext hE
  replace hc := hc.ext hE
  replace hE0 := hE0.trans hE
  have Ls : Lt 81 _ := lt_mul La Lr (by omega)
  refine call (mulN 40 41 ha hr La Lr (by omega)) ?_
  rintro v w27 ⟨As, cs, rfl, hs, hE⟩
  replace ha := ha.ext hE
  replace hb := hb.ext hE
  replace hc := hc.ext hE
  replace hr := hr.ext hE
  replace hE0 := hE0.trans hE
  have Lp : Lt 80 _ := lt_mul La Lb (by omega)
  refine call (mulN 40 40 ha hb La Lb (by omega)) ?_
  rintro v w28 ⟨Ap, cp, rfl, hp, hE⟩
  replace ha := ha.ext hE
  replace hb := hb.ext hE
  replace hc := hc.ext hE
  replace hr := hr.ext hE
  replace hs := hs.ext hE
  replace hE0 := hE0.trans hE
  have Lq : Lt 80 _ := lt_mul La Lc (by omega)
  refine call (mulN 40 40 ha hc La Lc (by omega)) ?_
  rintro v w29 ⟨Aq, cq, rfl, hq, hE⟩
  replace ha := ha.ext hE
  replace hb := hb.ext hE
  replace hc := hc.ext hE
  replace hr := hr.ext hE
  replace hs := hs.ext hE
  replace hp := hp.ext hE
  replace hE0 := hE0.trans hE
  have Lr : Lt 81 _ := lt_add Lp Lq (by omega)
  refine call (addN 81 hp hq Lr (by omega)) ?_
  rintro v w30 ⟨Ar, cr, rfl, hr, hE⟩
  replace ha := ha.ext hE
  replace hb := hb.ext hE
  replace hc := hc.ext hE
  replace hs := hs.ext hE
  replace hp := hp.ext hE
  replace hq := hq.ext hE
  replace hE0 := hE0.trans hE
  refine call (sameT hs hr (Nat.mul_add _ _ _)) ?_
  rintro v w31 ⟨rfl, hE⟩
  replace ha := ha.ext hE
  replace hb := hb.ext hE
  replace hc := hc.ext hE
  replace hs := hs.ext hE
  replace hp := hp.ext hE
  replace hq := hq.ext hE
  replace hr := hr.ext hE
  replace hE0 := hE0.trans hE
  refine wif_t rfl ?_
  exact And.intro rfl hE0
end Go.Proofs.Ytpalpikenkkhlaa
