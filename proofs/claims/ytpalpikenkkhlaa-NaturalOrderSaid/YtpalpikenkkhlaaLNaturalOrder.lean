/-
  The walk of the law NaturalOrder.
  Conditions: none.
-/
import Derived.Test.YtpalpikenkkhlaaT13
namespace Go.Proofs.Ytpalpikenkkhlaa
open Go Go.RowKit

theorem naturalOrder_law (A0 : Option Addr) (n0 c0 : Nat) (l0 : List Nat) (A1 : Option Addr) (n1 c1 : Nat) (l1 : List Nat) (A2 : Option Addr) (n2 c2 : Nat) (l2 : List Nat) (w0 : World) (h0 : SN w0 A0 n0 c0 l0) (L0 : Limbs l0) (h1 : SN w0 A1 n1 c1 l1) (L1 : Limbs l1) (h2 : SN w0 A2 n2 c2 l2) (L2 : Limbs l2) :
    Fn Try.prog 7 [.slice A0 n0 c0, .slice A1 n1 c1, .slice A2 n2 c2] w0 (fun v w' => v = .bool true ∧ Ext w0 w') := by
  refine fn_of_exec (c := { c7 with cuts := [8] }) gx_ok Try.func7 rfl rfl rfl ?_
  refine call (sanityN w0) ?_
  rintro v w1 ⟨rfl, hE0⟩
  replace h0 := h0.ext hE0
  replace h1 := h1.ext hE0
  replace h2 := h2.ext hE0
  refine call (madeN _ _ _ _ 40 _ h0 L0 (by omega)) ?_
  rintro v w2 ⟨Aa, ca, a, rfl, La, ha, hE⟩
  replace h0 := h0.ext hE
  replace h1 := h1.ext hE
  replace h2 := h2.ext hE
  replace hE0 := hE0.trans hE
  refine call (madeN _ _ _ _ 40 _ h1 L1 (by omega)) ?_
  rintro v w3 ⟨Ab, cb, b, rfl, Lb, hb, hE⟩
  replace h0 := h0.ext hE
  replace h1 := h1.ext hE
  replace h2 := h2.ext hE
  replace ha := ha.ext hE
  replace hE0 := hE0.trans hE
  refine call (madeN _ _ _ _ 40 _ h2 L2 (by omega)) ?_
  rintro v w4 ⟨Ac, cc, c, rfl, Lc, hc, hE⟩
  replace h0 := h0.ext hE
  replace h1 := h1.ext hE
  replace h2 := h2.ext hE
  replace ha := ha.ext hE
  replace hb := hb.ext hE
  replace hE0 := hE0.trans hE
  refine call (compareN 40 40 ha hb La Lb (by omega) (by omega)) ?_
  rintro v w5 ⟨rfl, hE⟩
  replace h0 := h0.ext hE
  replace h1 := h1.ext hE
  replace h2 := h2.ext hE
  replace ha := ha.ext hE
  replace hb := hb.ext hE
  replace hc := hc.ext hE
  replace hE0 := hE0.trans hE
  refine call (compareN 40 40 hb ha Lb La (by omega) (by omega)) ?_
  rintro v w6 ⟨rfl, hE⟩
  replace h0 := h0.ext hE
  replace h1 := h1.ext hE
  replace h2 := h2.ext hE
  replace ha := ha.ext hE
  replace hb := hb.ext hE
  replace hc := hc.ext hE
  replace hE0 := hE0.trans hE
  refine norm (m := cmpN a b) (cmpN_swap a b) ?_
  refine wif_nef rfl ?_
  refine call (sameN ha hb) ?_
  rintro v w7 ⟨rfl, hE⟩
  replace h0 := h0.ext hE
  replace h1 := h1.ext hE
  replace h2 := h2.ext hE
  replace ha := ha.ext hE
  replace hb := hb.ext hE
  replace hc := hc.ext hE
  replace hE0 := hE0.trans hE
  refine wif_f (cmpN_same a b) ?_
  refine wif_df (by have := cmpN_range a b; omega) ?_
  refine wif_df (by have := cmpN_range a b; omega) ?_
  refine cut gx_ok [] (fun _ : Unit => []) (fun _ w => Ext w0 w ∧ NV w Aa ca a ∧ NV w Ab cb b ∧ NV w Ac cc c) ?_ ?_
  · refine wif_d (fun h1 => ?_) (fun h1 => ?_)
    · refine call (compareN 40 40 hb hc Lb Lc (by omega) (by omega)) ?_
      rintro v w1 ⟨rfl, hE⟩
      refine wif_d (fun h2 => ?_) (fun h2 => ?_)
      · refine call (compareN 40 40 (ha.ext hE) (hc.ext hE) La Lc (by omega) (by omega)) ?_
        rintro v w2 ⟨rfl, hE2⟩
        refine wif_df (by have := cmpN_trans h1 h2; omega) ?_
        exact ⟨(), rfl, hE0.trans (hE.trans hE2), (ha.ext hE).ext hE2, (hb.ext hE).ext hE2, (hc.ext hE).ext hE2⟩
      · exact ⟨(), rfl, hE0.trans hE, ha.ext hE, hb.ext hE, hc.ext hE⟩
    · exact ⟨(), rfl, hE0, ha, hb, hc⟩
  clear ha hb hc hE0 h0 h1 h2
  rintro _ w100 ⟨hE0, ha, hb, hc⟩
  have Lp : Lt 41 _ := lt_add La Lc (by omega)
  refine call (addN 41 ha hc Lp (by omega)) ?_
  rintro v w101 ⟨Ap, cp, rfl, hp, hE⟩
  replace ha := ha.ext hE
  replace hb := hb.ext hE
  replace hc := hc.ext hE
  replace hE0 := hE0.trans hE
  have Lq : Lt 41 _ := lt_add Lb Lc (by omega)
  refine call (addN 41 hb hc Lq (by omega)) ?_
  rintro v w102 ⟨Aq, cq, rfl, hq, hE⟩
  replace ha := ha.ext hE
  replace hb := hb.ext hE
  replace hc := hc.ext hE
  replace hp := hp.ext hE
  replace hE0 := hE0.trans hE
  refine call (compareN 41 41 hp hq Lp Lq (by omega) (by omega)) ?_
  rintro v w103 ⟨rfl, hE⟩
  replace ha := ha.ext hE
  replace hb := hb.ext hE
  replace hc := hc.ext hE
  replace hp := hp.ext hE
  replace hq := hq.ext hE
  replace hE0 := hE0.trans hE
  refine wif_nef (cmpN_add a b c) ?_
  have Lr : Lt 41 _ := lt_add La Lb (by omega)
  refine call (addN 41 ha hb Lr (by omega)) ?_
  rintro v w104 ⟨Ar, cr, rfl, hr, hE⟩
  replace ha := ha.ext hE
  replace hb := hb.ext hE
  replace hc := hc.ext hE
  replace hp := hp.ext hE
  replace hq := hq.ext hE
  replace hE0 := hE0.trans hE
  refine call (compareN 41 40 hr ha Lr La (by omega) (by omega)) ?_
  rintro v w105 ⟨rfl, hE⟩
  replace ha := ha.ext hE
  replace hb := hb.ext hE
  replace hc := hc.ext hE
  replace hp := hp.ext hE
  replace hq := hq.ext hE
  replace hr := hr.ext hE
  replace hE0 := hE0.trans hE
  refine wif_df (by rw [cmpN_neg]; omega) ?_
  refine wif_eq (fun hz => ?_) (fun hz => ?_)
  · exact And.intro rfl hE0
  · have hc0 : 0 < c := Nat.pos_of_ne_zero (fun e => hz (by rw [e]; rfl))
    have Lp : Lt 80 _ := lt_mul La Lc (by omega)
    refine call (mulN 40 40 ha hc La Lc (by omega)) ?_
    rintro v w106 ⟨Ap, cp, rfl, hp, hE⟩
    replace ha := ha.ext hE
    replace hb := hb.ext hE
    replace hc := hc.ext hE
    replace hq := hq.ext hE
    replace hr := hr.ext hE
    replace hE0 := hE0.trans hE
    have Lq : Lt 80 _ := lt_mul Lb Lc (by omega)
    refine call (mulN 40 40 hb hc Lb Lc (by omega)) ?_
    rintro v w107 ⟨Aq, cq, rfl, hq, hE⟩
    replace ha := ha.ext hE
    replace hb := hb.ext hE
    replace hc := hc.ext hE
    replace hr := hr.ext hE
    replace hp := hp.ext hE
    replace hE0 := hE0.trans hE
    refine call (compareN 80 80 hp hq Lp Lq (by omega) (by omega)) ?_
    rintro v w108 ⟨rfl, hE⟩
    replace ha := ha.ext hE
    replace hb := hb.ext hE
    replace hc := hc.ext hE
    replace hr := hr.ext hE
    replace hp := hp.ext hE
    replace hq := hq.ext hE
    replace hE0 := hE0.trans hE
    refine wif_eqt (cmpN_mul a b hc0) ?_
    exact And.intro rfl hE0
end Go.Proofs.Ytpalpikenkkhlaa
