/-
  The walk of the law NaturalDivision.
  Conditions: none.
-/
import Derived.Test.YtpalpikenkkhlaaT13
namespace Go.Proofs.Ytpalpikenkkhlaa
open Go Go.RowKit

theorem naturalDivision_law (A0 : Option Addr) (n0 c0 : Nat) (l0 : List Nat) (A1 : Option Addr) (n1 c1 : Nat) (l1 : List Nat) (w0 : World) (h0 : SN w0 A0 n0 c0 l0) (L0 : Limbs l0) (h1 : SN w0 A1 n1 c1 l1) (L1 : Limbs l1) :
    Fn Try.prog 8 [.slice A0 n0 c0, .slice A1 n1 c1] w0 (fun v w' => v = .bool true ∧ Ext w0 w') := by
  refine fn_of_exec (c := { c8 with cuts := [] }) gx_ok Try.func8 rfl rfl rfl ?_
  refine call (sanityN w0) ?_
  rintro v w1 ⟨rfl, hE0⟩
  replace h0 := h0.ext hE0
  replace h1 := h1.ext hE0
  refine call (madeN _ _ _ _ 40 _ h0 L0 (by omega)) ?_
  rintro v w2 ⟨Aa, ca, a, rfl, La, ha, hE⟩
  replace h0 := h0.ext hE
  replace h1 := h1.ext hE
  replace hE0 := hE0.trans hE
  refine call (madeN _ _ _ _ 20 _ h1 L1 (by omega)) ?_
  rintro v w3 ⟨Ab, cb, b, rfl, Lb, hb, hE⟩
  replace h0 := h0.ext hE
  replace h1 := h1.ext hE
  replace ha := ha.ext hE
  replace hE0 := hE0.trans hE
  refine call (divN 40 20 ha hb La Lb (by omega) (by omega)) ?_
  rintro v w4 ⟨Aq, cq, Ar, cr, q, r, rfl, eq, er, hq, hr, hE⟩
  replace h0 := h0.ext hE
  replace h1 := h1.ext hE
  replace ha := ha.ext hE
  replace hb := hb.ext hE
  replace hE0 := hE0.trans hE
  refine wif_eq (fun hz => ?_) (fun hz => ?_)
  · have hb0 : b = 0 := len_zero.1 (by omega)
    subst hb0
    rw [if_pos rfl] at er
    have eq0 : q = 0 := by rw [eq]; simp
    subst eq0; subst er
    refine wif_eqt rfl ?_
    refine wif_eqt rfl ?_
    refine wif_eqt rfl ?_
    exact And.intro rfl hE0
  · have hb0 : b ≠ 0 := fun e => hz (by rw [e]; rfl)
    rw [if_neg hb0] at er ⊢
    have Lm : Lt 60 _ := lt_mul La Lb (by omega)
    refine call (mulN 40 20 ha hb La Lb (by omega)) ?_
    rintro v w5 ⟨Am, cm, rfl, hm, hE⟩
    replace h0 := h0.ext hE
    replace h1 := h1.ext hE
    replace ha := ha.ext hE
    replace hb := hb.ext hE
    replace hq := hq.ext hE
    replace hr := hr.ext hE
    replace hE0 := hE0.trans hE
    refine call (divN 60 20 hm hb Lm Lb (by omega) (by omega)) ?_
    rintro v w6 ⟨Ap, cp, As, cs, p, s, rfl, ep, es, hp, hs, hE⟩
    replace h0 := h0.ext hE
    replace h1 := h1.ext hE
    replace ha := ha.ext hE
    replace hb := hb.ext hE
    replace hq := hq.ext hE
    replace hr := hr.ext hE
    replace hm := hm.ext hE
    replace hE0 := hE0.trans hE
    rw [if_neg hb0] at es ⊢
    rw [Nat.mul_div_cancel _ (by omega)] at ep
    rw [Nat.mul_mod_left] at es
    subst es; subst ep
    have Lq : Lt 40 q := lt_le La (by rw [eq]; exact Nat.div_le_self _ _)
    have Lr : Lt 20 r := lt_le Lb (by rw [er]; exact Nat.le_of_lt (Nat.mod_lt _ (by omega)))
    have hqr : q * b + r = p := by rw [eq, er, Nat.mul_comm]; exact Nat.div_add_mod _ _
    have Lm : Lt 60 _ := lt_mul Lq Lb (by omega)
    refine call (mulN 40 20 hq hb Lq Lb (by omega)) ?_
    rintro v w7 ⟨Am, cm, rfl, hm, hE⟩
    replace h0 := h0.ext hE
    replace h1 := h1.ext hE
    replace ha := ha.ext hE
    replace hb := hb.ext hE
    replace hq := hq.ext hE
    replace hr := hr.ext hE
    replace hp := hp.ext hE
    replace hs := hs.ext hE
    replace hE0 := hE0.trans hE
    have Ln : Lt 41 (q * b + r) := by rw [hqr]; exact lt_up La (by omega)
    refine call (addN 41 hm hr Ln (by omega)) ?_
    rintro v w8 ⟨An, cn, rfl, hn, hE⟩
    replace h0 := h0.ext hE
    replace h1 := h1.ext hE
    replace ha := ha.ext hE
    replace hb := hb.ext hE
    replace hq := hq.ext hE
    replace hr := hr.ext hE
    replace hp := hp.ext hE
    replace hs := hs.ext hE
    replace hm := hm.ext hE
    replace hE0 := hE0.trans hE
    refine call (sameT hn ha (hqr)) ?_
    rintro v w9 ⟨rfl, hE⟩
    replace ha := ha.ext hE
    replace hb := hb.ext hE
    replace hp := hp.ext hE
    replace hs := hs.ext hE
    replace hr := hr.ext hE
    replace hn := hn.ext hE
    replace hE0 := hE0.trans hE
    refine wif_t rfl ?_
    refine call (compareN 20 20 hr hb Lr Lb (by omega) (by omega)) ?_
    rintro v w10 ⟨rfl, hE⟩
    replace ha := ha.ext hE
    replace hb := hb.ext hE
    replace hp := hp.ext hE
    replace hs := hs.ext hE
    replace hr := hr.ext hE
    replace hn := hn.ext hE
    replace hE0 := hE0.trans hE
    have hlt : r < b := by rw [er]; exact Nat.mod_lt _ (by omega)
    rw [show cmpN r b = -1 from if_pos hlt]
    refine wif_eqt rfl ?_
    refine wif_eqt rfl ?_
    refine wif_t rfl ?_
    refine call (sameT hp ha (rfl)) ?_
    rintro v w11 ⟨rfl, hE⟩
    replace ha := ha.ext hE
    replace hb := hb.ext hE
    replace hp := hp.ext hE
    replace hs := hs.ext hE
    replace hr := hr.ext hE
    replace hn := hn.ext hE
    replace hE0 := hE0.trans hE
    refine wif_t rfl ?_
    refine wif_eqt rfl ?_
    exact And.intro rfl hE0
end Go.Proofs.Ytpalpikenkkhlaa
