/-
  The walk of the law NaturalCanonical.
  Conditions: none.
-/
import Derived.Test.YtpalpikenkkhlaaT14
namespace Go.Proofs.Ytpalpikenkkhlaa
open Go Go.RowKit

theorem naturalCanonical_law (A0 : Option Addr) (n0 c0 : Nat) (l0 : List Nat) (A1 : Option Addr) (n1 c1 : Nat) (l1 : List Nat) (N : Nat) (w0 : World) (h0 : SN w0 A0 n0 c0 l0) (L0 : Limbs l0) (h1 : SN w0 A1 n1 c1 l1) (L1 : Limbs l1) (hN : N < 18446744073709551616) :
    Fn Try.prog 13 [.slice A0 n0 c0, .slice A1 n1 c1, .int .u64 N] w0 (fun v w' => v = .bool true ∧ Ext w0 w') := by
  refine fn_of_exec (c := { c13 with cuts := [] }) gx_ok Try.func13 rfl rfl rfl ?_
  refine call (sanityN w0) ?_
  rintro v w1 ⟨rfl, hE0⟩
  replace h0 := h0.ext hE0
  replace h1 := h1.ext hE0
  refine call (madeN _ _ _ _ 40 _ h0 L0 (by omega)) ?_
  rintro v w2 ⟨Aa, ca, a, rfl, La, ha, hE⟩
  replace h0 := h0.ext hE
  replace h1 := h1.ext hE
  replace hE0 := hE0.trans hE
  refine call (madeN _ _ _ _ 40 _ h1 L1 (by omega)) ?_
  rintro v w3 ⟨Ab, cb, b, rfl, Lb, hb, hE⟩
  replace h0 := h0.ext hE
  replace h1 := h1.ext hE
  replace ha := ha.ext hE
  replace hE0 := hE0.trans hE
  have LN : Lt 2 N := hN
  have hlN : (toL N).length ≤ 2 := lt_len LN
  refine call (divN 40 40 ha hb La Lb (by omega) (by omega)) ?_
  rintro v w4 ⟨Aq, cq, Ar, cr, q, r, rfl, eq, er, hq, hr, hE⟩
  replace ha := ha.ext hE
  replace hb := hb.ext hE
  replace hE0 := hE0.trans hE
  refine call (subN 40 40 ha hb La Lb (by omega) (by omega)) ?_
  rintro v w5 ⟨Ad, cd, rfl, hd, hE⟩
  replace ha := ha.ext hE
  replace hb := hb.ext hE
  replace hq := hq.ext hE
  replace hr := hr.ext hE
  replace hE0 := hE0.trans hE
  refine call (ofN N _ hN) ?_
  rintro v w6 ⟨Ao, co, rfl, ho, hE⟩
  replace ha := ha.ext hE
  replace hb := hb.ext hE
  replace hq := hq.ext hE
  replace hr := hr.ext hE
  replace hd := hd.ext hE
  replace hE0 := hE0.trans hE
  refine call (uint64N 2 ho LN (by omega)) ?_
  rintro v w7 ⟨rfl, hE⟩
  replace ha := ha.ext hE
  replace hb := hb.ext hE
  replace hq := hq.ext hE
  replace hr := hr.ext hE
  replace hd := hd.ext hE
  replace ho := ho.ext hE
  replace hE0 := hE0.trans hE
  rw [if_pos hlN, decide_eq_true hlN]
  refine call (uint64N 40 ha La (by omega)) ?_
  rintro v w8 ⟨rfl, hE⟩
  replace ha := ha.ext hE
  replace hb := hb.ext hE
  replace hq := hq.ext hE
  replace hr := hr.ext hE
  replace hd := hd.ext hE
  replace ho := ho.ext hE
  replace hE0 := hE0.trans hE
  have Lq : Lt 40 q := lt_le La (by rw [eq]; exact Nat.div_le_self _ _)
  have Lr : Lt 40 r := by rw [er]; split; (exact Nat.pow_pos (by omega)); exact lt_le La (Nat.mod_le _ _)
  have Ld : Lt 40 (a - b) := lt_le La (Nat.sub_le _ _)
  have Lp : Lt 41 _ := lt_add La Lb (by omega)
  refine call (addN 41 ha hb Lp (by omega)) ?_
  rintro v w9 ⟨Ap, cp, rfl, hp, hE⟩
  replace ha := ha.ext hE
  replace hb := hb.ext hE
  replace hq := hq.ext hE
  replace hr := hr.ext hE
  replace hd := hd.ext hE
  replace ho := ho.ext hE
  replace hE0 := hE0.trans hE
  refine call (validN 41 hp Lp (by omega)) ?_
  rintro v w10 ⟨rfl, hE⟩
  replace ha := ha.ext hE
  replace hb := hb.ext hE
  replace hq := hq.ext hE
  replace hr := hr.ext hE
  replace hd := hd.ext hE
  replace ho := ho.ext hE
  replace hp := hp.ext hE
  replace hE0 := hE0.trans hE
  refine wif_t rfl ?_
  have Lm : Lt 80 _ := lt_mul La Lb (by omega)
  refine call (mulN 40 40 ha hb La Lb (by omega)) ?_
  rintro v w11 ⟨Am, cm, rfl, hm, hE⟩
  replace ha := ha.ext hE
  replace hb := hb.ext hE
  replace hq := hq.ext hE
  replace hr := hr.ext hE
  replace hd := hd.ext hE
  replace ho := ho.ext hE
  replace hp := hp.ext hE
  replace hE0 := hE0.trans hE
  refine call (validN 80 hm Lm (by omega)) ?_
  rintro v w12 ⟨rfl, hE⟩
  replace ha := ha.ext hE
  replace hb := hb.ext hE
  replace hq := hq.ext hE
  replace hr := hr.ext hE
  replace hd := hd.ext hE
  replace ho := ho.ext hE
  replace hp := hp.ext hE
  replace hm := hm.ext hE
  replace hE0 := hE0.trans hE
  refine wif_t rfl ?_
  refine call (validN 40 hq Lq (by omega)) ?_
  rintro v w13 ⟨rfl, hE⟩
  replace ha := ha.ext hE
  replace hb := hb.ext hE
  replace hq := hq.ext hE
  replace hr := hr.ext hE
  replace hd := hd.ext hE
  replace ho := ho.ext hE
  replace hp := hp.ext hE
  replace hm := hm.ext hE
  replace hE0 := hE0.trans hE
  refine wif_t rfl ?_
  refine call (validN 40 hr Lr (by omega)) ?_
  rintro v w14 ⟨rfl, hE⟩
  replace ha := ha.ext hE
  replace hb := hb.ext hE
  replace hq := hq.ext hE
  replace hr := hr.ext hE
  replace hd := hd.ext hE
  replace ho := ho.ext hE
  replace hp := hp.ext hE
  replace hm := hm.ext hE
  replace hE0 := hE0.trans hE
  refine wif_t rfl ?_
  refine call (validN 40 hd Ld (by omega)) ?_
  rintro v w15 ⟨rfl, hE⟩
  replace ha := ha.ext hE
  replace hb := hb.ext hE
  replace hq := hq.ext hE
  replace hr := hr.ext hE
  replace hd := hd.ext hE
  replace ho := ho.ext hE
  replace hp := hp.ext hE
  replace hm := hm.ext hE
  replace hE0 := hE0.trans hE
  refine wif_t rfl ?_
  refine call (ofN N _ hN) ?_
  rintro v w16 ⟨Ao, co, rfl, ho, hE⟩
  replace ha := ha.ext hE
  replace hb := hb.ext hE
  replace hq := hq.ext hE
  replace hr := hr.ext hE
  replace hd := hd.ext hE
  replace hp := hp.ext hE
  replace hm := hm.ext hE
  replace hE0 := hE0.trans hE
  refine call (validN 2 ho LN (by omega)) ?_
  rintro v w17 ⟨rfl, hE⟩
  replace ha := ha.ext hE
  replace hb := hb.ext hE
  replace hq := hq.ext hE
  replace hr := hr.ext hE
  replace hd := hd.ext hE
  replace hp := hp.ext hE
  replace hm := hm.ext hE
  replace ho := ho.ext hE
  replace hE0 := hE0.trans hE
  refine wif_t rfl ?_
  refine wif_t rfl ?_
  refine wif_eqt rfl ?_
  refine wif_t (dec_int _ 2) ?_
  refine wif_not (wif_d (fun hs => ?_) (fun hs => ?_))
  · rw [if_pos hs]
    have haN : a < 18446744073709551616 := (toL_len a 2).1 hs
    refine call (ofN a _ haN) ?_
    rintro v w18 ⟨Ax, cx, rfl, hx, hE⟩
    replace ha := ha.ext hE
    replace hb := hb.ext hE
    replace hq := hq.ext hE
    replace hr := hr.ext hE
    replace hd := hd.ext hE
    replace hp := hp.ext hE
    replace hm := hm.ext hE
    replace ho := ho.ext hE
    replace hE0 := hE0.trans hE
    refine call (sameT hx ha (rfl)) ?_
    rintro v w19 ⟨rfl, hE⟩
    replace ha := ha.ext hE
    replace hb := hb.ext hE
    replace hq := hq.ext hE
    replace hr := hr.ext hE
    replace hd := hd.ext hE
    replace hp := hp.ext hE
    replace hm := hm.ext hE
    replace ho := ho.ext hE
    replace hx := hx.ext hE
    replace hE0 := hE0.trans hE
    refine wif_t rfl ?_
    exact And.intro rfl hE0
  · exact And.intro rfl hE0
end Go.Proofs.Ytpalpikenkkhlaa
