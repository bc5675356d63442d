/-
  The walk of the law NaturalMatchesReference.
  Conditions: none.
-/
import Derived.Test.YtpalpikenkkhlaaT15
namespace Go.Proofs.Ytpalpikenkkhlaa
open Go Go.RowKit

theorem naturalMatchesReference_law (Aa : Option Addr) (na ca : Nat) (a : List Nat) (Ab : Option Addr) (nb cb : Nat) (b : List Nat) (N : Nat) (w0 : World) (ha : SN w0 Aa na ca a) (La : Limbs a) (hb : SN w0 Ab nb cb b) (Lb : Limbs b) (hN : N < 18446744073709551616) :
    Fn Try.prog 12 [.slice Aa na ca, .slice Ab nb cb, .int .u64 N] w0 (fun v w' => v = .bool true ∧ Ext w0 w') := by
  refine fn_of_exec (c := { c12 with cuts := [2] }) gx_ok Try.func12 rfl rfl rfl ?_
  refine call (sanityN w0) ?_
  rintro v w1 ⟨rfl, hE0⟩
  replace ha := ha.ext hE0
  replace hb := hb.ext hE0
  refine cut gx_ok [] (fun _ : Unit => []) (fun _ w => w = w1) ?_ ?_
  · refine wif_d (fun h => ?_) (fun h => ?_)
    · exact And.intro rfl hE0
    · refine wif_d (fun h => ?_) (fun h => ?_)
      · exact And.intro rfl hE0
      · exact ⟨(), rfl, rfl⟩
  rintro _ w ⟨rfl⟩
  refine call (add_fn _ _ _ _ _ _ _ _ _ ha hb La Lb) ?_
  rintro v w2 ⟨As, cs, rfl, hs, hE⟩
  replace ha := ha.ext hE
  replace hb := hb.ext hE
  replace hE0 := hE0.trans hE
  refine call (radd_fn _ _ _ _ _ _ _ _ _ ha hb La Lb) ?_
  rintro v w3 ⟨Asr, csr, rfl, hsr, hE⟩
  replace ha := ha.ext hE
  replace hb := hb.ext hE
  replace hs := hs.ext hE
  replace hE0 := hE0.trans hE
  refine wif_nef rfl ?_
  refine call (same_fn _ _ _ _ _ _ _ _ _ hs hsr) ?_
  rintro v w4 ⟨rfl, hE⟩
  replace ha := ha.ext hE
  replace hb := hb.ext hE
  replace hs := hs.ext hE
  replace hsr := hsr.ext hE
  replace hE0 := hE0.trans hE
  refine wif_not (wif_dt rfl ?_)
  refine call (sub_fn _ _ _ _ _ _ _ _ _ ha hb La Lb) ?_
  rintro v w5 ⟨Ad, cd, rfl, hd, hE⟩
  replace ha := ha.ext hE
  replace hb := hb.ext hE
  replace hs := hs.ext hE
  replace hsr := hsr.ext hE
  replace hE0 := hE0.trans hE
  refine call (rsub_fn _ _ _ _ _ _ _ _ _ ha hb La Lb) ?_
  rintro v w6 ⟨Adr, cdr, rfl, hdr, hE⟩
  replace ha := ha.ext hE
  replace hb := hb.ext hE
  replace hs := hs.ext hE
  replace hsr := hsr.ext hE
  replace hd := hd.ext hE
  replace hE0 := hE0.trans hE
  refine wif_nef rfl ?_
  refine call (same_fn _ _ _ _ _ _ _ _ _ hd hdr) ?_
  rintro v w7 ⟨rfl, hE⟩
  replace ha := ha.ext hE
  replace hb := hb.ext hE
  replace hs := hs.ext hE
  replace hsr := hsr.ext hE
  replace hd := hd.ext hE
  replace hdr := hdr.ext hE
  replace hE0 := hE0.trans hE
  refine wif_not (wif_dt rfl ?_)
  refine call (mul_fn _ _ _ _ _ _ _ _ _ ha hb La Lb) ?_
  rintro v w8 ⟨Ap, cp, rfl, hp, hE⟩
  replace ha := ha.ext hE
  replace hb := hb.ext hE
  replace hs := hs.ext hE
  replace hsr := hsr.ext hE
  replace hd := hd.ext hE
  replace hdr := hdr.ext hE
  replace hE0 := hE0.trans hE
  refine call (rmul_fn _ _ _ _ _ _ _ _ _ ha hb La Lb) ?_
  rintro v w9 ⟨Apr, cpr, rfl, hpr, hE⟩
  replace ha := ha.ext hE
  replace hb := hb.ext hE
  replace hs := hs.ext hE
  replace hsr := hsr.ext hE
  replace hd := hd.ext hE
  replace hdr := hdr.ext hE
  replace hp := hp.ext hE
  replace hE0 := hE0.trans hE
  refine wif_nef rfl ?_
  refine call (same_fn _ _ _ _ _ _ _ _ _ hp hpr) ?_
  rintro v w10 ⟨rfl, hE⟩
  replace ha := ha.ext hE
  replace hb := hb.ext hE
  replace hs := hs.ext hE
  replace hsr := hsr.ext hE
  replace hd := hd.ext hE
  replace hdr := hdr.ext hE
  replace hp := hp.ext hE
  replace hpr := hpr.ext hE
  replace hE0 := hE0.trans hE
  refine wif_not (wif_dt rfl ?_)
  refine call (div_fn _ _ _ _ _ _ _ _ _ ha hb La Lb) ?_
  rintro v w11 ⟨Aq, cq, Ar, cr, rfl, hq, hr, hE⟩
  replace ha := ha.ext hE
  replace hb := hb.ext hE
  replace hs := hs.ext hE
  replace hsr := hsr.ext hE
  replace hd := hd.ext hE
  replace hdr := hdr.ext hE
  replace hp := hp.ext hE
  replace hpr := hpr.ext hE
  replace hE0 := hE0.trans hE
  refine call (rdiv_fn _ _ _ _ _ _ _ _ _ ha hb La Lb) ?_
  rintro v w12 ⟨Aqr, cqr, Arr, crr, rfl, hqr, hrr, hE⟩
  replace ha := ha.ext hE
  replace hb := hb.ext hE
  replace hs := hs.ext hE
  replace hsr := hsr.ext hE
  replace hd := hd.ext hE
  replace hdr := hdr.ext hE
  replace hp := hp.ext hE
  replace hpr := hpr.ext hE
  replace hq := hq.ext hE
  replace hr := hr.ext hE
  replace hE0 := hE0.trans hE
  refine call (uint64_fn _ _ _ _ _ ha La) ?_
  rintro v w ⟨rfl, rfl⟩
  refine call (ruint64_fn _ _ _ _ _ ha La) ?_
  rintro v w ⟨rfl, rfl⟩
  refine call (valid_fn _ _ _ _ _ ha) ?_
  rintro v w ⟨rfl, rfl⟩
  refine call (rvalid_fn _ _ _ _ _ ha) ?_
  rintro v w ⟨rfl, rfl⟩
  refine wif_t (beq_self_eq_true _) ?_
  refine call (compare_fn _ _ _ _ _ _ _ _ _ ha hb La Lb) ?_
  rintro v w13 ⟨rfl, hE⟩
  replace ha := ha.ext hE
  replace hb := hb.ext hE
  replace hs := hs.ext hE
  replace hsr := hsr.ext hE
  replace hd := hd.ext hE
  replace hdr := hdr.ext hE
  replace hp := hp.ext hE
  replace hpr := hpr.ext hE
  replace hq := hq.ext hE
  replace hr := hr.ext hE
  replace hqr := hqr.ext hE
  replace hrr := hrr.ext hE
  replace hE0 := hE0.trans hE
  refine call (rcompare_fn _ _ _ _ _ _ _ _ _ ha hb La Lb) ?_
  rintro v w14 ⟨rfl, hE⟩
  replace ha := ha.ext hE
  replace hb := hb.ext hE
  replace hs := hs.ext hE
  replace hsr := hsr.ext hE
  replace hd := hd.ext hE
  replace hdr := hdr.ext hE
  replace hp := hp.ext hE
  replace hpr := hpr.ext hE
  replace hq := hq.ext hE
  replace hr := hr.ext hE
  replace hqr := hqr.ext hE
  replace hrr := hrr.ext hE
  replace hE0 := hE0.trans hE
  refine wif_eqt rfl ?_
  refine wif_eqt rfl ?_
  refine wif_t (beq_self_eq_true _) ?_
  refine call (of_fn N _ hN) ?_
  rintro v w15 ⟨Ao, co, rfl, ho, hE⟩
  replace ha := ha.ext hE
  replace hb := hb.ext hE
  replace hs := hs.ext hE
  replace hsr := hsr.ext hE
  replace hd := hd.ext hE
  replace hdr := hdr.ext hE
  replace hp := hp.ext hE
  replace hpr := hpr.ext hE
  replace hq := hq.ext hE
  replace hr := hr.ext hE
  replace hqr := hqr.ext hE
  replace hrr := hrr.ext hE
  replace hE0 := hE0.trans hE
  refine call (rof_fn N _ hN) ?_
  rintro v w16 ⟨Ap, cp, rfl, hp, hE⟩
  replace ha := ha.ext hE
  replace hb := hb.ext hE
  replace hs := hs.ext hE
  replace hsr := hsr.ext hE
  replace hd := hd.ext hE
  replace hdr := hdr.ext hE
  replace hpr := hpr.ext hE
  replace hq := hq.ext hE
  replace hr := hr.ext hE
  replace hqr := hqr.ext hE
  replace hrr := hrr.ext hE
  replace ho := ho.ext hE
  replace hE0 := hE0.trans hE
  refine call (same_fn _ _ _ _ _ _ _ _ _ ho hp) ?_
  rintro v w17 ⟨rfl, hE⟩
  replace ha := ha.ext hE
  replace hb := hb.ext hE
  replace hs := hs.ext hE
  replace hsr := hsr.ext hE
  replace hd := hd.ext hE
  replace hdr := hdr.ext hE
  replace hpr := hpr.ext hE
  replace hq := hq.ext hE
  replace hr := hr.ext hE
  replace hqr := hqr.ext hE
  replace hrr := hrr.ext hE
  replace ho := ho.ext hE
  replace hp := hp.ext hE
  replace hE0 := hE0.trans hE
  refine wif_eqt rfl ?_
  refine call (same_fn _ _ _ _ _ _ _ _ _ hq hqr) ?_
  rintro v w18 ⟨rfl, hE⟩
  replace ha := ha.ext hE
  replace hb := hb.ext hE
  replace hs := hs.ext hE
  replace hsr := hsr.ext hE
  replace hd := hd.ext hE
  replace hdr := hdr.ext hE
  replace hpr := hpr.ext hE
  replace hq := hq.ext hE
  replace hr := hr.ext hE
  replace hqr := hqr.ext hE
  replace hrr := hrr.ext hE
  replace ho := ho.ext hE
  replace hp := hp.ext hE
  replace hE0 := hE0.trans hE
  refine wif_dt rfl ?_
  refine call (same_fn _ _ _ _ _ _ _ _ _ hr hrr) ?_
  rintro v w19 ⟨rfl, hE⟩
  replace ha := ha.ext hE
  replace hb := hb.ext hE
  replace hs := hs.ext hE
  replace hsr := hsr.ext hE
  replace hd := hd.ext hE
  replace hdr := hdr.ext hE
  replace hpr := hpr.ext hE
  replace hq := hq.ext hE
  replace hr := hr.ext hE
  replace hqr := hqr.ext hE
  replace hrr := hrr.ext hE
  replace ho := ho.ext hE
  replace hp := hp.ext hE
  replace hE0 := hE0.trans hE
  refine wif_dt rfl ?_
  refine wif_dt rfl ?_
  exact And.intro rfl hE0
end Go.Proofs.Ytpalpikenkkhlaa
