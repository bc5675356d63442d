/-
  The walk of the law NaturalLimits.
  Conditions: none.
-/
import Derived.Test.YtpalpikenkkhlaaT14
namespace Go.Proofs.Ytpalpikenkkhlaa
open Go Go.RowKit

theorem naturalLimits_law (x k : Nat) (A2 : Option Addr) (n2 c2 : Nat) (l2 : List Nat) (w0 : World) (hx : x < 4294967296) (h2 : SN w0 A2 n2 c2 l2) (L2 : Limbs l2) :
    Fn Try.prog 10 [.int .u32 x, .int .u8 k, .slice A2 n2 c2] w0 (fun v w' => v = .bool true ∧ Ext w0 w') := by
  refine fn_of_exec (c := { c10 with cuts := [] }) gx_ok Try.func10 rfl rfl rfl ?_
  refine call (sanityN w0) ?_
  rintro v w1 ⟨rfl, hE0⟩
  replace h2 := h2.ext hE0
  refine norm_rem (d := 10) (by omega) ?_
  refine norm_i64 (by omega) ?_
  refine norm_i64_to ((1020 + k % 10 : Nat) : Int) (by omega) (by omega) ?_
  refine call (long_fn x (1020 + k % 10) _ hx (by omega)) ?_
  rintro v w2 ⟨Aa, ca, rfl, ha, hE⟩
  replace h2 := h2.ext hE
  replace hE0 := hE0.trans hE
  have La := limbs_toL (val (List.replicate (1020 + k % 10) x))
  generalize toL (val (List.replicate (1020 + k % 10) x)) = a at ha La ⊢
  refine call (made_fn _ _ _ _ 4 _ h2 L2 (by omega)) ?_
  rintro v w3 ⟨Ab, cb, rfl, hb, hE⟩
  replace h2 := h2.ext hE
  replace ha := ha.ext hE
  replace hE0 := hE0.trans hE
  have Lb := limbs_toL (val (l2.take 4))
  generalize toL (val (l2.take 4)) = b at hb Lb ⊢
  refine call (add_fn _ _ _ _ _ _ _ _ _ ha hb La Lb) ?_
  rintro v w4 ⟨As, cs, rfl, hs, hE⟩
  replace h2 := h2.ext hE
  replace ha := ha.ext hE
  replace hb := hb.ext hE
  replace hE0 := hE0.trans hE
  refine call (radd_fn _ _ _ _ _ _ _ _ _ ha hb La Lb) ?_
  rintro v w5 ⟨Asr, csr, rfl, hsr, hE⟩
  replace h2 := h2.ext hE
  replace ha := ha.ext hE
  replace hb := hb.ext hE
  replace hs := hs.ext hE
  replace hE0 := hE0.trans hE
  refine call (mul_fn _ _ _ _ _ _ _ _ _ hb ha Lb La) ?_
  rintro v w6 ⟨Ap, cp, rfl, hp, hE⟩
  replace h2 := h2.ext hE
  replace ha := ha.ext hE
  replace hb := hb.ext hE
  replace hs := hs.ext hE
  replace hsr := hsr.ext hE
  replace hE0 := hE0.trans hE
  refine call (rmul_fn _ _ _ _ _ _ _ _ _ hb ha Lb La) ?_
  rintro v w7 ⟨Apr, cpr, rfl, hpr, hE⟩
  replace h2 := h2.ext hE
  replace ha := ha.ext hE
  replace hb := hb.ext hE
  replace hs := hs.ext hE
  replace hsr := hsr.ext hE
  replace hp := hp.ext hE
  replace hE0 := hE0.trans hE
  refine call (sub_fn _ _ _ _ _ _ _ _ _ ha hb La Lb) ?_
  rintro v w8 ⟨Ad, cd, rfl, hd, hE⟩
  replace h2 := h2.ext hE
  replace ha := ha.ext hE
  replace hb := hb.ext hE
  replace hs := hs.ext hE
  replace hsr := hsr.ext hE
  replace hp := hp.ext hE
  replace hpr := hpr.ext hE
  replace hE0 := hE0.trans hE
  refine call (rsub_fn _ _ _ _ _ _ _ _ _ ha hb La Lb) ?_
  rintro v w9 ⟨Adr, cdr, rfl, hdr, hE⟩
  replace h2 := h2.ext hE
  replace ha := ha.ext hE
  replace hb := hb.ext hE
  replace hs := hs.ext hE
  replace hsr := hsr.ext hE
  replace hp := hp.ext hE
  replace hpr := hpr.ext hE
  replace hd := hd.ext hE
  replace hE0 := hE0.trans hE
  refine wif_eqt rfl ?_
  refine wif_eqt rfl ?_
  refine wif_eqt rfl ?_
  refine call (same_fn _ _ _ _ _ _ _ _ _ hs hsr) ?_
  rintro v w10 ⟨rfl, hE⟩
  replace h2 := h2.ext hE
  replace ha := ha.ext hE
  replace hb := hb.ext hE
  replace hs := hs.ext hE
  replace hsr := hsr.ext hE
  replace hp := hp.ext hE
  replace hpr := hpr.ext hE
  replace hd := hd.ext hE
  replace hdr := hdr.ext hE
  replace hE0 := hE0.trans hE
  refine wif_dt rfl ?_
  refine call (same_fn _ _ _ _ _ _ _ _ _ hp hpr) ?_
  rintro v w11 ⟨rfl, hE⟩
  replace h2 := h2.ext hE
  replace ha := ha.ext hE
  replace hb := hb.ext hE
  replace hs := hs.ext hE
  replace hsr := hsr.ext hE
  replace hp := hp.ext hE
  replace hpr := hpr.ext hE
  replace hd := hd.ext hE
  replace hdr := hdr.ext hE
  replace hE0 := hE0.trans hE
  refine wif_dt rfl ?_
  refine call (same_fn _ _ _ _ _ _ _ _ _ hd hdr) ?_
  rintro v w12 ⟨rfl, hE⟩
  replace h2 := h2.ext hE
  replace ha := ha.ext hE
  replace hb := hb.ext hE
  replace hs := hs.ext hE
  replace hsr := hsr.ext hE
  replace hp := hp.ext hE
  replace hpr := hpr.ext hE
  replace hd := hd.ext hE
  replace hdr := hdr.ext hE
  replace hE0 := hE0.trans hE
  refine wif_dt rfl ?_
  refine call (valid_fn _ _ _ _ _ ha) ?_
  rintro v w ⟨rfl, rfl⟩
  refine call (rvalid_fn _ _ _ _ _ ha) ?_
  rintro v w ⟨rfl, rfl⟩
  refine wif_t (beq_self_eq_true _) ?_
  refine call (compare_fn _ _ _ _ _ _ _ _ _ ha hb La Lb) ?_
  rintro v w13 ⟨rfl, hE⟩
  replace h2 := h2.ext hE
  replace ha := ha.ext hE
  replace hb := hb.ext hE
  replace hs := hs.ext hE
  replace hsr := hsr.ext hE
  replace hp := hp.ext hE
  replace hpr := hpr.ext hE
  replace hd := hd.ext hE
  replace hdr := hdr.ext hE
  replace hE0 := hE0.trans hE
  refine call (rcompare_fn _ _ _ _ _ _ _ _ _ ha hb La Lb) ?_
  rintro v w14 ⟨rfl, hE⟩
  replace h2 := h2.ext hE
  replace ha := ha.ext hE
  replace hb := hb.ext hE
  replace hs := hs.ext hE
  replace hsr := hsr.ext hE
  replace hp := hp.ext hE
  replace hpr := hpr.ext hE
  replace hd := hd.ext hE
  replace hdr := hdr.ext hE
  replace hE0 := hE0.trans hE
  refine wif_eqt rfl ?_
  exact And.intro rfl hE0
end Go.Proofs.Ytpalpikenkkhlaa
