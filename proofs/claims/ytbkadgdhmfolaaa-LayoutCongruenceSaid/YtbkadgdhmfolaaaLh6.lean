/-
  The law Congruence: the walk.
  Conditions: none.
-/
import Derived.Test.YtbkadgdhmfolaaaLh3
namespace Go.Proofs.Ytbkadgdhmfolaaa
open Go Go.RowKit

theorem congruence_law (v0 : Value) (b0 b1 b2 : List Nat) (x : Nat) (w : World) (h3 : Three w v0 b0 b1 b2) (hb0 : ∀ b ∈ b0, b ≤ 255) (hb1 : ∀ b ∈ b1, b ≤ 255) (hb2 : ∀ b ∈ b2, b ≤ 255) (hx : x ≤ 255) :
    Fn Try.prog 8 [v0, .int .u8 x] w (fun v w' => v = .bool true ∧ Ext w w') := by
  obtain ⟨A0, n0, c0, A1, n1, c1, A2, n2, c2, rfl, s0, s1, s2⟩ := h3
  refine fn_of_exec (c := c8) gx_ok Try.func8 rfl rfl rfl ?_
  refine new (fun w1 hE1 hz1 hB1 => ?_)
  refine call (sanity_fn w1) ?_
  rintro v w2 ⟨rfl, hE2⟩
  have hE02 := hE1.trans hE2
  have hBa := hB1.ext hE2
  have hEd := Ext.drew w2
  refine draw_plan gx_ok (Ext w2) 12 [(true, 0), (true, 1), (true, 3), (true, 4), (true, 6), (true, 7), (false, 2), (false, 5), (false, 8), (true, 9), (true, 10), (true, 11)] (by kernel_rfl) hEd ?_
  refine index_i (j := 0) rfl (by omega) ?_
  refine qload (v := .slice A0 n0 c0) (fun w' hw' => by rw [(hBa.ext hw').cell]; rfl) ?_
  refine index_i (j := 1) rfl (by omega) ?_
  refine qload (v := .slice A1 n1 c1) (fun w' hw' => by rw [(hBa.ext hw').cell]; rfl) ?_
  refine index_i (j := 2) rfl (by omega) ?_
  refine qload (v := .slice A2 n2 c2) (fun w' hw' => by rw [(hBa.ext hw').cell]; rfl) ?_
  refine call (made_dr 20 (s0.ext (hE02.trans hEd)) hb0 (by decide) (by decide)) ?_
  rintro v w4 ⟨ta, hoa, Aa, ca, da, rfl, hE4, ha⟩
  refine ⟨hEd.trans hE4, ?_⟩
  refine call (made_dr 20 (s1.ext (hE02.trans (hEd.trans hE4))) hb1 (by decide) (by decide)) ?_
  rintro v w5 ⟨tb, hob, Ab, cb, db, rfl, hE5, hb⟩
  refine ⟨(hEd.trans hE4).trans hE5, ?_⟩
  refine call (made_dr 20 (s2.ext (hE02.trans ((hEd.trans hE4).trans hE5))) hb2 (by decide) (by decide)) ?_
  rintro v w6 ⟨tc, hoc, Ac, cc, dc, rfl, hE6, hc⟩
  have hE26 := ((hEd.trans hE4).trans hE5).trans hE6
  refine ⟨hE26, ?_⟩
  have hE06 := hE02.trans hE26
  have ha := ha.ext (hE5.trans hE6)
  have hb := hb.ext hE6
  clear hBa hB1 hE1 hE2 hE02 hE26 hE4 hE5 hE6 hEd
  refine rem_c 40 rfl (by decide) ?_
  have hW : x % 40 < 40 := Nat.mod_lt _ (by decide)
  generalize x % 40 = W at hW
  refine norm_i64_to ((W : Nat) : Int) rfl (by omega) ?_
  refine call (seq_dr ha hb (by decide)) ?_
  rintro v w7 ⟨A7, c7, d7, rfl, hE7, h7⟩
  refine call (seq_dr h7 (hc.ext hE7) (by decide)) ?_
  rintro v w8 ⟨A8, c8, d8, rfl, hE8, h8⟩
  refine call (best_dr W h8 (by omega)) ?_
  rintro v w9 ⟨hE9, l, hl, rfl⟩
  refine new (fun w10 hE10 hz10 hB10 => ?_)
  refine storeN_blk0 hB10 rfl (sc rfl) (fun w11 hg11 _ hB11 => ?_)
  have h611 := (hE7.trans (hE8.trans hE9)).trans (newBox hE10 hB10 hg11)
  refine call (seq_dr (hb.ext h611) (hc.ext h611) (by decide)) ?_
  rintro v w12 ⟨A12, c12, d12, rfl, hE12, h12⟩
  refine call (seq_dr (ha.ext (h611.trans hE12)) h12 (by decide)) ?_
  rintro v w13 ⟨A13, c13, d13, rfl, hE13, h13⟩
  refine call (best_dr W h13 (by omega)) ?_
  rintro v w14 ⟨hE14, l2, hl2, rfl⟩
  cases (least_assoc hl).uniq hl2
  refine new (fun w15 hE15 hz15 hB15 => ?_)
  refine storeN_blk0 hB15 rfl (sc rfl) (fun w16 hg16 _ hB16 => ?_)
  have h1116 := (hE12.trans (hE13.trans hE14)).trans (newBox hE15 hB15 hg16)
  have h616 := h611.trans h1116
  refine call (text_dr ⟨#[]⟩ w16 (by decide) (by decide)) ?_
  rintro v w17 ⟨A17, c17, d17, rfl, hE17, h17⟩
  refine call (seq_dr (hb.ext (h616.trans hE17)) (hc.ext (h616.trans hE17)) (by decide)) ?_
  rintro v w18 ⟨A18, c18, d18, rfl, hE18, h18⟩
  refine call (seq_dr (ha.ext (h616.trans (hE17.trans hE18))) h18 (by decide)) ?_
  rintro v w19 ⟨A19, c19, d19, rfl, hE19, h19⟩
  refine call (text_dr ⟨#[]⟩ w19 (by decide) (by decide)) ?_
  rintro v w20 ⟨A20, c20, d20, rfl, hE20, h20⟩
  refine call (seq_dr (h19.ext hE20) h20 (by decide)) ?_
  rintro v w21 ⟨A21, c21, d21, rfl, hE21, h21⟩
  refine call (nest_dr 0 h21 (by decide) (by decide)) ?_
  rintro v w22 ⟨A22, c22, d22, rfl, hE22, h22⟩
  refine call (seq_dr (h17.ext (hE18.trans (hE19.trans (hE20.trans (hE21.trans hE22))))) h22 (by decide)) ?_
  rintro v w23 ⟨A23, c23, d23, rfl, hE23, h23⟩
  have h1623 := hE17.trans (hE18.trans (hE19.trans (hE20.trans (hE21.trans (hE22.trans hE23)))))
  refine call (best_dr W h23 (by omega)) ?_
  rintro v w24 ⟨hE24, l3, hl3, rfl⟩
  have hl2' := least_pad hl2
  cases hl2'.uniq hl3
  refine new (fun w25 hE25 hz25 hB25 => ?_)
  refine storeN_blk0 hB25 rfl (sc rfl) (fun w26 hg26 _ hB26 => ?_)
  have h1626 := h1623.trans (hE24.trans (newBox hE25 hB25 hg26))
  have h1126 := h1116.trans h1626
  have hB11' := hB11.ext h1126
  have hB16' := hB16.ext h1626
  have e1 : runT W (.seq ta (.seq tb tc)) l 0 (0, false) = runT W (.seq (.seq ta tb) tc) l 0 (0, false) := (runT_assoc W ta tb tc l 0 (0, false)).symm
  have e2 : runT W (.seq (.text (bytesOf ⟨#[]⟩)) (.nest 0 (.seq (.seq ta (.seq tb tc)) (.text (bytesOf ⟨#[]⟩))))) l 0 (0, false) = runT W (.seq (.seq ta tb) tc) l 0 (0, false) := (runT_pad W (.seq ta (.seq tb tc)) l (nrm_len _ l hl2.1) 0 (0, false)).trans e1
  have e3 : txtN (.seq ta (.seq tb tc)) l = txtN (.seq (.seq ta tb) tc) l := txtN_assoc ta tb tc l
  have e4 : txtN (.seq (.text (bytesOf ⟨#[]⟩)) (.nest 0 (.seq (.seq ta (.seq tb tc)) (.text (bytesOf ⟨#[]⟩))))) l = txtN (.seq (.seq ta tb) tc) l := (txtN_pad hl2.1).trans e3
  rw [e1] at hB16'
  rw [e2] at hB26
  rw [e3, e4]
  refine wif_t rfl ?_
  refine wif_t rfl ?_
  refine wif_t rfl ?_
  refine wif_t (by simp) ?_
  refine loadN_blk0 hB11' rfl ?_
  refine loadN_blk0 hB16' rfl ?_
  refine wif_t (by simp) ?_
  refine wif_t (by simp) ?_
  refine loadN_blk0 hB26 rfl ?_
  refine loadN_blk0 hB11' rfl ?_
  refine wif_t (by simp) ?_
  exact ⟨rfl, hE06.trans (h611.trans h1126)⟩
end Go.Proofs.Ytbkadgdhmfolaaa
