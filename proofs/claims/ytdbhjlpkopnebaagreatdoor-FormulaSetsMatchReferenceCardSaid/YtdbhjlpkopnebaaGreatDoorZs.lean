/-
  FormulaSetsMatchReference.
  Conditions: none.
-/
import Derived.Test.YtdbhjlpkopnebaaGreatDoorZd
namespace Go.Proofs.YtdbhjlpkopnebaaGreatDoor
open Go Go.RowKit

theorem sets_law (L : List Nat) (LA : Option Addr) (ln lc : Nat) (M : List Nat) (MA : Option Addr) (mn mc : Nat) (N : Nat) (T : List Nat) (TA : Option Addr) (tn tc : Nat) (K : Nat) (w : World) (h : InpOk w L LA ln lc M MA mn mc T TA tn tc) (_ : N ≤ 255) (_ : K ≤ 255) :
    Fn Tryz.prog 3 [inpV LA ln lc MA mn mc N TA tn tc K] w (fun v w' => v = .bool true ∧ Ext w w') := by
  have k7 : K % 7 < 7 := Nat.mod_lt _ (by decide)
  have n6 : N % 6 < 6 := Nat.mod_lt _ (by decide)
  refine fn_of_exec (c := { c3 with cuts := [] }) gx_ok Tryz.func3 rfl rfl rfl ?_
  refine new (fun w1 hE1 hz1 hB1 => ?_)
  replace hB1 : Blk w1 w.heap.size 24 [.slice LA ln lc, .slice MA mn mc, .int .u8 N, .slice TA tn tc, .int .u8 K] := hB1
  refine call (sanity_fn w1) ?_
  rintro _ w2 ⟨rfl, hE2⟩
  have hB2 := hB1.ext hE2
  refine load_blk0 hB2 rfl ?_
  refine load_blk hB2 rfl ?_
  refine norm_rem (d := 6) (by decide) ?_
  refine norm_i64_to ((N % 6 : Nat) : Int) rfl (by omega) ?_
  refine norm_i64_to ((N % 6 + 1 : Nat) : Int) (by omega) (by omega) ?_
  refine call (made_fn L LA ln lc (N % 6 + 1) w2 (h.l.ext (hE1.trans hE2)) h.l8 (by omega) (by omega)) ?_
  rintro _ w3 ⟨F, m, cF, f, rfl, hE3, hF, hfv, hvo, hfl⟩
  refine call (fdiagram_fn F m cF f (N % 6 + 1) (by omega) w3 hF hfv hvo) ?_
  rintro _ w4 ⟨AA, an, ac, ad, ar, rfl, hE4, hA, hSa, _⟩
  refine new (fun w5 hE5 hz5 hB5 => ?_)
  refine storeN_blk0 hB5 rfl (sc rfl) (fun w6 hg6 hz6 hB6 => ?_)
  have hE46 : Ext w4 w6 := newBox hE5 hB5 hg6
  have hE36 := hE4.trans hE46
  refine call (rdiagram_fn F m cF f (N % 6 + 1) (by omega) w6 (hF.ext hE36) hfv hvo) ?_
  rintro _ w7 ⟨BA, bn, bc, bd, br, rfl, hE7, hBd, hSb⟩
  refine new (fun w8 hE8 hz8 hB8 => ?_)
  refine storeN_blk0 hB8 rfl (sc rfl) (fun w9 hg9 hz9 hB9 => ?_)
  have hE79 : Ext w7 w9 := newBox hE8 hB8 hg9
  have hE69 := hE7.trans hE79
  have hE29 := hE3.trans (hE36.trans hE69)
  have hB29 := hB2.ext hE29
  refine load_blk hB29 rfl ?_
  refine load_blk hB29 rfl ?_
  refine norm_rem (d := 7) (by decide) ?_
  refine norm_i64_to ((K % 7 : Nat) : Int) rfl (by omega) ?_
  refine call (dmade_fn T TA tn tc (K % 7) w9 (h.t.ext ((hE1.trans hE2).trans hE29)) h.t8 (by omega)) ?_
  rintro _ w10 ⟨DA, dn, dc, nd, r, rfl, hE10, hD, hS, _⟩
  refine new (fun w11 hE11 hz11 hB11 => ?_)
  refine storeN_blk0 hB11 rfl (sc rfl) (fun w12 hg12 hz12 hB12 => ?_)
  have hE1012 : Ext w10 w12 := newBox hE11 hB11 hg12
  have hE912 := hE10.trans hE1012
  have hD12 := hD.ext hE1012
  refine loadN_blk0 hB12 rfl ?_
  refine call (of_fn DA dn dc nd r w12 hD12) ?_
  rintro _ w13 ⟨G, mg, cG, rfl, hE13, hG⟩
  refine loadN_blk0 (hB12.ext hE13) rfl ?_
  refine call (rof_fn DA dn dc nd r w13 (hD12.ext hE13)) ?_
  rintro _ w14 ⟨G', mg', cG', rfl, hE14, hG'⟩
  have hE1214 := hE13.trans hE14
  have k6 : K % 7 ≤ 6 := by omega
  obtain ⟨lb, lo, ll⟩ := letters_ok 6 (by decide)
  obtain ⟨lb1, lo1, ll1⟩ := letters_ok 1 (by decide)
  have q0 : ∀ {wa : World}, Blk wa w10.heap.size 31 [.slice DA dn dc, .int .i64 r] → ∀ w', Ext wa w' → ∀ (j : Nat) (v : Value), [Value.slice DA dn dc, .int .i64 r][j]? = some v → w'.cell? ((⟨w10.heap.size, 0, none⟩ : Addr).add j) = some v := fun hB w' hw' j v hj => by have := (hB.ext hw').cell j; rw [this]; exact hj
  have xB14 : Blk w14 w10.heap.size 31 [.slice DA dn dc, .int .i64 r] := hB12.ext hE1214
  have xD14 := hD12.ext hE1214
  refine draw_plan gx_ok (Ext w14) 8 [(true, 1), (false, 0), (false, 2), (true, 3), (true, 4), (true, 5), (true, 6), (true, 7)] (by kernel_rfl) (Ext.drew w14) ?_
  refine qloadN (vs := [.slice DA dn dc, .int .i64 r]) rfl (q0 xB14) ?_
  refine call (letters_fn 6 _ (by decide)) ?_
  rintro _ w15 ⟨N1, c1, rfl, hE15, hL1⟩
  have hX15 := (Ext.drew w14).trans hE15
  refine ⟨hX15, ?_⟩
  refine call (text_fn (letters12.take 6) N1 DA 6 c1 dn dc nd r w15 hL1 lb (xD14.ext hX15) (hS.text_len k6 6)) ?_
  rintro _ w16 ⟨rfl, hE16⟩
  have hX16 := hX15.trans hE16
  refine ⟨hX16, ?_⟩
  have xB16 := xB14.ext hX16
  have xD16 := xD14.ext hX16
  refine draw_plan gx_ok (Ext w16) 8 [(true, 1), (false, 0), (false, 2), (true, 3), (true, 4), (true, 5), (true, 6), (true, 7)] (by kernel_rfl) (Ext.drew w16) ?_
  refine qloadN (vs := [.slice DA dn dc, .int .i64 r]) rfl (q0 xB16) ?_
  refine call (letters_fn 6 _ (by decide)) ?_
  rintro _ w17 ⟨N2, c2, rfl, hE17, hL2⟩
  have hX17 := (Ext.drew w16).trans hE17
  refine ⟨hX17, ?_⟩
  refine call (rtext_fn (letters12.take 6) N2 DA 6 c2 dn dc nd r w17 hL2 lb (xD16.ext hX17) (hS.text_len k6 6)) ?_
  rintro _ w18 ⟨rfl, hE18⟩
  have hX18 := hX17.trans hE18
  refine ⟨hX18, ?_⟩
  have xB18 := xB16.ext hX18
  have xD18 := xD16.ext hX18
  refine draw_plan gx_ok (Ext w18) 8 [(true, 1), (false, 0), (false, 2), (true, 3), (true, 4), (true, 5), (true, 6), (true, 7)] (by kernel_rfl) (Ext.drew w18) ?_
  refine qloadN (vs := [.slice DA dn dc, .int .i64 r]) rfl (q0 xB18) ?_
  refine call (letters_fn 1 _ (by decide)) ?_
  rintro _ w19 ⟨N3, c3, rfl, hE19, hL3⟩
  have hX19 := (Ext.drew w18).trans hE19
  refine ⟨hX19, ?_⟩
  refine call (text_fn (letters12.take 1) N3 DA 1 c3 dn dc nd r w19 hL3 lb1 (xD18.ext hX19) (hS.text_len k6 1)) ?_
  rintro _ w20 ⟨rfl, hE20⟩
  have hX20 := hX19.trans hE20
  refine ⟨hX20, ?_⟩
  have xB20 := xB18.ext hX20
  have xD20 := xD18.ext hX20
  refine draw_plan gx_ok (Ext w20) 8 [(true, 1), (false, 0), (false, 2), (true, 3), (true, 4), (true, 5), (true, 6), (true, 7)] (by kernel_rfl) (Ext.drew w20) ?_
  refine qloadN (vs := [.slice DA dn dc, .int .i64 r]) rfl (q0 xB20) ?_
  refine call (letters_fn 1 _ (by decide)) ?_
  rintro _ w21 ⟨N4, c4, rfl, hE21, hL4⟩
  have hX21 := (Ext.drew w20).trans hE21
  refine ⟨hX21, ?_⟩
  refine call (rtext_fn (letters12.take 1) N4 DA 1 c4 dn dc nd r w21 hL4 lb1 (xD20.ext hX21) (hS.text_len k6 1)) ?_
  rintro _ w22 ⟨rfl, hE22⟩
  have hX22 := hX21.trans hE22
  refine ⟨hX22, ?_⟩
  have hE1422 := hX16.trans (hX18.trans (hX20.trans hX22))
  have hE922 := hE912.trans (hE1214.trans hE1422)
  have hE022 := ((hE1.trans hE2).trans hE29).trans hE922
  refine wif_t rfl ?_
  refine wif_eqt rfl ?_
  refine loadN_blk0 ((hB6.ext hE69).ext hE922) rfl ?_
  refine loadN_blk0 (hB9.ext hE922) rfl ?_
  have same : decide ((ad, ar) = (bd, br)) = true := decide_eq_true (hSa.unique hSb (fun _ => rfl))
  refine call (rsame_fn AA BA an ac bn bc ad bd ar br w22 (((hA.ext hE46).ext hE69).ext hE922) ((hBd.ext hE79).ext hE922)) ?_
  rintro _ w23 ⟨rfl, hE23⟩
  rw [same]
  refine wif_t rfl ?_
  refine wif_eqt rfl ?_
  have hE1423 := hE1422.trans hE23
  refine call (rsamef_fn G G' mg cG mg' cG' _ _ w23 ((hG.ext hE14).ext hE1423) (hG'.ext hE1423)) ?_
  rintro _ w24 ⟨rfl, hE24⟩
  refine wif_dt rfl ?_
  refine wif_eqt rfl ?_
  refine wif_dt rfl ?_
  refine ⟨?_, hE022.trans (hE23.trans hE24)⟩
  congr 1
  exact beq_self_eq_true _
end Go.Proofs.YtdbhjlpkopnebaaGreatDoor
