/-
  The law Sequences: the walk.
  Conditions: none.
-/
import Derived.Test.YtgaggbmoimablaaFr2
namespace Go.Proofs.Ytgaggbmoimablaa
open Go Go.RowKit

theorem sequences_law (v0 : Value) (F : Option Addr) (m cf : Nat) (b0 b1 b2 : List Nat) (fl : List Bool) (p q : Nat) (w : World) (h3 : Three w v0 b0 b1 b2) (hb0 : ∀ b ∈ b0, b ≤ 255) (hb1 : ∀ b ∈ b1, b ≤ 255) (hb2 : ∀ b ∈ b2, b ≤ 255) (hF : Sl w 1 F m cf (boolsV fl)) (hp : p ≤ 255) (hq : q ≤ 255) :
    Fn Try.prog 8 [v0, .slice F m cf, .agg #[.int .u8 p, .int .u8 q]] w (fun v w' => v = .bool true ∧ Ext w w') := by
  obtain ⟨A0, n0, c0, A1, n1, c1, A2, n2, c2, rfl, s0, s1, s2⟩ := h3
  refine fn_of_exec (c := c8) gx_ok Try.func8 rfl rfl rfl ?_
  refine new (fun w1 hE1 hz1 hB1 => ?_)
  refine new (fun w2 hE2 hz2 hB2 => ?_)
  refine call (sanity_fn w2) ?_
  rintro v w3 ⟨rfl, hE3⟩
  have hE13 := hE2.trans hE3
  have hE03 := hE1.trans hE13
  have hBa := hB1.ext hE13
  have hBn := hB2.ext hE3
  clear hB1 hB2
  refine index_i (j := 0) rfl (by omega) ?_
  refine load_blk hBa rfl ?_
  refine call (made_dr 20 (s0.ext hE03) hb0 (by decide) (by decide)) ?_
  rintro v w4 ⟨ta, hoa, Aa, ca, da, rfl, hE4, ha⟩
  refine index_i (j := 1) rfl (by omega) ?_
  refine load_blk (hBa.ext hE4) rfl ?_
  refine call (made_dr 20 (s1.ext (hE03.trans hE4)) hb1 (by decide) (by decide)) ?_
  rintro v w5 ⟨tb, hob, Ab, cb, db, rfl, hE5, hb⟩
  refine index_i (j := 2) rfl (by omega) ?_
  refine load_blk (hBa.ext (hE4.trans hE5)) rfl ?_
  refine call (made_dr 20 (s2.ext (hE03.trans (hE4.trans hE5))) hb2 (by decide) (by decide)) ?_
  rintro v w6 ⟨tc, hoc, Ac, cc, dc, rfl, hE6, hc⟩
  have hE36 := hE4.trans (hE5.trans hE6)
  have hE06 := hE03.trans hE36
  have ha := ha.ext (hE5.trans hE6)
  have hb := hb.ext hE6
  have hF6 := hF.ext hE06
  have hBn6 := hBn.ext hE36
  clear hBa hBn hE4 hE5 hE6 hE13 hE1 hE2 hE3 hE36
  refine call (seq_dr ha hb (by decide)) ?_
  rintro v w7 ⟨A7, c7, d7, rfl, hE7, h7⟩
  refine call (seq_dr h7 (hc.ext hE7) (by decide)) ?_
  rintro v w8 ⟨A8, c8, d8, rfl, hE8, h8⟩
  refine call (lrender_dr h8 (hF6.ext (hE7.trans hE8))) ?_
  rintro v w9 ⟨rfl, hE9⟩
  have h69 := hE7.trans (hE8.trans hE9)
  refine call (text_dr ⟨#[]⟩ w9 (by decide) (by decide)) ?_
  rintro v w10 ⟨Ae, ce, de, rfl, hE10, he⟩
  have h610 := h69.trans hE10
  refine call (seq_dr (hb.ext h610) (hc.ext h610) (by decide)) ?_
  rintro v w11 ⟨A11, c11, d11, rfl, hE11, h11⟩
  refine call (seq_dr (ha.ext (h610.trans hE11)) h11 (by decide)) ?_
  rintro v w12 ⟨A12, c12, d12, rfl, hE12, h12⟩
  have h612 := h610.trans (hE11.trans hE12)
  refine call (lrender_dr h12 (hF6.ext h612)) ?_
  rintro v w13 ⟨rfl, hE13⟩
  rw [seq_assoc]
  refine wif_f (by simp) ?_
  have h613 := h612.trans hE13
  refine call (seq_dr (ha.ext h613) (hb.ext h613) (by decide)) ?_
  rintro v w14 ⟨A14, c14, d14, rfl, hE14, h14⟩
  refine call (seq_dr (he.ext (hE11.trans (hE12.trans (hE13.trans hE14)))) h14 (by decide)) ?_
  rintro v w15 ⟨A15, c15, d15, rfl, hE15, h15⟩
  have h615 := h613.trans (hE14.trans hE15)
  have he15 := he.ext (hE11.trans (hE12.trans (hE13.trans (hE14.trans hE15))))
  refine call (seq_dr (hc.ext h615) he15 (by decide)) ?_
  rintro v w16 ⟨A16, c16, d16, rfl, hE16, h16⟩
  refine call (seq_dr (he15.ext hE16) h16 (by decide)) ?_
  rintro v w17 ⟨A17, c17, d17, rfl, hE17, h17⟩
  refine call (seq_dr (h15.ext (hE16.trans hE17)) h17 (by decide)) ?_
  rintro v w18 ⟨A18, c18, d18, rfl, hE18, h18⟩
  have h618 := h615.trans (hE16.trans (hE17.trans hE18))
  refine call (lrender_dr h18 (hF6.ext h618)) ?_
  rintro v w19 ⟨rfl, hE19⟩
  rw [show bytesOf ⟨#[]⟩ = [] from rfl, seq_empty]
  refine wif_f (by simp) ?_
  have h619 := h618.trans hE19
  refine call (seq_dr (hb.ext h619) (hc.ext h619) (by decide)) ?_
  rintro v w20 ⟨A20, c20, d20, rfl, hE20, h20⟩
  refine call (seq_dr (ha.ext (h619.trans hE20)) h20 (by decide)) ?_
  rintro v w21 ⟨A21, c21, d21, rfl, hE21, h21⟩
  refine call (nest_dr 0 h21 (by decide) (by decide)) ?_
  rintro v w22 ⟨A22, c22, d22, rfl, hE22, h22⟩
  have h622 := h619.trans (hE20.trans (hE21.trans hE22))
  refine call (lrender_dr h22 (hF6.ext h622)) ?_
  rintro v w23 ⟨rfl, hE23⟩
  rw [nest_zero, seq_assoc]
  refine wif_f (by simp) ?_
  have h623 := h622.trans hE23
  refine call (text_dr ⟨#[116, 101, 120, 116]⟩ w23 (by decide) (by decide)) ?_
  rintro v w24 ⟨A24, c24, d24, rfl, hE24, h24⟩
  refine call (group_dr h24 (by decide)) ?_
  rintro v w25 ⟨A25, c25, d25, rfl, hE25, h25⟩
  have h625 := h623.trans (hE24.trans hE25)
  refine call (seq_dr (ha.ext h625) h25 (by decide)) ?_
  rintro v w26 ⟨A26, c26, d26, rfl, hE26, h26⟩
  have h626 := h625.trans hE26
  refine call (lrender_dr h26 (hF6.ext h626)) ?_
  rintro v w27 ⟨rfl, hE27⟩
  refine call (text_dr ⟨#[116, 101, 120, 116]⟩ w27 (by decide) (by decide)) ?_
  rintro v w28 ⟨A28, c28, d28, rfl, hE28, h28⟩
  have h628 := h626.trans (hE27.trans hE28)
  refine call (seq_dr (ha.ext h628) h28 (by decide)) ?_
  rintro v w29 ⟨A29, c29, d29, rfl, hE29, h29⟩
  have h629 := h628.trans hE29
  refine call (lrender_dr h29 (hF6.ext h629)) ?_
  rintro v w30 ⟨rfl, hE30⟩
  rw [seq_plain]
  refine wif_f (by simp) ?_
  have h630 := h629.trans hE30
  refine index_i (j := 0) rfl (by omega) ?_
  refine load_blk (hBn6.ext h630) rfl ?_
  refine norm_i64_to ((p : Nat) : Int) rfl (by omega) ?_
  refine rem_c 9 rfl (by decide) ?_
  refine index_i (j := 1) rfl (by omega) ?_
  refine load_blk (hBn6.ext h630) rfl ?_
  refine norm_i64_to ((q : Nat) : Int) rfl (by omega) ?_
  refine rem_c 9 rfl (by decide) ?_
  have hx : p % 9 < 9 := Nat.mod_lt _ (by decide)
  have hy : q % 9 < 9 := Nat.mod_lt _ (by decide)
  generalize p % 9 = x at hx
  generalize q % 9 = y at hy
  refine call (nest_dr y (hb.ext h630) (by omega) (by decide)) ?_
  rintro v w31 ⟨A31, c31, d31, rfl, hE31, h31⟩
  refine call (nest_dr x h31 (by omega) (by decide)) ?_
  rintro v w32 ⟨A32, c32, d32, rfl, hE32, h32⟩
  have h632 := h630.trans (hE31.trans hE32)
  refine call (lrender_dr h32 (hF6.ext h632)) ?_
  rintro v w33 ⟨rfl, hE33⟩
  have h633 := h632.trans hE33
  refine norm_i64_to ((x + y : Nat) : Int) (by omega) (by omega) ?_
  refine call (nest_dr (x + y) (hb.ext h633) (by omega) (by decide)) ?_
  rintro v w34 ⟨A34, c34, d34, rfl, hE34, h34⟩
  have h634 := h633.trans hE34
  refine call (lrender_dr h34 (hF6.ext h634)) ?_
  rintro v w35 ⟨rfl, hE35⟩
  rw [nest_add]
  refine wif_t (by simp) ?_
  exact ⟨rfl, hE06.trans (h634.trans hE35)⟩
end Go.Proofs.Ytgaggbmoimablaa
