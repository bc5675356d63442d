/-
  The laws' own functions: less, sanity.
  Conditions: none.
-/
import Derived.Test.YtbkadgdhmfolaaaLs1
namespace Go.Proofs.Ytbkadgdhmfolaaa
open Go Go.RowKit

def twoT : Dt := .seq (.text [97]) (.seq gapT (.seq (.text [98]) (.seq gapT (.text [99]))))
theorem sanity_fn (w : World) : Fn Try.prog 11 [] w (fun v w' => v = .bool true ∧ Ext w w') := by
  refine fn_of_exec (c := c11) gx_ok Try.func11 rfl rfl rfl ?_
  refine call (example_dr w) ?_
  rintro v w1 ⟨A1, c1, d1, rfl, hE1, h1⟩
  refine call (is_fn (W := 4) (b := 0) (m := 0) (s := ⟨#[102, 40, 97, 41]⟩) (l := [true]) h1 (by decide) (by kernel_rfl) (by kernel_rfl) (by kernel_rfl)) ?_
  rintro v w2 ⟨rfl, hE2⟩
  refine wif_t rfl ?_
  refine call (is_fn (W := 3) (b := 0) (m := 2) (s := ⟨#[102, 40, 10, 32, 32, 97, 10, 41]⟩) (l := [false]) (h1.ext hE2) (by decide) (by kernel_rfl) (by kernel_rfl) (by kernel_rfl)) ?_
  rintro v w3 ⟨rfl, hE3⟩
  refine wif_t rfl ?_
  refine call (is_fn (W := 2) (b := 1) (m := 2) (s := ⟨#[102, 40, 10, 32, 32, 97, 10, 41]⟩) (l := [false]) (h1.ext (hE2.trans hE3)) (by decide) (by kernel_rfl) (by kernel_rfl) (by kernel_rfl)) ?_
  rintro v w4 ⟨rfl, hE4⟩
  refine wif_t rfl ?_
  refine call (is_fn (W := 1) (b := 3) (m := 0) (s := ⟨#[102, 40, 97, 41]⟩) (l := [true]) (h1.ext (hE2.trans (hE3.trans hE4))) (by decide) (by kernel_rfl) (by kernel_rfl) (by kernel_rfl)) ?_
  rintro v w5 ⟨rfl, hE5⟩
  have hw5 := hE1.trans (hE2.trans (hE3.trans (hE4.trans hE5)))
  refine call (text_dr ⟨#[97]⟩ w5 (by decide) (by decide)) ?_
  rintro v w6 ⟨Aa, ca, da, rfl, hE6, ha⟩
  refine call (gap_dr w6) ?_
  rintro v w7 ⟨Ag, cg, dg, rfl, hE7, hg⟩
  refine call (text_dr ⟨#[98]⟩ w7 (by decide) (by decide)) ?_
  rintro v w8 ⟨Ab, cb, db, rfl, hE8, hb⟩
  refine call (gap_dr w8) ?_
  rintro v w9 ⟨Ah, ch, dh, rfl, hE9, hh⟩
  refine call (text_dr ⟨#[99]⟩ w9 (by decide) (by decide)) ?_
  rintro v w10 ⟨Ac, cc, dc, rfl, hE10, hc⟩
  refine call (seq_dr (hh.ext hE10) hc (by decide)) ?_
  rintro v w11 ⟨A11, c11, d11, rfl, hE11, h11⟩
  refine call (seq_dr (hb.ext (hE9.trans (hE10.trans hE11))) h11 (by decide)) ?_
  rintro v w12 ⟨A12, c12, d12, rfl, hE12, h12⟩
  refine call (seq_dr (hg.ext (hE8.trans (hE9.trans (hE10.trans (hE11.trans hE12))))) h12 (by decide)) ?_
  rintro v w13 ⟨A13, c13, d13, rfl, hE13, h13⟩
  refine call (seq_dr (ha.ext (hE7.trans (hE8.trans (hE9.trans (hE10.trans (hE11.trans (hE12.trans hE13))))))) h13 (by decide)) ?_
  rintro v w14 ⟨A14, c14, d14, rfl, hE14, h14⟩
  have hw14 := hw5.trans (hE6.trans (hE7.trans (hE8.trans (hE9.trans (hE10.trans (hE11.trans (hE12.trans (hE13.trans hE14))))))))
  refine call (choices_dr 3 h14 (by decide)) ?_
  rintro v w15 ⟨hE15, B, c', l, rfl, hS15, hl15⟩
  cases (least_of (W := 3) (t := twoT) (l := [true, false]) (by kernel_rfl)).uniq hl15
  have hvd := chk_ok h14.rep.valid
  refine call (Choices_fn A14 _ c14 d14 (-1) w15 (h14.ext hE15).sd (wtT_lim h14.rep.txt)) ?_
  rintro v w16 ⟨hE16, hv16⟩
  rw [if_neg (by rw [hvd]; decide), if_pos (by decide)] at hv16
  subst hv16
  refine call (Choices_fn A14 _ c14 d14 1001 w16 (h14.ext (hE15.trans hE16)).sd (wtT_lim h14.rep.txt)) ?_
  rintro v w17 ⟨hE17, hv17⟩
  rw [if_neg (by rw [hvd]; decide), if_pos (by decide)] at hv17
  subst hv17
  refine at_buildN gx_ok [] rfl rfl rfl rfl rfl ⟨⟩ rfl (fun cs h => by cases h) rfl (by decide) (by decide) ?_
  intro w18 hE18 hz18 hB18
  have h0 : chk [] = 250 := chk_no (by decide) (fun hv => by have := hv.2.1; simp at this)
  refine call (Best_fn (some ⟨w17.heap.size, 0, none⟩) 0 0 [] 5 w18 ⟨Sl.empty _ _ _ _ (by unfold maxLen; omega), rfl⟩ (fun x hx => by cases hx)) ?_
  rintro v w19 ⟨hE19, hv19⟩
  rw [if_pos (by rw [h0]; decide), h0] at hv19
  subst hv19
  refine new (fun w20 hE20 hz20 hB20 => ?_)
  refine storeN_blk0 hB20 rfl (sc rfl) (fun w21 hg21 _ hB21 => ?_)
  have hE21 := newBox hE20 hB20 hg21
  have hw1421 := hE15.trans (hE16.trans (hE17.trans (hE18.trans (hE19.trans hE21))))
  refine wif_t rfl ?_
  refine call (is_fn (W := 3) (b := 0) (m := 1) (s := ⟨#[97, 32, 98, 10, 99]⟩) (l := [true, false]) (h14.ext hw1421) (by decide) (by kernel_rfl) (by kernel_rfl) (by kernel_rfl)) ?_
  rintro v w22 ⟨rfl, hE22⟩
  refine wif_t rfl ?_
  refine wif_t rfl ?_
  refine at_buildN gx_ok [[.bool true], [.bool false]] rfl rfl rfl rfl rfl ⟨rfl, rfl, rfl, rfl, ⟨⟩⟩ rfl (fun cs h => by simp only [List.mem_cons, List.not_mem_nil, or_false] at h; rcases h with rfl | rfl <;> rfl) rfl (by decide) (by decide) ?_
  intro w23 hE23 hz23 hB23
  have hS23 := hS15.ext ((hE16.trans (hE17.trans (hE18.trans (hE19.trans hE21)))).trans (hE22.trans hE23))
  refine call (sameb_fn B (some ⟨w22.heap.size, 0, none⟩) 2 c' 2 2 [true, false] [true, false] w23 hS23 (Sl.own' hB23 rfl (by simp [maxLen]))) ?_
  rintro v w24 ⟨rfl, hE24⟩
  refine wif_t rfl ?_
  refine wif_t rfl ?_
  refine wif_t rfl ?_
  refine wif_t rfl ?_
  refine at_buildN gx_ok [(⟨1, ⟨#[120]⟩, 0, 0, 0⟩ : Nd).cells] rfl rfl rfl rfl rfl ⟨rfl, rfl, ⟨⟩⟩ rfl (fun cs h => by simp only [List.mem_singleton] at h; subst h; rfl) rfl (by decide) (by decide) ?_
  intro w25 hE25 hz25 hB25
  have hline : Doc w25 (some ⟨w24.heap.size, 0, none⟩) 1 (leafD 1 ⟨#[120]⟩) (.line [120]) 1 := ⟨⟨Sl.ownN (n := 1) (sz := 5) hB25 rfl (by simp [maxLen]), rfl⟩, Rep.leaf (.inr (.inl rfl)) (by decide) (by decide) (.inr (.inr rfl)) rfl, Nat.le_refl _⟩
  refine call (is_fn (W := 9) (b := 0) (m := 1) (s := ⟨#[10]⟩) (l := []) hline (by decide) (by kernel_rfl) (by kernel_rfl) (by kernel_rfl)) ?_
  rintro v w26 ⟨rfl, hE26⟩
  exact ⟨rfl, hw14.trans (hw1421.trans (hE22.trans (hE23.trans (hE24.trans (hE25.trans hE26)))))⟩

/-- One cost is less than another. -/
def ltC (a b : Nat × Nat) : Bool := decide (a.1 < b.1) || (decide (a.1 = b.1) && decide (a.2 < b.2))
theorem lessl_fn (a b : Nat × Nat) (w : World) : Fn Try.prog 24 [.agg #[.int .i64 a.1, .int .i64 a.2], .agg #[.int .i64 b.1, .int .i64 b.2]] w (fun v w' => v = .bool (ltC a b) ∧ Ext w w') := by
  refine fn_of_exec (c := c24) gx_ok Try.func24 rfl rfl rfl ?_
  refine new (fun w1 hE1 hz1 hB1 => ?_)
  refine new (fun w2 hE2 hz2 hB2 => ?_)
  have hA := hB1.ext hE2
  have hE := hE1.trans hE2
  unfold ltC
  refine load_blk hA rfl ?_
  refine load_blk hB2 rfl ?_
  refine wif_d (fun h1 => ?_) (fun h1 => ?_)
  · exact ⟨by rw [decide_eq_true (show a.1 < b.1 by omega)]; rfl, hE⟩
  rw [decide_eq_false (show ¬ a.1 < b.1 by omega)]
  refine load_blk hA rfl ?_
  refine load_blk hB2 rfl ?_
  refine wif_eq (fun h2 => ?_) (fun h2 => ?_)
  · rw [decide_eq_true (show a.1 = b.1 by omega)]
    refine load_blk hA rfl ?_
    refine load_blk hB2 rfl ?_
    refine ⟨?_, hE⟩
    simp
  · rw [decide_eq_false (show ¬ a.1 = b.1 by omega)]
    exact ⟨rfl, hE⟩
end Go.Proofs.Ytbkadgdhmfolaaa
