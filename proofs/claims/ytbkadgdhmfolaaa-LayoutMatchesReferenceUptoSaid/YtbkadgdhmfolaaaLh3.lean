/-
  The law Least: the walk.
  Conditions: none.
-/
import Derived.Test.YtbkadgdhmfolaaaGr2
namespace Go.Proofs.Ytbkadgdhmfolaaa
open Go Go.RowKit

theorem made_dr {L : Option Addr} {n cl : Nat} {bs : List Nat} (most : Nat) {w : World} (hL : Sl w 1 L n cl (u8V bs)) (hb : ∀ b ∈ bs, b ≤ 255) (hm1 : 1 ≤ most) (hm : most ≤ 1000) :
    Fn Try.prog 20 [.slice L n cl, .int .i64 most] w (fun v w' => ∃ t, okT t ∧ DocR w t most v w') :=
  Fn.mono (made_fn L n cl bs most w hL hb hm1 hm) (fun v w' ⟨d, t, hr, ho, hl, hv⟩ => ⟨t, ho, hv.doc hr hl⟩)
theorem choice_dr {A B : Option Addr} {c m c2 k : Nat} {d : List Nd} {t : Dt} {fl : List Bool} {w : World} (h : Doc w A c d t k) (hf : Sl w 1 B m c2 (boolsV fl)) :
    Fn Try.prog 22 [.slice A d.length c, .slice B m c2] w (BoolRow w (choose fl t)) := choice_fn A B _ c m c2 d t fl w h.sd h.rep hf
theorem cost_dr (l : List Nat) (W : Nat) (w : World) (hl : l.length ≤ 70368744177664) (h8 : ∀ x ∈ l, x < 256) (hW : W ≤ 1000) :
    Fn Try.prog 23 [.string (strOf l), .int .i64 W] w (fun v w' => v = .agg #[.int .i64 (costT W l).1, .int .i64 (costT W l).2] ∧ Ext w w') := by
  refine Fn.mono (cost_fn (strOf l) W w (by rw [strOf_size]; omega) (by omega)) ?_
  rintro v w' ⟨rfl, hE⟩
  rw [bytesOf_strOf h8]
  exact ⟨rfl, hE⟩
theorem txtN_lim {d : List Nd} {t : Dt} (h : Rep d t) {l : List Bool} (hl : l ∈ nrm t) : (txtN t l).length ≤ 70368744177664 ∧ ∀ x ∈ txtN t l, x < 256 := by
  have := rndT_lim h l
  rw [rndT_nrm hl] at this
  exact this

theorem least_law (L F : Option Addr) (n cl m cf x : Nat) (bs : List Nat) (fl : List Bool) (w : World) (hL : Sl w 1 L n cl (u8V bs)) (hb : ∀ b ∈ bs, b ≤ 255) (hF : Sl w 1 F m cf (boolsV fl)) (hx : x ≤ 255) :
    Fn Try.prog 5 [.slice L n cl, .slice F m cf, .int .u8 x] w (fun v w' => v = .bool true ∧ Ext w w') := by
  refine fn_of_exec (c := c5) gx_ok Try.func5 rfl rfl rfl ?_
  refine call (sanity_fn w) ?_
  rintro v w1 ⟨rfl, hE1⟩
  refine call (made_dr 60 (hL.ext hE1) hb (by decide) (by decide)) ?_
  rintro v w2 ⟨t, ho, A, c, d, rfl, hE2, hd⟩
  refine rem_c 40 rfl (by decide) ?_
  have hW : x % 40 < 40 := Nat.mod_lt _ (by decide)
  generalize x % 40 = W at hW
  refine norm_i64_to ((W : Nat) : Int) rfl (by omega) ?_
  have hno := okT_noT t ho
  refine call (best_dr W hd (by omega)) ?_
  rintro v w3 ⟨hE3, l, hl, rfl⟩
  rw [← costT_run hno hl.1]
  refine new (fun w4 hE4 hz4 hB4 => ?_)
  refine storeN_blk0 hB4 rfl (sc rfl) (fun w5 hg5 _ hB5 => ?_)
  have hE5 := newBox hE4 hB4 hg5
  have hE25 := hE3.trans hE5
  refine call (choices_dr W (hd.ext hE25) (by omega)) ?_
  rintro v w6 ⟨hE6, B, c', l2, rfl, hS6, hl2⟩
  cases hl.uniq hl2
  refine call (render_dr l (hd.ext (hE25.trans hE6)) hS6) ?_
  rintro v w7 ⟨rfl, hE7⟩
  rw [rndT_nrm hl.1]
  have hE27 := hE25.trans (hE6.trans hE7)
  refine call (choice_dr (hd.ext hE27) (hF.ext ((hE1.trans hE2).trans hE27))) ?_
  rintro v w8 ⟨B2, cp2, rfl, hE8, hS8⟩
  refine call (render_dr (choose fl t) (hd.ext (hE27.trans hE8)) hS8) ?_
  rintro v w9 ⟨rfl, hE9⟩
  rw [rndT_choose]
  have hE29 := hE27.trans (hE8.trans hE9)
  have hE09 := (hE1.trans hE2).trans hE29
  have hB9 := hB5.ext ((hE6.trans hE7).trans (hE8.trans hE9))
  have hlim := txtN_lim hd.rep hl.1
  have hlim2 := txt_lim hd.rep fl
  refine draw_plan gx_ok (Ext w9) 38 [(true, 0), (true, 1), (true, 2), (true, 3), (true, 4), (true, 5), (true, 6), (true, 7), (true, 8), (true, 9), (true, 10), (true, 11), (true, 12), (true, 13), (true, 14), (true, 15), (true, 16), (true, 17), (true, 18), (true, 19), (true, 20), (true, 21), (true, 23), (false, 22), (true, 24), (true, 25), (true, 26), (true, 27), (true, 28), (true, 30), (false, 29), (false, 31), (true, 32), (true, 33), (true, 34), (true, 35), (true, 36), (true, 37)] (by kernel_rfl) (Ext.drew w9) ?_
  refine wif_t rfl ?_
  refine wif_t rfl ?_
  refine wif_t rfl ?_
  refine wif_t rfl ?_
  refine wif_t (by simp) ?_
  refine qloadN (vs := [.int .i64 (costT W (txtN t l)).1, .int .i64 (costT W (txtN t l)).2]) rfl (fun w' hw' j v hj => by rw [(hB9.ext hw').cell]; exact hj) ?_
  refine call (cost_dr (txtN t l) W _ hlim.1 hlim.2 (by omega)) ?_
  rintro v w10 ⟨rfl, hE10⟩
  refine ⟨(Ext.drew w9).trans hE10, ?_⟩
  refine wif_t (by simp) ?_
  refine qloadN (vs := [.int .i64 (costT W (txtN t l)).1, .int .i64 (costT W (txtN t l)).2]) rfl (fun w' hw' j v hj => by rw [(hB9.ext hw').cell]; exact hj) ?_
  refine call (cost_dr (txt t fl) W _ hlim2.1 hlim2.2 (by omega)) ?_
  rintro v w11 ⟨rfl, hE11⟩
  have hE911 := ((Ext.drew w9).trans hE10).trans hE11
  refine ⟨hE911, ?_⟩
  refine call (lessl_fn (costT W (txt t fl)) (costT W (txtN t l)) _) ?_
  rintro v w12 ⟨rfl, hE12⟩
  rw [least_choose fl hno hl]
  refine ⟨hE911.trans hE12, ?_⟩
  refine wif_t rfl ?_
  exact ⟨rfl, hE09.trans (hE911.trans hE12)⟩
end Go.Proofs.Ytbkadgdhmfolaaa
