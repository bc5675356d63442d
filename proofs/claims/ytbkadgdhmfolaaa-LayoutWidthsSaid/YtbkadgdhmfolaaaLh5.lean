/-
  The law Widths: the walk.
  Conditions: none.
-/
import Derived.Test.YtbkadgdhmfolaaaLh3
namespace Go.Proofs.Ytbkadgdhmfolaaa
open Go Go.RowKit

theorem widths_law (L : Option Addr) (n cl x y : Nat) (bs : List Nat) (w : World) (hL : Sl w 1 L n cl (u8V bs)) (hb : ∀ b ∈ bs, b ≤ 255) (hx : x ≤ 255) (hy : y ≤ 255) :
    Fn Try.prog 7 [.slice L n cl, .int .u8 x, .int .u8 y] w (fun v w' => v = .bool true ∧ Ext w w') := by
  refine fn_of_exec (c := c7) gx_ok Try.func7 rfl rfl rfl ?_
  refine call (sanity_fn w) ?_
  rintro v w1 ⟨rfl, hE1⟩
  refine call (made_dr 60 (hL.ext hE1) hb (by decide) (by decide)) ?_
  rintro v w2 ⟨t, ho, A, c, d, rfl, hE2, hd⟩
  have hno := okT_noT t ho
  refine norm_i64_to ((x : Nat) : Int) rfl (by omega) ?_
  refine call (best_dr x hd (by omega)) ?_
  rintro v w3 ⟨hE3, l, hl, rfl⟩
  refine new (fun w4 hE4 hz4 hB4 => ?_)
  refine storeN_blk0 hB4 rfl (sc rfl) (fun w5 hg5 _ hB5 => ?_)
  have hE25 := hE3.trans (newBox hE4 hB4 hg5)
  refine norm_i64_to ((x : Nat) : Int) rfl (by omega) ?_
  refine norm_i64_to ((y : Nat) : Int) rfl (by omega) ?_
  refine norm_i64_to ((x + y : Nat) : Int) (by omega) (by omega) ?_
  refine call (best_dr (x + y) (hd.ext hE25) (by omega)) ?_
  rintro v w6 ⟨hE6, l', hl', rfl⟩
  refine new (fun w7 hE7 hz7 hB7 => ?_)
  refine storeN_blk0 hB7 rfl (sc rfl) (fun w8 hg8 _ hB8 => ?_)
  have hE58 := hE6.trans (newBox hE7 hB7 hg8)
  have hB5' := hB5.ext hE58
  have hmore := least_more hno hl hl'
  have hE08 := (hE1.trans hE2).trans (hE25.trans hE58)
  refine wif_t rfl ?_
  refine wif_t rfl ?_
  refine load_blk hB8 rfl ?_
  refine load_blk hB5' rfl ?_
  refine wif_dt (by omega) ?_
  refine load_blk hB5' rfl ?_
  refine wif_d (fun h1 => ?_) (fun h1 => ?_)
  · exact ⟨rfl, hE08⟩
  · refine load_blk hB8 rfl ?_
    refine load_blk hB5' rfl ?_
    refine wif_dt (by omega) ?_
    exact ⟨rfl, hE08⟩
end Go.Proofs.Ytbkadgdhmfolaaa
