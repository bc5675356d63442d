/-
  The law Lines: the walk.
  Conditions: none.
-/
import Derived.Test.YtbkadgdhmfolaaaLh3
namespace Go.Proofs.Ytbkadgdhmfolaaa
open Go Go.RowKit

theorem lines_law (v0 : Value) (b0 b1 : List Nat) (x : Nat) (w : World) (h3 : Two w v0 b0 b1) (hb0 : ∀ b ∈ b0, b ≤ 255) (hb1 : ∀ b ∈ b1, b ≤ 255) (hx : x ≤ 255) :
    Fn Try.prog 9 [v0, .int .u8 x] w (fun v w' => v = .bool true ∧ Ext w w') := by
  obtain ⟨A0, n0, c0, A1, n1, c1, rfl, s0, s1⟩ := h3
  refine fn_of_exec (c := c9) gx_ok Try.func9 rfl rfl rfl ?_
  refine new (fun w1 hE1 hz1 hB1 => ?_)
  refine call (sanity_fn w1) ?_
  rintro v w2 ⟨rfl, hE2⟩
  have hE02 := hE1.trans hE2
  have hBa := hB1.ext hE2
  have hEd := Ext.drew w2
  refine draw_plan gx_ok (Ext w2) 8 [(true, 0), (true, 1), (true, 3), (true, 4), (false, 2), (false, 5), (true, 6), (true, 7)] (by kernel_rfl) hEd ?_
  refine index_i (j := 0) rfl (by omega) ?_
  refine qload (v := .slice A0 n0 c0) (fun w' hw' => by rw [(hBa.ext hw').cell]; rfl) ?_
  refine index_i (j := 1) rfl (by omega) ?_
  refine qload (v := .slice A1 n1 c1) (fun w' hw' => by rw [(hBa.ext hw').cell]; rfl) ?_
  refine call (made_dr 30 (s0.ext (hE02.trans hEd)) hb0 (by decide) (by decide)) ?_
  rintro v w4 ⟨ta, hoa, Aa, ca, da, rfl, hE4, ha⟩
  refine ⟨hEd.trans hE4, ?_⟩
  refine call (made_dr 30 (s1.ext (hE02.trans (hEd.trans hE4))) hb1 (by decide) (by decide)) ?_
  rintro v w5 ⟨tb, hob, Ab, cb, db, rfl, hE5, hb⟩
  have hE25 := (hEd.trans hE4).trans hE5
  refine ⟨hE25, ?_⟩
  have hE05 := hE02.trans hE25
  have ha := ha.ext hE5
  have hna := okT_noT ta hoa
  have hnb := okT_noT tb hob
  clear hBa hB1 hE1 hE2 hE02 hE25 hE4 hE5 hEd
  refine rem_c 40 rfl (by decide) ?_
  have hW : x % 40 < 40 := Nat.mod_lt _ (by decide)
  generalize x % 40 = W at hW
  refine norm_i64_to ((W : Nat) : Int) rfl (by omega) ?_
  refine call (best_dr W ha (by omega)) ?_
  rintro v w6 ⟨hE6, l, hl, rfl⟩
  refine new (fun w7 hE7 hz7 hB7 => ?_)
  refine storeN_blk0 hB7 rfl (sc rfl) (fun w8 hg8 _ hB8 => ?_)
  have h58 := hE6.trans (newBox hE7 hB7 hg8)
  refine call (best_dr W (hb.ext h58) (by omega)) ?_
  rintro v w9 ⟨hE9, l2, hl2, rfl⟩
  refine new (fun w10 hE10 hz10 hB10 => ?_)
  refine storeN_blk0 hB10 rfl (sc rfl) (fun w11 hg11 _ hB11 => ?_)
  have h811 := hE9.trans (newBox hE10 hB10 hg11)
  have h511 := h58.trans h811
  refine at_buildN gx_ok [(⟨2, ⟨#[]⟩, 0, 0, 0⟩ : Nd).cells] rfl rfl rfl rfl rfl ⟨rfl, rfl, ⟨⟩⟩ rfl (fun cs h => by simp only [List.mem_singleton] at h; subst h; rfl) rfl (by decide) (by decide) ?_
  intro w12 hE12 hz12 hB12
  have hhard : Doc w12 (some ⟨w11.heap.size, 0, none⟩) 1 (leafD 2 ⟨#[]⟩) .hard 1 := ⟨⟨Sl.ownN (n := 1) (sz := 5) hB12 rfl (by simp [maxLen]), rfl⟩, Rep.leaf (.inr (.inr rfl)) (by decide) (by decide) (.inl rfl) rfl, Nat.le_refl _⟩
  refine call (seq_dr hhard (hb.ext (h511.trans hE12)) (by decide)) ?_
  rintro v w13 ⟨A13, c13, d13, rfl, hE13, h13⟩
  refine call (seq_dr (ha.ext (h511.trans (hE12.trans hE13))) h13 (by decide)) ?_
  rintro v w14 ⟨A14, c14, d14, rfl, hE14, h14⟩
  refine call (best_dr W h14 (by omega)) ?_
  rintro v w15 ⟨hE15, l3, hl3, rfl⟩
  cases (least_brk hl hl2).uniq hl3
  refine new (fun w16 hE16 hz16 hB16 => ?_)
  refine storeN_blk0 hB16 rfl (sc rfl) (fun w17 hg17 _ hB17 => ?_)
  have h1117 := (hE12.trans (hE13.trans (hE14.trans hE15))).trans (newBox hE16 hB16 hg17)
  have hB8' := hB8.ext (h811.trans h1117)
  have hB11' := hB11.ext h1117
  have hrun := runT_brk W (b := tb) hl.1 l2
  have htx := txtN_brk (b := tb) (y := l2) hl.1
  unfold brkT at hrun htx
  rw [hrun] at hB17
  rw [htx]
  have hlim := txtN_lim ha.rep hl.1
  have hlim2 := txtN_lim hb.rep hl2.1
  have hc1 := costL_le W (txtN ta l) 0
  have hc2 := costL_le W (txtN tb l2) 0
  rw [cost_nrm W hna hl.1] at hc1
  rw [cost_nrm W hnb hl2.1] at hc2
  dsimp only at hc1 hc2
  have hstr : strOf (txtN ta l) ++ (⟨#[10]⟩ : ByteArray) ++ strOf (txtN tb l2) = strOf (txtN ta l ++ 10 :: txtN tb l2) := by
    have e : (⟨#[10]⟩ : ByteArray) = strOf [10] := rfl
    rw [e, strOf_append, strOf_append, List.append_assoc]; rfl
  refine wif_t rfl ?_
  refine wif_t rfl ?_
  refine wif_t rfl ?_
  refine need (by rw [strOf_size]; unfold maxLen; show _ + 1 ≤ _; omega) ?_
  refine need (by rw [ByteArray.size_append, strOf_size, strOf_size]; unfold maxLen; show _ + 1 + _ ≤ _; omega) ?_
  rw [hstr]
  refine wif_t (by simp) ?_
  refine loadN_blk0 hB17 rfl ?_
  refine load_blk hB8' rfl ?_
  refine load_blk hB11' rfl ?_
  refine norm_i64_to (((runT W ta l 0 (0, false)).2.1 + (runT W tb l2 0 (0, false)).2.1 : Nat) : Int) (by omega) (by omega) ?_
  refine load_blk hB8' rfl ?_
  refine load_blk hB11' rfl ?_
  refine norm_i64_to (((runT W ta l 0 (0, false)).2.2 + (runT W tb l2 0 (0, false)).2.2 : Nat) : Int) (by omega) (by omega) ?_
  refine norm_i64_to (((runT W ta l 0 (0, false)).2.2 + (runT W tb l2 0 (0, false)).2.2 + 1 : Nat) : Int) (by omega) (by omega) ?_
  refine wif_t (by simp) ?_
  exact ⟨rfl, hE05.trans (h511.trans h1117)⟩
end Go.Proofs.Ytbkadgdhmfolaaa
