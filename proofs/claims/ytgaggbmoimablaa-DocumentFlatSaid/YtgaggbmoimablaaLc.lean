/-
  The law Flat: the walk.
  Conditions: none.
-/
import Derived.Test.YtgaggbmoimablaaLa
namespace Go.Proofs.Ytgaggbmoimablaa
open Go Go.RowKit

/-- The flags that the law makes: the first one is set. -/
def bx (fl : List Bool) (j : Nat) : Bool := j == 0 || fl[j]?.getD false
def bxs (fl : List Bool) (M s : Nat) : List Bool := (List.range M).map fun j => if j < s then bx fl j else false
theorem bx_len (fl : List Bool) (M s : Nat) : (bxs fl M s).length = M := by simp [bxs]
theorem boolsV_bx {fl : List Bool} {M s : Nat} {v : Bool} (hv : v = bx fl s) : (boolsV (bxs fl M s)).set s (.bool v) = boolsV (bxs fl M (s + 1)) := by
  rw [← boolsV_set]
  congr 1
  apply List.ext_getElem
  · simp [bxs]
  · intro i h1 h2
    simp only [bxs, List.getElem_set, List.getElem_map, List.getElem_range]
    by_cases h : s = i
    · subst h; rw [if_pos rfl, if_pos (by omega), hv]
    · rw [if_neg h]
      by_cases h3 : i < s
      · rw [if_pos h3, if_pos (by omega)]
      · rw [if_neg h3, if_neg (by omega)]
theorem bxs_zero (fl : List Bool) (M : Nat) : List.replicate M false = bxs fl M 0 := by
  apply List.ext_getElem
  · simp [bxs]
  · intro i h1 h2; simp [bxs]
theorem bxs_head (fl : List Bool) {M : Nat} (h : 0 < M) : (bxs fl M M).headD false = true := by
  obtain ⟨m, rfl⟩ : ∃ m, M = m + 1 := ⟨M - 1, by omega⟩
  simp [bxs, List.range_succ_eq_map, bx]

theorem flat_law (L F G : Option Addr) (n cl m cf k cg : Nat) (bs : List Nat) (fl gl : List Bool) (w : World) (hL : Sl w 1 L n cl (u8V bs)) (hb : ∀ b ∈ bs, b ≤ 255) (hF : Sl w 1 F m cf (boolsV fl)) (hG : Sl w 1 G k cg (boolsV gl)) :
    Fn Try.prog 7 [.slice L n cl, .slice F m cf, .slice G k cg] w (fun v w' => v = .bool true ∧ Ext w w') := by
  have hfl : fl.length = m := by have := hF.len; rw [boolsV_length] at this; omega
  have hgl : gl.length = k := by have := hG.len; rw [boolsV_length] at this; omega
  refine fn_of_exec (c := { c7 with cuts := [6] }) gx_ok Try.func7 rfl rfl rfl ?_
  refine call (sanity_fn w) ?_
  rintro v w1 ⟨rfl, hE1⟩
  refine call (made_dr 50 (hL.ext hE1) hb (by decide) (by decide)) ?_
  rintro v w2 ⟨t, ho, A0, c0, d0, rfl, hE2, hd0⟩
  refine call (group_dr hd0 (by decide)) ?_
  rintro v w2b ⟨A, c, d, rfl, hE2b, hd⟩
  have hv := hd.rep.valid
  have hdl := hd.len
  refine call (groups_fn A d.length c d w2b hd.sd) ?_
  rintro v w3 ⟨B, M, cB, rfl, hE3, hs3⟩
  have hM : M = ng t + 1 := by
    have h1 := hs3.len
    rw [natsV_length, grp_ok hv, G_ng hv.ok, hd.rep.tree] at h1
    simp only [ng] at h1; omega
  have hMd : M ≤ d.length := by
    have h1 := hs3.len
    rw [natsV_length, grp_ok hv] at h1
    have h2 := G_len hv (d.length - 1)
    have h3 := hv.2.1
    omega
  rw [chk_ok hv]
  have hE03 : Ext w w3 := hE1.trans (hE2.trans (hE2b.trans hE3))
  refine at_make gx_ok rfl rfl rfl rfl rfl rfl rfl rfl (by show 1 * M ≤ _; omega) (by unfold maxLen; omega) (fun w4 hE4 hz4 hB4 => ?_)
  have hX0 : Blk w4 w3.heap.size 4 (boolsV (bxs fl M 0)) := by rw [← bxs_zero, ← boolsV_replicate]; exact hB4
  refine at_make gx_ok rfl rfl rfl rfl rfl rfl rfl rfl (by show 1 * M ≤ _; omega) (by unfold maxLen; omega) (fun w5 hE5 hz5 hB5 => ?_)
  have hY0 : Blk w5 w4.heap.size 4 (boolsV (bxs gl M 0)) := by rw [← bxs_zero, ← boolsV_replicate]; exact hB5
  have hX1 := hX0.ext hE5
  have hE35 := hE4.trans hE5
  clear hB4 hB5 hX0
  have hne : w3.heap.size ≠ w4.heap.size := by omega
  refine cut0In [] gx_ok (fun w' => Ext w3 w' ∧ Blk w' w3.heap.size 4 (boolsV (bxs fl M M)) ∧ Blk w' w4.heap.size 4 (boolsV (bxs gl M M))) ?_ ?_
  · refine loop gx_ok [13] (fun s : Nat => [.int .i64 s]) (fun s w' => Ext w3 w' ∧ Blk w' w3.heap.size 4 (boolsV (bxs fl M s)) ∧ Blk w' w4.heap.size 4 (boolsV (bxs gl M s)) ∧ s ≤ M) (fun s _ => M - s) 0 rfl ⟨hE35, hX1, hY0, Nat.zero_le _⟩ ?_
    clear hE35 hX1 hY0
    rintro s w6 ⟨hE4, hBx, hBy, hsM⟩
    refine wif_d (fun g1 => ?_) (fun g1 => ?_)
    · skip
      refine wif_eq (fun h0 => ?_) (fun h0 => ?_)
      · have hv : true = bx fl s := by simp [bx, show s = 0 by omega]
        refine index_i (j := s) rfl (by omega) ?_
        refine store_mod hBx (by rw [boolsV_length, bx_len]; omega) (fun w5 hm5 hB4 => ?_)
        rw [boolsV_bx hv] at hB4
        have hE5 := hm5.ext hE4 (fun i hi => by omega)
        have hB5 := hBy.mod hm5 (by omega)
        refine wif_eq (fun h0 => ?_) (fun h0 => ?_)
        · have hu : true = bx gl s := by simp [bx, show s = 0 by omega]
          refine index_i (j := s) rfl (by omega) ?_
          refine store_mod hB5 (by rw [boolsV_length, bx_len]; omega) (fun w6 hm6 hB6 => ?_)
          rw [boolsV_bx hu] at hB6
          refine norm_i64_to ((s + 1 : Nat) : Int) (by omega) (by omega) ?_
          exact ⟨s + 1, rfl, ⟨hm6.ext hE5 (fun i hi => by omega), hB4.mod hm6 (by omega), hB6, by omega⟩, by show M - (s + 1) < M - s; omega⟩
        · refine wif_d (fun h1 => ?_) (fun h1 => ?_)
          · have hfs : gl[s]? = some gl[s] := List.getElem?_eq_getElem (by omega)
            generalize gl[s] = b at hfs
            have hu : b = bx gl s := by simp [bx, hfs]; intro e; omega
            refine index_sl (hG.ext (hE03.trans hE5)) (by omega) (fun ad u hA hu2 hcell => ?_)
            rw [boolsV_get hfs] at hu2
            cases hu2
            refine load hcell ?_
            refine index_i (j := s) rfl (by omega) ?_
            refine store_mod hB5 (by rw [boolsV_length, bx_len]; omega) (fun w6 hm6 hB6 => ?_)
            rw [boolsV_bx hu] at hB6
            refine norm_i64_to ((s + 1 : Nat) : Int) (by omega) (by omega) ?_
            exact ⟨s + 1, rfl, ⟨hm6.ext hE5 (fun i hi => by omega), hB4.mod hm6 (by omega), hB6, by omega⟩, by show M - (s + 1) < M - s; omega⟩
          · have hu : false = bx gl s := by simp [bx, List.getElem?_eq_none (show gl.length ≤ s by omega)]; intro e; omega
            refine index_i (j := s) rfl (by omega) ?_
            refine store_mod hB5 (by rw [boolsV_length, bx_len]; omega) (fun w6 hm6 hB6 => ?_)
            rw [boolsV_bx hu] at hB6
            refine norm_i64_to ((s + 1 : Nat) : Int) (by omega) (by omega) ?_
            exact ⟨s + 1, rfl, ⟨hm6.ext hE5 (fun i hi => by omega), hB4.mod hm6 (by omega), hB6, by omega⟩, by show M - (s + 1) < M - s; omega⟩
      · refine wif_d (fun h1 => ?_) (fun h1 => ?_)
        · have hfs : fl[s]? = some fl[s] := List.getElem?_eq_getElem (by omega)
          generalize fl[s] = b at hfs
          have hv : b = bx fl s := by simp [bx, hfs]; intro e; omega
          refine index_sl (hF.ext (hE03.trans hE4)) (by omega) (fun ad u hA hu2 hcell => ?_)
          rw [boolsV_get hfs] at hu2
          cases hu2
          refine load hcell ?_
          refine index_i (j := s) rfl (by omega) ?_
          refine store_mod hBx (by rw [boolsV_length, bx_len]; omega) (fun w5 hm5 hB4 => ?_)
          rw [boolsV_bx hv] at hB4
          have hE5 := hm5.ext hE4 (fun i hi => by omega)
          have hB5 := hBy.mod hm5 (by omega)
          refine wif_eq (fun h0 => ?_) (fun h0 => ?_)
          · have hu : true = bx gl s := by simp [bx, show s = 0 by omega]
            refine index_i (j := s) rfl (by omega) ?_
            refine store_mod hB5 (by rw [boolsV_length, bx_len]; omega) (fun w6 hm6 hB6 => ?_)
            rw [boolsV_bx hu] at hB6
            refine norm_i64_to ((s + 1 : Nat) : Int) (by omega) (by omega) ?_
            exact ⟨s + 1, rfl, ⟨hm6.ext hE5 (fun i hi => by omega), hB4.mod hm6 (by omega), hB6, by omega⟩, by show M - (s + 1) < M - s; omega⟩
          · refine wif_d (fun h1 => ?_) (fun h1 => ?_)
            · have hfs : gl[s]? = some gl[s] := List.getElem?_eq_getElem (by omega)
              generalize gl[s] = b at hfs
              have hu : b = bx gl s := by simp [bx, hfs]; intro e; omega
              refine index_sl (hG.ext (hE03.trans hE5)) (by omega) (fun ad u hA hu2 hcell => ?_)
              rw [boolsV_get hfs] at hu2
              cases hu2
              refine load hcell ?_
              refine index_i (j := s) rfl (by omega) ?_
              refine store_mod hB5 (by rw [boolsV_length, bx_len]; omega) (fun w6 hm6 hB6 => ?_)
              rw [boolsV_bx hu] at hB6
              refine norm_i64_to ((s + 1 : Nat) : Int) (by omega) (by omega) ?_
              exact ⟨s + 1, rfl, ⟨hm6.ext hE5 (fun i hi => by omega), hB4.mod hm6 (by omega), hB6, by omega⟩, by show M - (s + 1) < M - s; omega⟩
            · have hu : false = bx gl s := by simp [bx, List.getElem?_eq_none (show gl.length ≤ s by omega)]; intro e; omega
              refine index_i (j := s) rfl (by omega) ?_
              refine store_mod hB5 (by rw [boolsV_length, bx_len]; omega) (fun w6 hm6 hB6 => ?_)
              rw [boolsV_bx hu] at hB6
              refine norm_i64_to ((s + 1 : Nat) : Int) (by omega) (by omega) ?_
              exact ⟨s + 1, rfl, ⟨hm6.ext hE5 (fun i hi => by omega), hB4.mod hm6 (by omega), hB6, by omega⟩, by show M - (s + 1) < M - s; omega⟩
        · have hv : false = bx fl s := by simp [bx, List.getElem?_eq_none (show fl.length ≤ s by omega)]; intro e; omega
          refine index_i (j := s) rfl (by omega) ?_
          refine store_mod hBx (by rw [boolsV_length, bx_len]; omega) (fun w5 hm5 hB4 => ?_)
          rw [boolsV_bx hv] at hB4
          have hE5 := hm5.ext hE4 (fun i hi => by omega)
          have hB5 := hBy.mod hm5 (by omega)
          refine wif_eq (fun h0 => ?_) (fun h0 => ?_)
          · have hu : true = bx gl s := by simp [bx, show s = 0 by omega]
            refine index_i (j := s) rfl (by omega) ?_
            refine store_mod hB5 (by rw [boolsV_length, bx_len]; omega) (fun w6 hm6 hB6 => ?_)
            rw [boolsV_bx hu] at hB6
            refine norm_i64_to ((s + 1 : Nat) : Int) (by omega) (by omega) ?_
            exact ⟨s + 1, rfl, ⟨hm6.ext hE5 (fun i hi => by omega), hB4.mod hm6 (by omega), hB6, by omega⟩, by show M - (s + 1) < M - s; omega⟩
          · refine wif_d (fun h1 => ?_) (fun h1 => ?_)
            · have hfs : gl[s]? = some gl[s] := List.getElem?_eq_getElem (by omega)
              generalize gl[s] = b at hfs
              have hu : b = bx gl s := by simp [bx, hfs]; intro e; omega
              refine index_sl (hG.ext (hE03.trans hE5)) (by omega) (fun ad u hA hu2 hcell => ?_)
              rw [boolsV_get hfs] at hu2
              cases hu2
              refine load hcell ?_
              refine index_i (j := s) rfl (by omega) ?_
              refine store_mod hB5 (by rw [boolsV_length, bx_len]; omega) (fun w6 hm6 hB6 => ?_)
              rw [boolsV_bx hu] at hB6
              refine norm_i64_to ((s + 1 : Nat) : Int) (by omega) (by omega) ?_
              exact ⟨s + 1, rfl, ⟨hm6.ext hE5 (fun i hi => by omega), hB4.mod hm6 (by omega), hB6, by omega⟩, by show M - (s + 1) < M - s; omega⟩
            · have hu : false = bx gl s := by simp [bx, List.getElem?_eq_none (show gl.length ≤ s by omega)]; intro e; omega
              refine index_i (j := s) rfl (by omega) ?_
              refine store_mod hB5 (by rw [boolsV_length, bx_len]; omega) (fun w6 hm6 hB6 => ?_)
              rw [boolsV_bx hu] at hB6
              refine norm_i64_to ((s + 1 : Nat) : Int) (by omega) (by omega) ?_
              exact ⟨s + 1, rfl, ⟨hm6.ext hE5 (fun i hi => by omega), hB4.mod hm6 (by omega), hB6, by omega⟩, by show M - (s + 1) < M - s; omega⟩
    · have : s = M := by omega
      subst this
      exact ⟨rfl, hE4, hBx, hBy⟩
  rintro w6 ⟨hE36, hX, hY⟩
  have hd6 := hd.ext (hE3.trans hE36)
  have hsX : Sl w6 1 (some ⟨w3.heap.size, 0, none⟩) M M (boolsV (bxs fl M M)) := Sl.own' hX (by rw [boolsV_length, bx_len]) (by unfold maxLen; omega)
  have hsY : Sl w6 1 (some ⟨w4.heap.size, 0, none⟩) M M (boolsV (bxs gl M M)) := Sl.own' hY (by rw [boolsV_length, bx_len]) (by unfold maxLen; omega)
  have hM0 : 0 < M := by omega
  have hxh := bxs_head fl hM0
  have hyh := bxs_head gl hM0
  have hxl := bx_len fl M M
  have hyl := bx_len gl M M
  generalize bxs fl M M = X at *
  generalize bxs gl M M = Y at *
  refine call (render_dr X hd6 hsX) ?_
  rintro v w7 ⟨rfl, hE7⟩
  refine call (render_dr Y (hd6.ext hE7) (hsY.ext hE7)) ?_
  rintro v w8 ⟨rfl, hE8⟩
  have hE08 := hE03.trans (hE36.trans (hE7.trans hE8))
  refine wif_nef rfl ?_
  refine wif_eqf (by omega) ?_
  refine call (has_dr 2 (hd6.ext (hE7.trans hE8)) (by decide)) ?_
  rintro v _ ⟨hb2, rfl, hiff, rfl⟩
  rw [hd.rep.hard] at hiff
  have hgh : hasHard (.group t) = hasHard t := rfl
  rw [hgh] at hiff
  refine wif (fun h1 => ?_) (fun h1 => ?_)
  · have hh : hasHard t = true := hiff.1 h1
    rw [flat_hard hh hxh, flat_hard hh hyh]
    refine wif_eqt rfl ?_
    refine wif_eqt rfl ?_
    exact ⟨rfl, hE08⟩
  · have hh : hasHard t = false := by cases e : hasHard t; rfl; exact absurd (hiff.2 e) (by rw [h1]; decide)
    have hlim := rndT_lim hd.rep X
    rw [flat_soft hh hxh (by omega)] at hlim ⊢
    rw [flat_soft hh hyh (by omega)]
    refine wif_eqt rfl ?_
    refine wif_eqt rfl ?_
    refine wif_t (by simp) ?_
    refine call (cost_fn (strOf (flatT t)) 0 w8 (by rw [strOf_size]; have := hlim.1; dsimp only at this; omega) (by omega)) ?_
    rintro v w9 ⟨rfl, hE9⟩
    rw [bytesOf_strOf hlim.2, costL_line _ (flat_no10 hh ho)]
    refine wif_eqt rfl ?_
    exact ⟨rfl, hE08.trans hE9⟩
end Go.Proofs.Ytgaggbmoimablaa
