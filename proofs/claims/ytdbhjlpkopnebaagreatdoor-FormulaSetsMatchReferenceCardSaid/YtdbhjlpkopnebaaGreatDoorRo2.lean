/-
  The reference's Of: sizes.
  Conditions: none.
-/
import Derived.Test.YtdbhjlpkopnebaaGreatDoorRo1
import Derived.Test.YtdbhjlpkopnebaaGreatDoorLm
namespace Go.Proofs.YtdbhjlpkopnebaaGreatDoor
open Go Go.RowKit

def szL (nd : List Br) (k : Nat) : List Nat := (List.range k).map (szN nd)
theorem szL_get {nd : List Br} {k j : Nat} (h : j < k) : (szL nd k)[j]? = some (szN nd j) := by simp [szL, h]
theorem szL_len (nd : List Br) (k : Nat) : (szL nd k).length = k := by simp [szL]
theorem szL_two (nd : List Br) : natsV (szL nd 2) = [.int .i64 1, .int .i64 1] := by
  have : szL nd 2 = [szN nd 0, szN nd 1] := rfl
  rw [this, szN_one nd (by decide), szN_one nd (by decide)]; rfl
theorem szL_snoc (nd : List Br) (k : Nat) : szL nd (k + 1) = szL nd k ++ [szN nd k] := by simp [szL, List.range_succ]
theorem szN_le (nd : List Br) (n : Nat) : szN nd n ≤ 10000 := Nat.min_le_right _ _

theorem mn1 (k a M : Nat) : min (k + min a M) M = min (k + a) M := by omega
theorem mn2 (a b k M : Nat) : min (min a M + min b M + k) M = min (a + b + k) M := by omega
theorem if_min (n M : Nat) : (if (M : Int) < (n : Int) then (M : Int) else (n : Int)) = ((min n M : Nat) : Int) := by split <;> omega

theorem sizes_fn (NA : Option Addr) (nn nc : Nat) (nd : List Br) (root : Int) (w : World) (h : SB w NA nn nc nd) (hr : Rd0 nd) (hn : nn ≤ 1000000) :
    Fn Tryz.prog 38 [dgV NA nn nc root] w (fun v w' => ∃ A c, v = .slice A (nn + 2) c ∧ Ext w w' ∧ Sl w' 1 A (nn + 2) c (natsV (szL nd (nn + 2)))) := by
  have hnl := h.2
  refine fn_of_exec (c := { c38 with cuts := [8] }) gx_ok Tryz.func38 rfl rfl rfl ?_
  refine new (fun w1 hE1 hz1 hB1 => ?_)
  refine at_build2 gx_ok rfl rfl rfl rfl rfl rfl rfl rfl rfl rfl (fun w2 hE2 hz2 hB2 => ?_)
  have hO2 : Own w2 w1.heap.size 3 1 (some ⟨w1.heap.size, 0, none⟩) 2 2 (natsV (szL nd 2)) := by
    rw [szL_two]
    exact Own.of_blk (sp := []) hB2 (Nat.le_refl _) rfl rfl (by decide)
  refine loop gx_ok [3, 4] (fun t : Nat × Option Addr × Nat => [.slice t.2.1 (t.1 + 2) t.2.2, .int .i64 t.1]) (fun t w' => Ext w1 w' ∧ Own w' w1.heap.size 3 1 t.2.1 (t.1 + 2) t.2.2 (natsV (szL nd (t.1 + 2))) ∧ t.1 ≤ nn) (fun t _ => nn - t.1) (0, some ⟨w1.heap.size, 0, none⟩, 2) rfl ⟨hE2, hO2, Nat.zero_le _⟩ ?_
  rintro ⟨i, A, c⟩ w3 ⟨hE3, hO3, hi⟩
  simp only at hE3 hO3 hi
  have hE03 := hE1.trans hE3
  have hB3 := hB1.ext hE3
  refine load_blk0 hB3 rfl ?_
  refine wif_d (fun h1 => ?_) (fun h1 => ?_)
  · have hin : i < nd.length := by omega
    refine load_blk0 hB3 rfl ?_
    refine index_sls br_len (h.ext hE03) rfl (by omega) (fun p x hx hc => ?_)
    refine load (hc 1 _ rfl) ?_
    refine load_blk0 hB3 rfl ?_
    refine index_sls br_len (h.ext hE03) rfl (by omega) (fun p2 x2 hx2 hc2 => ?_)
    have hxx : x2 = x := Option.some.inj (hx2.symm.trans hx)
    subst hxx
    refine load (hc2 2 _ rfl) ?_
    obtain ⟨b1, b2, b3, b4, b5, b6, b7, b8, b9, b10⟩ := hr _ _ hx
    have hcf := cf_ge hr.wf hx
    obtain ⟨bv, bl, bh⟩ := x2
    simp only at b1 b2 b3 b4 b5 b6 b7 b9 b10 hcf
    obtain ⟨l, rfl⟩ := Int.eq_ofNat_of_zero_le b3
    obtain ⟨hh, rfl⟩ := Int.eq_ofNat_of_zero_le b5
    have gl := szL_get (nd := nd) (k := i + 2) (j := l) (by omega)
    have gh := szL_get (nd := nd) (k := i + 2) (j := hh) (by omega)
    have zl := szN_le nd l
    have zh := szN_le nd hh
    refine draw_plan gx_ok (Ext w3) 11 [(true, 0), (true, 1), (true, 2), (true, 3), (true, 4), (true, 5), (true, 6), (true, 7), (true, 8), (true, 9), (true, 10)] (by kernel_rfl) (Ext.drew w3) ?_
    refine index_sl hO3.sl (by omega) (fun ad u hA hu hcell => ?_)
    rw [natsV_get gl] at hu
    cases hu
    refine qload (v := .int .i64 (szN nd l : Nat)) (fun w' hw' => hw'.cell hcell) ?_
    refine index_sl hO3.sl (by omega) (fun ad2 u hA2 hu hcell2 => ?_)
    rw [natsV_get gh] at hu
    cases hu
    refine qload (v := .int .i64 (szN nd hh : Nat)) (fun w' hw' => hw'.cell hcell2) ?_
    refine norm_i64_to ((szN nd l + szN nd hh : Nat) : Int) (by omega) (by omega) ?_
    refine norm_i64_to ((szN nd l + szN nd hh + 6 : Nat) : Int) (by omega) (by omega) ?_
    have hEd := hE3.trans (Ext.drew w3)
    have hOd := hO3.ext (Ext.drew w3)
    generalize w3.drew = w4 at *
    have mn : ∀ (n : Nat) (t : Fm), cf nd ((i : Int) + 2) = t → min n 10000 = min (szF t) 10000 → min n 10000 = szN nd (i + 2) := fun n t e k => by
      unfold szN
      rw [show (((i + 2 : Nat) : Int)) = (i : Int) + 2 by omega, e, k]
    have eh : szN nd hh = min (szF (cf nd (hh : Int))) 10000 := rfl
    have el : szN nd l = min (szF (cf nd (l : Int))) 10000 := rfl
    have fin : ∀ {a b : Nat}, a = b → min a 10000 = min b 10000 := fun e => by rw [e]
    have lt : ∀ v, szF (litF v true) = 1 := fun _ => rfl
    have lf : ∀ v, szF (litF v false) = 2 := fun _ => rfl
    have sa : ∀ a b, szF (.and a b) = szF a + szF b + 1 := fun _ _ => rfl
    have so : ∀ a b, szF (.or a b) = szF a + szF b + 1 := fun _ _ => rfl
    refine cutIn [] gx_ok [7] (fun n : Nat => [.int .i64 n]) (fun n w' => w4 = w' ∧ n ≤ 30000 ∧ min n 10000 = szN nd (i + 2)) ?_ ?_
    · by_cases c0 : (hh : Int) < 2 ∧ (l : Int) < 2
      · rw [if_pos c0] at hcf
        by_cases c1 : hh = 1
        · subst c1
          have : l = 0 := by omega
          subst this
          refine wif_eqt rfl ?_
          refine wif_eqt rfl ?_
          exact ⟨1, rfl, rfl, by omega, mn _ _ hcf rfl⟩
        · have : hh = 0 := by omega
          subst this
          have : l = 1 := by omega
          subst this
          refine wif_eqf (show ¬ ((0 : Nat) : Int) = 1 by decide) ?_
          refine wif_eqt rfl ?_
          refine wif_eqt rfl ?_
          exact ⟨2, rfl, rfl, by omega, mn _ _ hcf rfl⟩
      rw [if_neg c0] at hcf
      rcases (show hh = 1 ∨ hh = 0 ∨ 2 ≤ hh by omega) with c1 | c1 | c1
      · have l2 : 2 ≤ l := by omega
        rw [if_neg (show ¬ (l : Int) = 0 by omega), if_neg (show ¬ (hh : Int) = 0 by omega), if_pos (show (hh : Int) = 1 by omega)] at hcf
        refine wif_eqt (show ((hh : Nat) : Int) = 1 by omega) ?_
        refine wif_eqf (show ¬ ((l : Nat) : Int) = 0 by omega) ?_
        refine wif_eqf (show ¬ ((hh : Nat) : Int) = 0 by omega) ?_
        refine wif_eqf (show ¬ ((l : Nat) : Int) = 0 by omega) ?_
        refine wif_eqf (show ¬ ((hh : Nat) : Int) = 0 by omega) ?_
        refine wif_eqt (show ((hh : Nat) : Int) = 1 by omega) ?_
        refine index_sl hOd.sl (by omega) (fun ad u hA hu hcell => ?_)
        rw [natsV_get gl] at hu
        cases hu
        refine load hcell ?_
        refine norm_i64_to ((2 + szN nd l : Nat) : Int) (by omega) (by omega) ?_
        exact ⟨2 + szN nd l, rfl, rfl, by omega, mn _ _ hcf (by rw [so, lt, el, mn1]; exact fin (by omega))⟩
      · have l2 : 2 ≤ l := by omega
        rw [if_neg (show ¬ (l : Int) = 0 by omega), if_pos (show (hh : Int) = 0 by omega)] at hcf
        refine wif_eqf (show ¬ ((hh : Nat) : Int) = 1 by omega) ?_
        refine wif_eqt (show ((hh : Nat) : Int) = 0 by omega) ?_
        refine wif_eqf (show ¬ ((l : Nat) : Int) = 1 by omega) ?_
        refine wif_eqf (show ¬ ((l : Nat) : Int) = 0 by omega) ?_
        refine wif_eqt (show ((hh : Nat) : Int) = 0 by omega) ?_
        refine index_sl hOd.sl (by omega) (fun ad u hA hu hcell => ?_)
        rw [natsV_get gl] at hu
        cases hu
        refine load hcell ?_
        refine norm_i64_to ((3 + szN nd l : Nat) : Int) (by omega) (by omega) ?_
        exact ⟨3 + szN nd l, rfl, rfl, by omega, mn _ _ hcf (by rw [sa, lf, el, mn1]; exact fin (by omega))⟩
      · refine wif_eqf (show ¬ ((hh : Nat) : Int) = 1 by omega) ?_
        refine wif_eqf (show ¬ ((hh : Nat) : Int) = 0 by omega) ?_
        by_cases c2 : l = 0
        · rw [if_pos (show (l : Int) = 0 by omega)] at hcf
          refine wif_eqt (show ((l : Nat) : Int) = 0 by omega) ?_
          refine index_sl hOd.sl (by omega) (fun ad u hA hu hcell => ?_)
          rw [natsV_get gh] at hu
          cases hu
          refine load hcell ?_
          refine norm_i64_to ((2 + szN nd hh : Nat) : Int) (by omega) (by omega) ?_
          exact ⟨2 + szN nd hh, rfl, rfl, by omega, mn _ _ hcf (by rw [sa, lt, eh, mn1]; exact fin (by omega))⟩
        rw [if_neg (show ¬ (l : Int) = 0 by omega), if_neg (show ¬ (hh : Int) = 0 by omega), if_neg (show ¬ (hh : Int) = 1 by omega)] at hcf
        refine wif_eqf (show ¬ ((l : Nat) : Int) = 0 by omega) ?_
        refine wif_eqf (show ¬ ((hh : Nat) : Int) = 0 by omega) ?_
        refine wif_eqf (show ¬ ((hh : Nat) : Int) = 1 by omega) ?_
        by_cases c3 : l = 1
        · rw [if_pos (show (l : Int) = 1 by omega)] at hcf
          refine wif_eqt (show ((l : Nat) : Int) = 1 by omega) ?_
          refine index_sl hOd.sl (by omega) (fun ad u hA hu hcell => ?_)
          rw [natsV_get gh] at hu
          cases hu
          refine load hcell ?_
          refine norm_i64_to ((3 + szN nd hh : Nat) : Int) (by omega) (by omega) ?_
          exact ⟨3 + szN nd hh, rfl, rfl, by omega, mn _ _ hcf (by rw [so, lf, eh, mn1]; exact fin (by omega))⟩
        rw [if_neg (show ¬ (l : Int) = 1 by omega)] at hcf
        refine wif_eqf (show ¬ ((l : Nat) : Int) = 1 by omega) ?_
        exact ⟨szN nd l + szN nd hh + 6, rfl, rfl, by omega, mn _ _ hcf (by rw [so, sa, sa, lt, lf, el, eh, mn2]; exact fin (by omega))⟩
    · rintro n _ ⟨rfl, hn3, hmin⟩
      refine norm (m := ((szN nd (i + 2) : Nat) : Int)) (by rw [← hmin]; exact if_min n 10000) ?_
      refine at_build1 gx_ok rfl rfl rfl rfl rfl rfl rfl rfl (fun w5 hE5 hz5 hB5 => ?_)
      have hs5 : Sl w5 1 (some ⟨w4.heap.size, 0, none⟩) 1 1 [.int .i64 (szN nd (i + 2) : Nat)] := Sl.own' (n := 1) hB5 rfl (by decide)
      refine at_app (sz := 1) (n := i + 2) gx_ok rfl rfl rfl rfl rfl (by decide) rfl rfl ⟨_, rfl⟩ rfl rfl (hOd.ext hE5) hs5 (by intro u hu; simp at hu; rcases hu with rfl; rfl) (by unfold maxLen; omega) (by show _ * 8 ≤ _; omega) (by have := hEd.size; have := hE5.size; omega) ?_
      intro A' c' w6 hm6 hO6 hmv6
      refine norm_i64_to ((i + 1 : Nat) : Int) (by show ((i : Nat) : Int) + 1 = _; omega) (by omega) ?_
      have hE6 : Ext w1 w6 := hm6.ext (hEd.trans hE5) (fun k hk => (hOd.rows k hk).1)
      refine ⟨(i + 1, A', c'), rfl, ⟨hE6, ?_, by show i + 1 ≤ nn; omega⟩, by show nn - (i + 1) < nn - i; omega⟩
      show Own w6 _ _ 1 A' (i + 1 + 2) c' (natsV (szL nd (i + 1 + 2)))
      rw [show i + 1 + 2 = i + 2 + 1 by omega, szL_snoc, natsV_snoc]
      exact hO6
  · have : i = nn := by omega
    subst this
    exact ⟨A, c, rfl, hE03, hO3.sl⟩
end Go.Proofs.YtdbhjlpkopnebaaGreatDoor
