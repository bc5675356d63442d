/-
  The law Flat: the walk.
  Conditions: none.
-/
import Derived.Test.YtbkadgdhmfolaaaLh3
namespace Go.Proofs.Ytbkadgdhmfolaaa
open Go Go.RowKit

theorem flat_law (L : Option Addr) (n cl x : Nat) (bs : List Nat) (w : World) (hL : Sl w 1 L n cl (u8V bs)) (hb : ∀ b ∈ bs, b ≤ 255) (hx : x ≤ 255) :
    Fn Try.prog 6 [.slice L n cl, .int .u8 x] w (fun v w' => v = .bool true ∧ Ext w w') := by
  refine fn_of_exec (c := c6) gx_ok Try.func6 rfl rfl rfl ?_
  refine call (sanity_fn w) ?_
  rintro v w1 ⟨rfl, hE1⟩
  refine call (made_dr 60 (hL.ext hE1) hb (by decide) (by decide)) ?_
  rintro v w2 ⟨t, ho, A, c, d, rfl, hE2, hd⟩
  have hno := okT_noT t ho
  have hv := hd.rep.valid
  have hdl := hd.len
  refine call (groups_fn A d.length c d w2 hd.sd) ?_
  rintro v w3 ⟨B, M, cB, rfl, hE3, hs3⟩
  have hM : M = ng t := by
    have h1 := hs3.len
    rw [natsV_length, grp_ok hv, G_ng hv.ok, hd.rep.tree] at h1
    omega
  have hMd : M ≤ d.length := by
    have h1 := hs3.len
    rw [natsV_length, grp_ok hv] at h1
    have h2 := G_len hv (d.length - 1)
    have h3 := hv.2.1
    omega
  rw [chk_ok hv]
  refine wif_nef rfl ?_
  have hE03 := (hE1.trans hE2).trans hE3
  refine at_build0 gx_ok rfl rfl rfl rfl rfl rfl ?_
  intro w4 hE4 hz4 hB4
  have hown4 : Own w4 w3.heap.size 4 1 (some ⟨w3.heap.size, 0, none⟩) 0 0 [] := Own.empty hB4 (Nat.le_refl _)
  refine loop gx_ok [9, 10] (fun s : Option Addr × Nat × Nat => [.slice s.1 s.2.2 s.2.1, .int .i64 s.2.2]) (fun s w' => Ext w3 w' ∧ Own w' w3.heap.size 4 1 s.1 s.2.2 s.2.1 (boolsV (List.replicate s.2.2 true)) ∧ s.2.2 ≤ M) (fun s _ => M - s.2.2) (_, 0, 0) rfl ⟨hE4, hown4, Nat.zero_le _⟩ ?_
  rintro ⟨C, cp, s⟩ w5 ⟨hE5, hown5, hsM⟩
  dsimp only at hown5 hsM ⊢
  have hnew : ∀ k, rowS C k → w3.heap.size ≤ k := fun k hk => (hown5.rows k hk).1
  refine wif_d (fun h1 => ?_) (fun h1 => ?_)
  · refine at_build1 gx_ok rfl rfl rfl rfl rfl rfl rfl rfl ?_
    intro w6 hE6 hz6 hB6
    refine at_app gx_ok rfl rfl rfl rfl rfl (by decide) rfl rfl ⟨_, rfl⟩ rfl rfl (hown5.ext hE6) (Sl.own' hB6 rfl (by simp [maxLen])) (by simp [scalar]) (by unfold maxLen; omega) (by show _ * 1 ≤ _; omega) (by have := hE5.size; have := hE6.size; omega) ?_
    intro A' c' w7 hm7 hown7 _
    have hstep : boolsV (List.replicate s true) ++ [Value.bool true] = boolsV (List.replicate (s + 1) true) := by simp [boolsV, List.replicate_succ']
    rw [hstep] at hown7
    refine norm_i64_to ((s + 1 : Nat) : Int) (by omega) (by omega) ?_
    exact ⟨(A', c', s + 1), rfl, ⟨hm7.ext (hE5.trans hE6) (fun k hk => hnew k hk), hown7, (by omega : s + 1 ≤ M)⟩, by show M - (s + 1) < M - s; omega⟩
  have hsM2 : s = ng t := by omega
  subst hsM2
  have hd5 := hd.ext (hE3.trans hE5)
  refine call (render_dr (List.replicate (ng t) true) hd5 hown5.sl) ?_
  rintro v w6 ⟨rfl, hE6⟩
  have hlim := rndT_lim hd.rep (List.replicate (ng t) true)
  have hE06 := hE03.trans (hE5.trans hE6)
  have hd6 := hd5.ext hE6
  refine wif_ne (fun h2 => ?_) (fun h2 => ?_)
  · exact ⟨rfl, hE06⟩
  refine norm_i64_to ((x : Nat) : Int) rfl (by omega) ?_
  rw [strOf_size]
  refine wif_d (fun h3 => ?_) (fun h3 => ?_)
  · exact ⟨rfl, hE06⟩
  refine call (cost_dr (rndT t (List.replicate (ng t) true)).1 1000 w6 hlim.1 hlim.2 (by decide)) ?_
  rintro v w7 ⟨rfl, hE7⟩
  have hE07 := hE06.trans hE7
  refine wif_d (fun h4 => ?_) (fun h4 => ?_)
  · exact ⟨rfl, hE07⟩
  have hlc : (costL 1000 (rndT t (List.replicate (ng t) true)).1 0).2 = 0 := by
    have : (costT 1000 (rndT t (List.replicate (ng t) true)).1).2 = 0 := by omega
    exact this
  obtain ⟨hleast, hrun⟩ := flat_least (W := x) hno (by omega) h2 (by omega) hlc
  have hd7 := hd6.ext hE7
  refine norm_i64_to ((x : Nat) : Int) rfl (by omega) ?_
  refine call (best_dr x hd7 (by omega)) ?_
  rintro v w8 ⟨hE8, l, hl, rfl⟩
  cases hleast.uniq hl
  rw [hrun]
  refine new (fun w9 hE9 hz9 hB9 => ?_)
  refine storeN_blk0 hB9 rfl (sc rfl) (fun w10 hg10 _ hB10 => ?_)
  have hE710 := hE8.trans (newBox hE9 hB9 hg10)
  refine norm_i64_to ((x : Nat) : Int) rfl (by omega) ?_
  refine call (choices_dr x (hd7.ext hE710) (by omega)) ?_
  rintro v w11 ⟨hE11, B2, c2, l2, rfl, hS11, hl2⟩
  cases hleast.uniq hl2
  have hr := rndT_nrm hleast.1
  refine wif_t rfl ?_
  refine wif_t rfl ?_
  refine wif_t (by rw [hr]; simp) ?_
  refine loadN_blk0 (hB10.ext hE11) rfl ?_
  refine wif_t rfl ?_
  refine call (sameb_fn B2 C _ c2 _ cp _ _ w11 hS11 (hown5.sl.ext ((hE6.trans hE7).trans (hE710.trans hE11)))) ?_
  rintro v w12 ⟨rfl, hE12⟩
  refine wif_t (by simp) ?_
  exact ⟨rfl, hE07.trans ((hE710.trans hE11).trans hE12)⟩
end Go.Proofs.Ytbkadgdhmfolaaa
