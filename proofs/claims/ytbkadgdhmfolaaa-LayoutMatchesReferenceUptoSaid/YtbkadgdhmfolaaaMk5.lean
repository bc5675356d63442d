/-
  Made.
  Conditions: none.
-/
import Derived.Test.YtbkadgdhmfolaaaMk4
namespace Go.Proofs.Ytbkadgdhmfolaaa
open Go Go.RowKit

def MadeRes (w : World) (most : Nat) (v : Value) (w' : World) : Prop := ∃ d t, Rep d t ∧ okT t ∧ d.length ≤ most ∧ DocRow w d v w'

theorem Stk.set {w0 w w3 w4 : World} {B : Option Addr} {c : Nat} {l : List SE} {size j : Nat} {y z : SE} (h : Stk w0 w B c l size) (hy : l[j]? = some y) (hE : Ext w w3) (hm : Mod (rowS B) w3 w4) (hz : SEok w0 w3 B z) (hown : Own w4 w0.heap.size 23 1 B l.length c ((l.map SE.v).set j z.v)) (hl : z.d.length = y.d.length + 1) : Stk w0 w4 B c (l.set j z) (size + 1) := by
  refine ⟨hm.ext (h.ext.trans hE) (fun k hk => (h.own.rows k hk).1), ?_, ?_, ?_⟩
  · rw [List.length_set, List.map_set]; exact hown
  · intro x hx
    rcases List.mem_or_eq_of_mem_set hx with hx | rfl
    · exact ((h.all x hx).ext hE).mod hm (Moved.refl _ _)
    · exact hz.mod hm (Moved.refl _ _)
  · have := wgt_set (y := z) hy
    have := h.wt
    omega

set_option maxRecDepth 4000 in
theorem made_fn (L : Option Addr) (n cl : Nat) (bs : List Nat) (most : Nat) (w : World) (hL : Sl w 1 L n cl (u8V bs)) (hb : ∀ b ∈ bs, b ≤ 255) (hm1 : 1 ≤ most) (hm : most ≤ 1000) :
    Fn Try.prog 20 [.slice L n cl, .int .i64 most] w (MadeRes w most) := by
  have hbl : bs.length = n := by have := hL.len; simp [u8V] at this; omega
  have hcap := hL.cap
  have hcle := hL.le
  unfold maxLen at hcap
  refine fn_of_exec (c := { c20 with cuts := [3, 9, 12] }) gx_ok Try.func20 rfl rfl rfl ?_
  refine at_build0 gx_ok rfl rfl rfl rfl rfl rfl ?_
  intro w1 hE1 hsz1 hB1
  have hst1 : Stk w w1 (some ⟨w.heap.size, 0, none⟩) 0 [] 0 := ⟨hE1, Own.empty hB1 (Nat.le_refl _), by simp, by simp [wgt]⟩
  refine cutIn [9, 12] gx_ok [5] (fun s : Option Addr × Nat × List SE => [.slice s.1 s.2.2.length s.2.1]) (fun s w' => ∃ size, Stk w w' s.1 s.2.1 s.2.2 size ∧ size ≤ most) ?_ ?_
  · refine loop gx_ok [5, 6, 7] (fun s : Option Addr × Nat × List SE × Nat × Nat => [.slice s.1 s.2.2.1.length s.2.1, .int .i64 s.2.2.2.1, .int .i64 s.2.2.2.2]) (fun s w' => Stk w w' s.1 s.2.1 s.2.2.1 s.2.2.2.1 ∧ s.2.2.2.1 ≤ most ∧ s.2.2.2.2 ≤ n) (fun s _ => n - s.2.2.2.2) (_, 0, [], 0, 0) rfl ⟨hst1, Nat.zero_le _, Nat.zero_le _⟩ ?_
    rintro ⟨B, c, l, size, i⟩ w2 ⟨hst, hsz, hin⟩
    dsimp only at hst hsz hin ⊢
    have hwl := wgt_len l
    have hwt := hst.wt
    have hz0 := hst.ext.size
    have hrowB : ∀ k, rowS B k → k < w2.heap.size := fun k hk => (hst.own.rows k hk).2
    have hrowB0 : ∀ k, rowS B k → w.heap.size ≤ k := fun k hk => (hst.own.rows k hk).1
    refine wif_d (fun h1 => ?_) (fun h1 => ?_)
    rotate_left
    · exact ⟨(B, c, l), rfl, size, hst, hsz⟩
    refine norm_i64_to ((size + 2 : Nat) : Int) (by omega) (by omega) ?_
    refine wif_d (fun h2 => ?_) (fun h2 => ?_)
    rotate_left
    · exact ⟨(B, c, l), rfl, size, hst, hsz⟩
    have hbi : bs[i]? = some bs[i] := List.getElem?_eq_getElem (by omega)
    generalize bs[i] = b at hbi
    have hb255 := hb b (List.mem_of_getElem? hbi)
    refine index_sl (hL.ext hst.ext) (by omega) (fun ad u hA hu hcell => ?_)
    rw [u8V_get hbi] at hu
    cases hu
    refine load hcell ?_
    refine norm_i64_to ((b : Nat) : Int) rfl (by omega) ?_
    refine rem_c 10 rfl (by decide) ?_
    have hkd : b % 10 < 10 := Nat.mod_lt _ (by decide)
    refine cutIn [] gx_ok [5, 6] (fun _ : Unit => [.slice B l.length c, .int .i64 size]) (fun _ w' => w2 = w' ∧ 4 ≤ b % 10 ∧ l.length ≠ 0 ∧ (l.length = 1 → b % 10 < 8)) ?_ ?_
    · refine wif_d (fun g1 => ?_) (fun g1 => ?_)
      · refine call (leaf_fn b w2 hb255) ?_
        rintro v w3 ⟨kk, s, hleaf, A, cA, rfl, hE3, hO3⟩
        refine at_build1 gx_ok rfl rfl rfl rfl rfl rfl rfl rfl ?_
        intro w4 hE4 hsz4 hB4
        have hz3 := hE3.size
        have hE24 := hE3.trans hE4
        refine at_app gx_ok rfl rfl rfl rfl rfl (by decide) rfl rfl ⟨_, rfl⟩ rfl rfl (hst.own.ext hE24) (Sl.own' hB4 rfl (by simp [maxLen])) (by simp [scalar]) (by unfold maxLen; omega) (by show _ * 24 ≤ _; omega) (by have := hE24.size; omega) ?_
        intro B' c' w5 hm5 hown5 hmv5
        refine norm_i64_to ((size + 2 : Nat) : Int) (by omega) (by omega) ?_
        refine norm_i64_to ((i + 1 : Nat) : Int) (by omega) (by omega) ?_
        have hnew : SEok w w4 B ⟨A, cA, leafD kk s, leafT kk s⟩ := SEok.ext (SEok.new (leaf_rep hleaf) (leaf_ok hleaf) hO3 (by omega) (fun k hk => hrowB k hk)) hE4
        refine ⟨(B', c', l ++ [⟨A, cA, leafD kk s, leafT kk s⟩], size + 2, i + 1), by simp; rfl, ⟨⟨hm5.ext (hst.ext.trans hE24) (fun k hk => hrowB0 k hk), ?_, ?_, ?_⟩, (by omega : size + 2 ≤ most), (by omega : i + 1 ≤ n)⟩, by show n - (i + 1) < n - i; omega⟩
        · rw [List.length_append, List.map_append]; exact hown5
        · intro x hx
          simp only [List.mem_append, List.mem_singleton] at hx
          rcases hx with hx | rfl
          · exact ((hst.all x hx).ext hE24).mod hm5 hmv5
          · exact hnew.mod hm5 hmv5
        · rw [wgt_app]
          simp [wgt, leafD] at *
          omega
      refine wif_eq (fun g2 => ?_) (fun g2 => ?_)
      · refine call (leaf_fn b w2 hb255) ?_
        rintro v w3 ⟨kk, s, hleaf, A, cA, rfl, hE3, hO3⟩
        refine at_build1 gx_ok rfl rfl rfl rfl rfl rfl rfl rfl ?_
        intro w4 hE4 hsz4 hB4
        have hz3 := hE3.size
        have hE24 := hE3.trans hE4
        refine at_app gx_ok rfl rfl rfl rfl rfl (by decide) rfl rfl ⟨_, rfl⟩ rfl rfl (hst.own.ext hE24) (Sl.own' hB4 rfl (by simp [maxLen])) (by simp [scalar]) (by unfold maxLen; omega) (by show _ * 24 ≤ _; omega) (by have := hE24.size; omega) ?_
        intro B' c' w5 hm5 hown5 hmv5
        refine norm_i64_to ((size + 2 : Nat) : Int) (by omega) (by omega) ?_
        refine norm_i64_to ((i + 1 : Nat) : Int) (by omega) (by omega) ?_
        have hnew : SEok w w4 B ⟨A, cA, leafD kk s, leafT kk s⟩ := SEok.ext (SEok.new (leaf_rep hleaf) (leaf_ok hleaf) hO3 (by omega) (fun k hk => hrowB k hk)) hE4
        refine ⟨(B', c', l ++ [⟨A, cA, leafD kk s, leafT kk s⟩], size + 2, i + 1), by simp; rfl, ⟨⟨hm5.ext (hst.ext.trans hE24) (fun k hk => hrowB0 k hk), ?_, ?_, ?_⟩, (by omega : size + 2 ≤ most), (by omega : i + 1 ≤ n)⟩, by show n - (i + 1) < n - i; omega⟩
        · rw [List.length_append, List.map_append]; exact hown5
        · intro x hx
          simp only [List.mem_append, List.mem_singleton] at hx
          rcases hx with hx | rfl
          · exact ((hst.all x hx).ext hE24).mod hm5 hmv5
          · exact hnew.mod hm5 hmv5
        · rw [wgt_app]
          simp [wgt, leafD] at *
          omega
      refine wif_eq (fun g3 => ?_) (fun g3 => ?_)
      · refine wif_d (fun g4 => ?_) (fun g4 => ?_)
        · refine call (leaf_fn b w2 hb255) ?_
          rintro v w3 ⟨kk, s, hleaf, A, cA, rfl, hE3, hO3⟩
          refine at_build1 gx_ok rfl rfl rfl rfl rfl rfl rfl rfl ?_
          intro w4 hE4 hsz4 hB4
          have hz3 := hE3.size
          have hE24 := hE3.trans hE4
          refine at_app gx_ok rfl rfl rfl rfl rfl (by decide) rfl rfl ⟨_, rfl⟩ rfl rfl (hst.own.ext hE24) (Sl.own' hB4 rfl (by simp [maxLen])) (by simp [scalar]) (by unfold maxLen; omega) (by show _ * 24 ≤ _; omega) (by have := hE24.size; omega) ?_
          intro B' c' w5 hm5 hown5 hmv5
          refine norm_i64_to ((size + 2 : Nat) : Int) (by omega) (by omega) ?_
          refine norm_i64_to ((i + 1 : Nat) : Int) (by omega) (by omega) ?_
          have hnew : SEok w w4 B ⟨A, cA, leafD kk s, leafT kk s⟩ := SEok.ext (SEok.new (leaf_rep hleaf) (leaf_ok hleaf) hO3 (by omega) (fun k hk => hrowB k hk)) hE4
          refine ⟨(B', c', l ++ [⟨A, cA, leafD kk s, leafT kk s⟩], size + 2, i + 1), by simp; rfl, ⟨⟨hm5.ext (hst.ext.trans hE24) (fun k hk => hrowB0 k hk), ?_, ?_, ?_⟩, (by omega : size + 2 ≤ most), (by omega : i + 1 ≤ n)⟩, by show n - (i + 1) < n - i; omega⟩
          · rw [List.length_append, List.map_append]; exact hown5
          · intro x hx
            simp only [List.mem_append, List.mem_singleton] at hx
            rcases hx with hx | rfl
            · exact ((hst.all x hx).ext hE24).mod hm5 hmv5
            · exact hnew.mod hm5 hmv5
          · rw [wgt_app]
            simp [wgt, leafD] at *
            omega
        · exact ⟨(), rfl, rfl, by omega, by omega, fun _ => by omega⟩
      · exact ⟨(), rfl, rfl, by omega, by omega, fun h => by omega⟩
    rintro ⟨⟩ _ ⟨rfl, hk4, hl0, hl1⟩
    refine cutIn [] gx_ok [5] (fun _ : Unit => [.slice B l.length c]) (fun _ w' => w2 = w' ∧ b % 10 < 8) ?_ ?_
    · refine wif_d (fun g1 => ?_) (fun g1 => ?_)
      rotate_left
      · exact ⟨(), rfl, rfl, by omega⟩
      have hn2 : 2 ≤ l.length := by omega
      obtain ⟨ad, rfl, hcells⟩ := hst.own.sl.at_ (by omega)
      have hxl : l[l.length - 2]? = some l[l.length - 2] := List.getElem?_eq_getElem (by omega)
      have hyl : l[l.length - 1]? = some l[l.length - 1] := List.getElem?_eq_getElem (by omega)
      have hl2 : l = l.take (l.length - 2) ++ [l[l.length - 2], l[l.length - 1]] := by
        conv => lhs; rw [← List.take_append_drop (l.length - 2) l]
        congr 1
        rw [List.drop_eq_getElem_cons (by omega), List.drop_eq_getElem_cons (by omega), List.drop_of_length_le (by omega)]
        congr 2
        congr 1
        omega
      generalize l[l.length - 2] = x at hxl hl2
      generalize l[l.length - 1] = y at hyl hl2
      have hxm := List.mem_of_getElem? hxl
      have hym := List.mem_of_getElem? hyl
      have hwl2 : wgt l = wgt (l.take (l.length - 2)) + (x.d.length + 1 + (y.d.length + 1)) := by
        conv => lhs; rw [hl2]
        rw [wgt_app]; simp [wgt]
      have hcell2 : ∀ w', Ext w2 w' → w'.cell? (ad.add (l.length - 2)) = some x.v := fun w' hw' => hw'.cell (hcells _ _ (by rw [List.getElem?_map, hxl]; rfl))
      have hcell1 : ∀ w', Ext w2 w' → w'.cell? (ad.add (l.length - 1)) = some y.v := fun w' hw' => hw'.cell (hcells _ _ (by rw [List.getElem?_map, hyl]; rfl))
      have hcc := hst.own.sl.le
      refine draw_plan gx_ok (Ext w2) 16 [(true, 0), (true, 1), (true, 2), (true, 3), (true, 4), (true, 5), (true, 6), (true, 7), (true, 8), (true, 9), (true, 10), (true, 11), (true, 12), (true, 13), (false, 14), (false, 15)] (by kernel_rfl) (Ext.drew w2) ?_
      refine norm_i64_to ((l.length - 2 : Nat) : Int) (by omega) (by omega) ?_
      refine top_slice_h (h := l.length - 2) gx_ok rfl rfl rfl rfl rfl rfl (by omega) ?_
      refine norm_i64_to ((l.length - 2 : Nat) : Int) (by omega) (by omega) ?_
      refine index_i (j := l.length - 2) rfl (by omega) ?_
      refine qload hcell2 ?_
      refine norm_i64_to ((l.length - 1 : Nat) : Int) (by omega) (by omega) ?_
      refine index_i (j := l.length - 1) rfl (by omega) ?_
      refine qload hcell1 ?_
      have hE2 := Ext.drew w2
      refine call (seq_fn x.A y.A x.d.length y.d.length x.c y.c x.d y.d w2.drew ((hst.all x hxm).ext hE2).sd ((hst.all y hym).ext hE2).sd (hst.all y hym).rep.valid.ok (by omega)) ?_
      rintro v w3 ⟨A, cA, rfl, hE3, hO3⟩
      refine ⟨hE2.trans hE3, ?_⟩
      refine at_build1 gx_ok rfl rfl rfl rfl rfl rfl rfl rfl ?_
      intro w4 hE4 hsz4 hB4
      refine ⟨(hE2.trans hE3).trans hE4, ?_⟩
      have hz2 := hE2.size
      have hz3 := hE3.size
      have hE23 := hE2.trans hE3
      have hE24 := hE23.trans hE4
      refine at_app gx_ok rfl rfl rfl rfl rfl (by decide) rfl rfl ⟨_, rfl⟩ rfl rfl ((hst.own.take (m := l.length - 2) (by omega)).ext hE24) (Sl.own' hB4 rfl (by simp [maxLen])) (by simp [scalar]) (by unfold maxLen; omega) (by show _ * 24 ≤ _; omega) (by have := hE24.size; omega) ?_
      intro B' c' w5 hm5 hown5 hmv5
      refine norm_i64_to ((i + 1 : Nat) : Int) (by omega) (by omega) ?_
      have hnew : SEok w w4 (some ad) ⟨A, cA, seqD x.d y.d, .seq x.t y.t⟩ := SEok.ext (SEok.new (Rep.seq (hst.all x hxm).rep (hst.all y hym).rep (by omega)) (show okT (.seq x.t y.t) from ⟨(hst.all x hxm).ok, (hst.all y hym).ok⟩) hO3 (by omega) (fun k hk => by have := hrowB k hk; omega)) hE4
      have hlen' : (l.take (l.length - 2) ++ [(⟨A, cA, seqD x.d y.d, .seq x.t y.t⟩ : SE)]).length = l.length - 2 + 1 := by simp
      refine ⟨(B', c', l.take (l.length - 2) ++ [⟨A, cA, seqD x.d y.d, .seq x.t y.t⟩], size, i + 1), ?_, ⟨⟨hm5.ext (hst.ext.trans hE24) (fun k hk => hrowB0 k hk), ?_, ?_, ?_⟩, hsz, (by omega : i + 1 ≤ n)⟩, by show n - (i + 1) < n - i; omega⟩
      · dsimp only; rw [hlen']; rfl
      · rw [hlen', List.map_append, List.map_take]; exact hown5
      · intro z hz
        simp only [List.mem_append, List.mem_singleton] at hz
        rcases hz with hz | rfl
        · exact ((hst.all z (List.mem_of_mem_take hz)).ext hE24).mod hm5 hmv5
        · exact hnew.mod hm5 hmv5
      · rw [wgt_app]
        simp [wgt, seq_len] at *
        omega
    rintro ⟨⟩ _ ⟨rfl, hk8⟩
    obtain ⟨ad, rfl, hcells⟩ := hst.own.sl.at_ (by omega)
    have hyl : l[l.length - 1]? = some l[l.length - 1] := List.getElem?_eq_getElem (by omega)
    generalize l[l.length - 1] = y at hyl
    have hym := List.mem_of_getElem? hyl
    have hyw := wgt_get hym
    have hcell1 : ∀ w', Ext w2 w' → w'.cell? (ad.add (l.length - 1)) = some y.v := fun w' hw' => hw'.cell (hcells _ _ (by rw [List.getElem?_map, hyl]; rfl))
    refine norm_i64_to ((size + 1 : Nat) : Int) (by omega) (by omega) ?_
    refine wif_eq (fun g1 => ?_) (fun g1 => ?_)
    · refine norm_i64_to ((l.length - 1 : Nat) : Int) (by omega) (by omega) ?_
      refine quo_c 10 rfl (by decide) (by omega) ?_
      refine rem_c 5 rfl (by decide) ?_
      have h5 : b / 10 % 5 < 5 := Nat.mod_lt _ (by decide)
      generalize b / 10 % 5 = q at h5
      refine norm_i64_to ((l.length - 1 : Nat) : Int) (by omega) (by omega) ?_
      refine index_i (j := l.length - 1) (by omega) (by omega) ?_
      refine load (hcell1 _ (Ext.refl w2)) ?_
      refine call (wrap_fn y.A y.d.length y.c 4 (q : Int) y.d w2 (hst.all y hym).sd (by omega)) ?_
      rintro v w3 ⟨A, cA, rfl, hE3, hO3⟩
      refine index_i (j := l.length - 1) (by omega) (by omega) ?_
      refine store_own (j := l.length - 1) (hst.own.ext hE3) (by omega) (fun w4 hg4 hown4 => ?_)
      have hm4 : Mod (rowS (some ad)) w3 w4 := Mod.of_row hg4
      have hnew : SEok w w3 (some ad) ⟨A, cA, wrapD 4 (q : Int) y.d, .nest q y.t⟩ := SEok.new (Rep.wrap (hst.all y hym).rep (by decide) (⟨.inr rfl, by omega, by omega⟩) (by omega) (by simp) (by simp [hasHard]) (by simp [hasAlign])) (hst.all y hym).ok hO3 hz0 hrowB
      refine norm_i64_to ((i + 1 : Nat) : Int) (by omega) (by omega) ?_
      refine ⟨(some ad, c, l.set (l.length - 1) ⟨A, cA, wrapD 4 (q : Int) y.d, .nest q y.t⟩, size + 1, i + 1), by simp; rfl, ⟨Stk.set hst hyl hE3 hm4 hnew hown4 (by simp [wrapD]), (by omega : size + 1 ≤ most), (by omega : i + 1 ≤ n)⟩, by show n - (i + 1) < n - i; omega⟩
    refine wif_eq (fun g2 => ?_) (fun g2 => ?_)
    · refine norm_i64_to ((l.length - 1 : Nat) : Int) (by omega) (by omega) ?_
      refine norm_i64_to ((l.length - 1 : Nat) : Int) (by omega) (by omega) ?_
      refine index_i (j := l.length - 1) (by omega) (by omega) ?_
      refine load (hcell1 _ (Ext.refl w2)) ?_
      refine call (wrap_fn y.A y.d.length y.c 5 0 y.d w2 (hst.all y hym).sd (by omega)) ?_
      rintro v w3 ⟨A, cA, rfl, hE3, hO3⟩
      refine index_i (j := l.length - 1) (by omega) (by omega) ?_
      refine store_own (j := l.length - 1) (hst.own.ext hE3) (by omega) (fun w4 hg4 hown4 => ?_)
      have hm4 : Mod (rowS (some ad)) w3 w4 := Mod.of_row hg4
      have hnew : SEok w w3 (some ad) ⟨A, cA, wrapD 5 0 y.d, .align y.t⟩ := SEok.new (Rep.wrap (hst.all y hym).rep (by decide) (⟨.inl rfl, by omega, by omega⟩) (by omega) (by simp) (by simp [hasHard]) (by simp [hasAlign])) (hst.all y hym).ok hO3 hz0 hrowB
      refine norm_i64_to ((i + 1 : Nat) : Int) (by omega) (by omega) ?_
      refine ⟨(some ad, c, l.set (l.length - 1) ⟨A, cA, wrapD 5 0 y.d, .align y.t⟩, size + 1, i + 1), by simp; rfl, ⟨Stk.set hst hyl hE3 hm4 hnew hown4 (by simp [wrapD]), (by omega : size + 1 ≤ most), (by omega : i + 1 ≤ n)⟩, by show n - (i + 1) < n - i; omega⟩
    · refine norm_i64_to ((l.length - 1 : Nat) : Int) (by omega) (by omega) ?_
      refine norm_i64_to ((l.length - 1 : Nat) : Int) (by omega) (by omega) ?_
      refine index_i (j := l.length - 1) (by omega) (by omega) ?_
      refine load (hcell1 _ (Ext.refl w2)) ?_
      refine call (wrap_fn y.A y.d.length y.c 6 0 y.d w2 (hst.all y hym).sd (by omega)) ?_
      rintro v w3 ⟨A, cA, rfl, hE3, hO3⟩
      refine index_i (j := l.length - 1) (by omega) (by omega) ?_
      refine store_own (j := l.length - 1) (hst.own.ext hE3) (by omega) (fun w4 hg4 hown4 => ?_)
      have hm4 : Mod (rowS (some ad)) w3 w4 := Mod.of_row hg4
      have hnew : SEok w w3 (some ad) ⟨A, cA, wrapD 6 0 y.d, .group y.t⟩ := SEok.new (Rep.wrap (hst.all y hym).rep (by decide) (⟨.inl rfl, by omega, by omega⟩) (by omega) (by simp) (by simp [hasHard]) (by simp [hasAlign])) (hst.all y hym).ok hO3 hz0 hrowB
      refine norm_i64_to ((i + 1 : Nat) : Int) (by omega) (by omega) ?_
      refine ⟨(some ad, c, l.set (l.length - 1) ⟨A, cA, wrapD 6 0 y.d, .group y.t⟩, size + 1, i + 1), by simp; rfl, ⟨Stk.set hst hyl hE3 hm4 hnew hown4 (by simp [wrapD]), (by omega : size + 1 ≤ most), (by omega : i + 1 ≤ n)⟩, by show n - (i + 1) < n - i; omega⟩
  rintro ⟨B, c, l⟩ w2 ⟨size, hst, hsz⟩
  dsimp only at hst ⊢
  have hwl := wgt_len l
  have hwt := hst.wt
  have hz0 := hst.ext.size
  refine wif_eq (fun g1 => ?_) (fun g1 => ?_)
  · refine call (text_fn ⟨#[]⟩ w2) ?_
    rintro v w3 ⟨A, cA, rfl, hE3, hO3⟩
    have hlf : LeafOk 0 ⟨#[]⟩ := ⟨.inl rfl, by decide, by decide, .inl rfl, by decide⟩
    exact ⟨_, _, leaf_rep hlf, leaf_ok hlf, hm1, A, cA, rfl, hst.ext.trans hE3, hO3.up hz0⟩
  obtain ⟨ad, rfl, hcells⟩ := hst.own.sl.at_ (by omega)
  have hcell : ∀ (j : Nat) (y : SE), l[j]? = some y → ∀ w', Ext w2 w' → w'.cell? (ad.add j) = some y.v := fun j y hy w' hw' => hw'.cell (hcells _ _ (by rw [List.getElem?_map, hy]; rfl))
  have hnone : ∀ {w' : World} {B' : Option Addr} {x : SE}, SEok w w' B' x → SEok w w' none x := fun h => ⟨h.rep, h.ok, h.own, fun k _ hk => by obtain ⟨_, e, _⟩ := hk; cases e⟩
  have hx0 : l[0]? = some l[0] := List.getElem?_eq_getElem (by omega)
  generalize l[0] = x0 at hx0
  refine index_i (j := 0) rfl (by omega) ?_
  refine load (hcell 0 x0 hx0 _ (Ext.refl w2)) ?_
  have hdrop : ∀ (j : Nat) (y : SE), l[j]? = some y → wgt (l.drop j) = y.d.length + 1 + wgt (l.drop (j + 1)) := fun j y hy => by
    have hj := (List.getElem?_eq_some_iff.1 hy).1
    rw [List.drop_eq_getElem_cons hj, (List.getElem?_eq_some_iff.1 hy).2]
    simp [wgt]
  have hd0 := hdrop 0 x0 hx0
  rw [List.drop_zero, Nat.zero_add] at hd0
  refine loop gx_ok [11, 12] (fun s : SE × Nat => [s.1.v, .int .i64 s.2]) (fun s w' => Ext w2 w' ∧ SEok w w' none s.1 ∧ 1 ≤ s.2 ∧ s.2 ≤ l.length ∧ s.1.d.length + 1 + wgt (l.drop s.2) ≤ size) (fun s _ => l.length - s.2) (x0, 1) rfl ⟨Ext.refl w2, hnone (hst.all x0 (List.mem_of_getElem? hx0)), Nat.le_refl _, by dsimp only; omega, by dsimp only; omega⟩ ?_
  rintro ⟨x, i⟩ w3 ⟨hE3, hx, hi1, hil, hw⟩
  dsimp only at hx hi1 hil hw ⊢
  refine wif_d (fun h1 => ?_) (fun h1 => ?_)
  · have hyl : l[i]? = some l[i] := List.getElem?_eq_getElem (by omega)
    generalize l[i] = y at hyl
    have hym := List.mem_of_getElem? hyl
    have hdi := hdrop i y hyl
    have hy3 := hnone ((hst.all y hym).ext hE3)
    refine index_i (j := i) rfl (by omega) ?_
    refine load (hcell i y hyl _ hE3) ?_
    refine call (seq_fn x.A y.A x.d.length y.d.length x.c y.c x.d y.d w3 hx.sd hy3.sd hy3.rep.valid.ok (by omega)) ?_
    rintro v w4 ⟨A, cA, rfl, hE4, hO4⟩
    have hz3 := hE3.size
    have hnew : SEok w w4 none ⟨A, cA, seqD x.d y.d, .seq x.t y.t⟩ := SEok.new (Rep.seq hx.rep hy3.rep (by omega)) (show okT (.seq x.t y.t) from ⟨hx.ok, hy3.ok⟩) hO4 (by omega) (fun k hk => by obtain ⟨_, e, _⟩ := hk; cases e)
    refine norm_i64_to ((i + 1 : Nat) : Int) (by omega) (by omega) ?_
    refine ⟨(⟨A, cA, seqD x.d y.d, .seq x.t y.t⟩, i + 1), rfl, ⟨hE3.trans hE4, hnew, (by omega : 1 ≤ i + 1), (by omega : i + 1 ≤ l.length), ?_⟩, by show l.length - (i + 1) < l.length - i; omega⟩
    dsimp only
    rw [seq_len]; omega
  · exact ⟨x.d, x.t, hx.rep, hx.ok, by omega, x.A, x.c, rfl, hst.ext.trans hE3, hx.own⟩
end Go.Proofs.Ytbkadgdhmfolaaa
