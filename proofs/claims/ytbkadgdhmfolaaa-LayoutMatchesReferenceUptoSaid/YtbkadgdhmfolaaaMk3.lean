/-
  hard, Choice.
  Conditions: none.
-/
import Derived.Test.YtbkadgdhmfolaaaMk2
namespace Go.Proofs.Ytbkadgdhmfolaaa
open Go Go.RowKit

theorem hard_fn (A : Option Addr) (n c : Nat) (d : List Nd) (hv : Valid d) : ∀ (i : Nat) (w : World), i < n → n ≤ 65536 → SD w A n c d →
    Fn Try.prog 44 [.slice A n c, .int .i64 i] w (fun v w' => v = .bool (hasHard (T d i)) ∧ Ext w w') := by
  intro i
  induction i using Nat.strongRecOn with
  | _ i ih =>
    intro w hi hn h
    have hlen := h.2
    refine fn_of_exec (c := c44) gx_ok Try.func44 rfl rfl rfl ?_
    refine index_sls nd_len h rfl hi (fun p x hx hc => ?_)
    have hnx := hv.ok i x hx
    have har := arI_of (k := x.k)
    have hk := arI_kind hnx.1
    have hT := T_eq hv.ok hx
    refine loadN_at (vs := x.cells) rfl hc ?_
    refine new (fun w5 hE5 hsz5 hB5 => ?_)
    refine storeN_blk0 hB5 rfl (by simp [Nd.cells, scalar]) (fun w6 hg6 _ hB6 => ?_)
    have hE6 := newBox hE5 hB5 hg6
    refine load_blk hB6 rfl ?_
    refine call (operands_fn _ _) ?_
    rintro v w' ⟨rfl, rfl⟩
    refine load_blk hB6 rfl ?_
    have hd2 : ∀ (hk2 : x.k ≠ 2), hasHard (T d i) = ((decide (1 ≤ arI x.k) && hasHard (T d x.a.toNat)) || (decide (2 ≤ arI x.k) && hasHard (T d x.b.toNat))) := fun hk2 => by
      rw [hT]
      rcases hk with h | h | h | h | h | h | h
      · have := har.1 h; rw [this]; simp [h, hasHard]
      · have := har.2.1 h; rw [this]; simp [h, hasHard]
      · exact absurd h hk2
      · have := har.2.2.2.1 h; rw [this]; simp [h, hasHard]
      · have := har.2.2.2.2.1 h; rw [this]; simp [h, hasHard]
      · have := har.2.2.2.2.2.1 h; rw [this]; simp [h, hasHard]
      · have := har.2.2.2.2.2.2 h; rw [this]; simp [h, hasHard]
    refine wif_eq (fun h2 => ?_) (fun h2 => ?_)
    · exact ⟨by rw [hT]; simp [h2, hasHard], hE6⟩
    rw [hd2 h2]
    have second : ∀ (w7 : World), Ext w w7 → hasHard (T d x.a.toNat) = false ∨ ¬ 1 ≤ arI x.k → True := fun _ _ _ => trivial
    refine wif_d (fun h1 => ?_) (fun h1 => ?_)
    · have hal := hnx.a_lt h1
      have hai : x.a = ((x.a.toNat : Nat) : Int) := by omega
      refine load_blk hB6 rfl ?_
      have hfn := ih x.a.toNat hal.2 w6 (by omega) hn (h.ext hE6)
      rw [← hai] at hfn
      refine call hfn ?_
      rintro v w7 ⟨rfl, hE7⟩
      refine wif (fun hb => ?_) (fun hb => ?_)
      · exact ⟨by simp [h1, hb], hE6.trans hE7⟩
      refine wif_d (fun h3 => ?_) (fun h3 => ?_)
      · have hbl := hnx.b_lt h3
        have hbi : x.b = ((x.b.toNat : Nat) : Int) := by omega
        refine load_blk (hB6.ext hE7) rfl ?_
        have hfn := ih x.b.toNat hbl.2 w7 (by omega) hn (h.ext (hE6.trans hE7))
        rw [← hbi] at hfn
        refine call hfn ?_
        rintro v w8 ⟨rfl, hE8⟩
        exact ⟨by simp [h3, hb], (hE6.trans hE7).trans hE8⟩
      · exact ⟨by simp [show ¬ 2 ≤ arI x.k from h3, hb], hE6.trans hE7⟩
    · refine wif_d (fun h3 => ?_) (fun h3 => ?_)
      · exact absurd h3 (by omega)
      · exact ⟨by simp [show ¬ 2 ≤ arI x.k from h3, show ¬ 1 ≤ arI x.k from h1], hE6⟩

def BoolRow (w : World) (l : List Bool) (v : Value) (w' : World) : Prop := ∃ B cp, v = .slice B l.length cp ∧ Ext w w' ∧ Sl w' 1 B l.length cp (boolsV l)

theorem chooseL_eq (flags hs : List Bool) : ∀ (k : Nat), chooseL flags hs k = hs.zipIdx.map (fun p => flags[p.2 + k]?.getD false && !p.1) := by
  suffices H : ∀ (hs : List Bool) (k j : Nat), chooseL flags hs (j + k) = (hs.zipIdx j).map (fun p => flags[p.2 + k]?.getD false && !p.1) from fun k => by simpa using H hs k 0
  intro hs
  induction hs with
  | nil => intro k j; rfl
  | cons h l ih =>
    intro k j
    simp only [chooseL, List.zipIdx_cons, List.map_cons]
    rw [← ih k (j + 1)]
    congr 2
    omega
theorem chooseL_app (flags : List Bool) : ∀ (a b : List Bool) (k : Nat), chooseL flags (a ++ b) k = chooseL flags a k ++ chooseL flags b (k + a.length)
  | [], b, k => by simp [chooseL]
  | x :: a, b, k => by
    simp only [List.cons_append, chooseL, chooseL_app flags a b (k + 1), List.length_cons]
    rw [show k + 1 + a.length = k + (a.length + 1) by omega]

theorem choice_fn (A B : Option Addr) (n c m c2 : Nat) (d : List Nd) (t : Dt) (fl : List Bool) (w : World) (h : SD w A n c d) (hr : Rep d t) (hf : Sl w 1 B m c2 (boolsV fl)) :
    Fn Try.prog 22 [.slice A n c, .slice B m c2] w (BoolRow w (choose fl t)) := by
  have hlen := h.2
  have hv := hr.valid
  have hle := hv.1
  have hpos := hv.2.1
  have hfl : fl.length = m := by have := hf.len; rw [boolsV_length] at this; omega
  have hmm := hf.cap
  refine fn_of_exec (c := c22) gx_ok Try.func22 rfl rfl rfl ?_
  refine call (rgroups_fn A n c d w h (fun x hx => by have := hr.txt x hx; unfold maxLen; omega)) ?_
  rintro v w1 ⟨G1, g, gc, rfl, hE1, hG⟩
  have hgl : g = (grp d).length := by have := hG.len; simp [natsV] at this; omega
  have hgrp := grp_ok hv
  have hgn : (grp d).map (fun j => hasHard (T d j)) = hards t := by rw [hgrp, G_hards hv.ok, hr.tree]
  have hgt : ∀ j ∈ grp d, j < n := fun j hj => by
    rw [hgrp] at hj
    have := G_le hv (d.length - 1) j hj
    omega
  have hgle : g ≤ n := by
    rw [hgl, hgrp]
    have := G_len hv (d.length - 1)
    omega
  refine at_build0 gx_ok rfl rfl rfl rfl rfl rfl ?_
  intro w2 hE2 hsz2 hB2
  have hown2 : Own w2 w1.heap.size 4 1 (some ⟨w1.heap.size, 0, none⟩) 0 0 [] := Own.empty hB2 (Nat.le_refl _)
  refine loop gx_ok [7, 8] (fun s : Option Addr × Nat × Nat => [.slice s.1 s.2.2 s.2.1, .int .i64 s.2.2]) (fun s w' => Ext w w' ∧ Ext w1 w' ∧ Own w' w1.heap.size 4 1 s.1 s.2.2 s.2.1 (boolsV (chooseL fl ((hards t).take s.2.2) 0)) ∧ s.2.2 ≤ g) (fun s _ => g - s.2.2) (_, 0, 0) rfl ⟨hE1.trans hE2, hE2, hown2, Nat.zero_le _⟩ ?_
  rintro ⟨C, cp, s⟩ w3 ⟨hE3, hE13, hown3, hsg⟩
  dsimp only at hown3 hsg ⊢
  have hnew : ∀ k, rowS C k → w1.heap.size ≤ k := fun k hk => (hown3.rows k hk).1
  have hz1 := hE1.size
  refine wif_d (fun h1 => ?_) (fun h1 => ?_)
  · have hgs : (grp d)[s]? = some (grp d)[s] := List.getElem?_eq_getElem (by omega)
    generalize (grp d)[s] = j at hgs
    have hhs : (hards t)[s]? = some (hasHard (T d j)) := by rw [← hgn, List.getElem?_map, hgs]; rfl
    have hjn := hgt j (List.mem_of_getElem? hgs)
    have hhl : (hards t).length = g := by rw [← hgn, List.length_map, hgl]
    have hstep : ∀ b, b = (fl[s]?.getD false && !hasHard (T d j)) → boolsV (chooseL fl ((hards t).take s) 0) ++ [Value.bool b] = boolsV (chooseL fl ((hards t).take (s + 1)) 0) := fun b hb => by
      rw [List.take_add_one, hhs, chooseL_app, List.length_take, Nat.min_eq_left (by omega)]
      simp [boolsV, chooseL, hb]
    refine wif_d (fun h2 => ?_) (fun h2 => ?_)
    · have hfs : fl[s]? = some fl[s] := List.getElem?_eq_getElem (by omega)
      generalize fl[s] = b at hfs
      refine index_sl (hf.ext hE3) (by omega) (fun ad u hA hu hcell => ?_)
      rw [boolsV_get hfs] at hu
      cases hu
      refine load hcell ?_
      refine wif (fun hb => ?_) (fun hb => ?_)
      · refine index_sl (hG.ext hE13) (by omega) (fun ad u hA hu hcell => ?_)
        rw [natsV_get hgs] at hu
        cases hu
        refine load hcell ?_
        refine call (hard_fn A n c d hv j w3 hjn (by omega) (h.ext hE3)) ?_
        rintro v w4 ⟨rfl, hE4⟩
        refine at_build1 gx_ok rfl rfl rfl rfl rfl rfl rfl rfl ?_
        intro w5 hE5 hsz5 hB5
        refine at_app gx_ok rfl rfl rfl rfl rfl (by decide) rfl rfl ⟨_, rfl⟩ rfl rfl ((hown3.ext hE4).ext hE5) (Sl.own' hB5 rfl (by simp [maxLen])) (by simp [scalar]) (by unfold maxLen; omega) (by show _ * 1 ≤ _; omega) (by have := (hE13.trans hE4).size; have := hE5.size; omega) ?_
        intro A' c' w6 hm6 hown6 _
        rw [hstep _ (by rw [hfs, hb]; simp)] at hown6
        refine norm_i64_to ((s + 1 : Nat) : Int) (by omega) (by omega) ?_
        exact ⟨(A', c', s + 1), rfl, ⟨hm6.ext ((hE3.trans hE4).trans hE5) (fun k hk => by have := hnew k hk; omega), hm6.ext ((hE13.trans hE4).trans hE5) (fun k hk => (hnew) k hk), hown6, (by omega : s + 1 ≤ g)⟩, by show g - (s + 1) < g - s; omega⟩
      · refine at_build1 gx_ok rfl rfl rfl rfl rfl rfl rfl rfl ?_
        intro w5 hE5 hsz5 hB5
        refine at_app gx_ok rfl rfl rfl rfl rfl (by decide) rfl rfl ⟨_, rfl⟩ rfl rfl ((hown3).ext hE5) (Sl.own' hB5 rfl (by simp [maxLen])) (by simp [scalar]) (by unfold maxLen; omega) (by show _ * 1 ≤ _; omega) (by have := hE13.size; have := hE5.size; omega) ?_
        intro A' c' w6 hm6 hown6 _
        rw [hstep _ (by rw [hfs, hb]; simp)] at hown6
        refine norm_i64_to ((s + 1 : Nat) : Int) (by omega) (by omega) ?_
        exact ⟨(A', c', s + 1), rfl, ⟨hm6.ext ((hE3).trans hE5) (fun k hk => by have := hnew k hk; omega), hm6.ext ((hE13).trans hE5) (fun k hk => (hnew) k hk), hown6, (by omega : s + 1 ≤ g)⟩, by show g - (s + 1) < g - s; omega⟩
    · refine at_build1 gx_ok rfl rfl rfl rfl rfl rfl rfl rfl ?_
      intro w5 hE5 hsz5 hB5
      refine at_app gx_ok rfl rfl rfl rfl rfl (by decide) rfl rfl ⟨_, rfl⟩ rfl rfl ((hown3).ext hE5) (Sl.own' hB5 rfl (by simp [maxLen])) (by simp [scalar]) (by unfold maxLen; omega) (by show _ * 1 ≤ _; omega) (by have := hE13.size; have := hE5.size; omega) ?_
      intro A' c' w6 hm6 hown6 _
      rw [hstep _ (by rw [List.getElem?_eq_none (by omega)]; simp)] at hown6
      refine norm_i64_to ((s + 1 : Nat) : Int) (by omega) (by omega) ?_
      exact ⟨(A', c', s + 1), rfl, ⟨hm6.ext ((hE3).trans hE5) (fun k hk => by have := hnew k hk; omega), hm6.ext ((hE13).trans hE5) (fun k hk => (hnew) k hk), hown6, (by omega : s + 1 ≤ g)⟩, by show g - (s + 1) < g - s; omega⟩
  · have : s = g := by omega
    subst this
    have hhl : (hards t).length = s := by rw [← hgn, List.length_map, hgl]
    rw [List.take_of_length_le (by omega)] at hown3
    exact ⟨C, cp, by rw [choose_len, ← hards_len, hhl], hE3, by rw [choose_len, ← hards_len, hhl]; exact hown3.sl⟩
end Go.Proofs.Ytbkadgdhmfolaaa
