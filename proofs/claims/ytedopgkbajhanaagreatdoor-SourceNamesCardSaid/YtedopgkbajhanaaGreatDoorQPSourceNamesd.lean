/-
  What PSourceNames rests on, part 4: the texts of this work, without what it does not use; printed by a program (wip/shake.py).
  Conditions: none.
-/
import Derived.Test.YtedopgkbajhanaaGreatDoorQPSourceNamesc
namespace Go.Proofs.YtedopgkbajhanaaGreatDoor
section
open Go Go.RowKit

/-- The sets so far. -/
structure DgI (w0 : World) (g : Nat) (f : List Fz) (k n s : Nat) (L : List DV) (w : World) : Prop where
  m : Mod (· = g) w0 w
  blk : Blk w g 42 (L.flatMap DV.cells)
  len : L.length = n
  got : ∀ j, j < s → ∃ x t, L[j]? = some x ∧ RepF f t j ∧ SB w x.A x.n x.c x.nd ∧ Set1 k x.nd x.r (evF t) ∧ ∀ i, rowS x.A i → g < i
theorem SB.mod {S : Nat → Prop} {w w' : World} {A : Option Addr} {n c : Nat} {nd : List Br} (h : SB w A n c nd) (hm : Mod S w w') (hr : ∀ i, rowS A i → ¬ S i) : SB w' A n c nd := ⟨h.1.modS hm (fun _ i hi => hr i hi), h.2⟩
theorem DgI.mod {w0 w w' : World} {g : Nat} {f : List Fz} {k n s : Nat} {L : List DV} (h : DgI w0 g f k n s L w) (k1 : Ext w w') : DgI w0 g f k n s L w' :=
  ⟨h.m.trans (Mod.of_ext (· = g) k1) (fun _ hi => .inl hi), h.blk.ext k1, h.len, fun j hj => by
    obtain ⟨x, t, h1, h2, h3, h4, h5⟩ := h.got j hj
    exact ⟨x, t, h1, h2, h3.ext k1, h4, h5⟩⟩
theorem DgI.put {w0 w w' : World} {g : Nat} {f : List Fz} {k n s : Nat} {L : List DV} (h : DgI w0 g f k n s L w) (hs : s < n) {x : DV} {t : Fm} (ht : RepF f t s) (hx : SB w x.A x.n x.c x.nd) (hS : Set1 k x.nd x.r (evF t)) (hr : ∀ i, rowS x.A i → g < i) (hm : Mod (· = g) w w')
    (hb : Blk w' g 42 (putL (s * 2) x.cells (L.flatMap DV.cells))) : DgI w0 g f k n (s + 1) (L.set s x) w' := by
  have hl := h.len
  refine ⟨h.m.trans hm (fun _ hi => .inl hi), by rw [← putL_flat dv_len L x (by omega)]; exact hb, by rw [List.length_set]; exact hl, fun j hj => ?_⟩
  by_cases hjs : j = s
  · subst hjs
    exact ⟨x, t, by rw [List.getElem?_set_self (by omega)], ht, hx.mod hm (fun i hi e => by have := hr i hi; omega), hS, hr⟩
  · obtain ⟨y, u, h1, h2, h3, h4, h5⟩ := h.got j (by omega)
    exact ⟨y, u, by rw [List.getElem?_set_ne (fun e => hjs e.symm)]; exact h1, h2, h3.mod hm (fun i hi e => by have := h5 i hi; omega), h4, h5⟩
/-- A place that is not written keeps its set. -/
def DgC (g s : Nat) (L : List DV) (w w' : World) : Prop := Mod (· = g) w w' ∧ ∀ (j : Nat) (x : DV), j ≠ s → L[j]? = some x → ∀ (i : Nat) (v : Value), x.cells[i]? = some v → w'.cell? ((⟨g, 0, none⟩ : Addr).add (j * 2 + i)) = some v
theorem DgC.of_ext {g s : Nat} {L : List DV} {w w' : World} (hb : Blk w g 42 (L.flatMap DV.cells)) (h : Ext w w') : DgC g s L w w' :=
  ⟨Mod.of_ext _ h, fun j x _ hx i v hi => by rw [(hb.ext h).cell]; exact flat_get dv_len _ _ _ _ _ hx hi⟩
theorem DgC.put {g s : Nat} {L : List DV} {w w1 w' : World} {x : DV} (hs : s < L.length) (h : Ext w w1) (hm : Mod (· = g) w1 w') (hb : Blk w' g 42 (putL (s * 2) x.cells (L.flatMap DV.cells))) : DgC g s L w w' :=
  ⟨(Mod.of_ext (· = g) h).trans hm (fun _ hi => .inl hi), fun j y hj hy i v hi => by
    rw [hb.cell, putL_flat dv_len L x hs]
    exact flat_get dv_len _ _ _ _ _ (by rw [List.getElem?_set_ne (fun e => hj e.symm)]; exact hy) hi⟩
theorem FV.rep {f : List Fz} (h : FV f) {i : Nat} (hi : i < f.length) : ∃ t, RepF f t i := rep_of h.2.2.1 i hi

theorem fdiagram_fn (F : Option Addr) (n cF : Nat) (f : List Fz) (k : Nat) (hk : k ≤ 12) (w : World) (h : SF w F n cF f) (hv : FV f) (hvk : varsOk k f) :
    Fn Tryz.prog 116 [.slice F n cF] w (fun v w' => ∃ A m c nd r, v = .tuple #[dgV A m c r, .int .i64 0] ∧ Ext w w' ∧ SB w' A m c nd ∧ Set1 k nd r (evF (treeOf f)) ∧ ∀ i, rowS A i → w.heap.size < i) := by
  have hn := h.2
  have hvl := hv.1
  have hv0 := hv.2.1
  refine fn_of_exec (c := { c116 with cuts := [] }) gx_ok Tryz.func116 rfl rfl rfl ?_
  refine new (fun w1 hE1 hz1 hB1 => ?_)
  refine call (check_fn F n cF f w1 (h.ext hE1)) ?_
  rintro _ w2 ⟨rfl, hE2⟩
  refine wif_nef (chkF_ok hv) ?_
  have hE02 := hE1.trans hE2
  refine at_makeN dv_len (by decide) (⟨none, 0, 0, [], 0⟩ : DV) gx_ok rfl rfl rfl rfl rfl rfl rfl rfl (by show 32 * n ≤ _; omega) (by unfold maxLen; omega) (fun w3 hE3 hz3 hB3 => ?_)
  have hE03 := hE02.trans hE3
  have hz02 := hE02.size
  have hz2 : w1.heap.size ≤ w2.heap.size := hE2.size
  refine loop gx_ok [17] (fun s : Nat × List DV => [.int .i64 s.1]) (fun s w' => DgI w3 w2.heap.size f k n s.1 s.2 w' ∧ s.1 ≤ n) (fun s _ => n - s.1) (0, List.replicate n ⟨none, 0, 0, [], 0⟩) rfl ⟨⟨Mod.refl _ _, hB3, by simp, fun j hj => absurd hj (by simp)⟩, Nat.zero_le _⟩ ?_
  rintro ⟨s, L⟩ w4 ⟨hI, hs⟩
  simp only at hI hs
  have hE4 : Ext w w4 := hI.m.ext hE03 (fun i hi => by omega)
  have hL := hI.len
  refine wif_d (fun h1 => ?_) (fun h1 => ?_)
  · have hsn : s < n := by simp only at h1; omega
    refine index_sls fz_len (h.ext hE4) rfl hsn (fun p x hx hc => ?_)
    refine loadN_at (vs := x.cells) rfl hc ?_
    refine new (fun w5 hE5 hz5 hB5 => ?_)
    refine storeN_blk0 hB5 rfl (sc rfl) (fun w6 hg6 hz6 hB6 => ?_)
    have hE46 : Ext w4 w6 := newBox hE5 hB5 hg6
    have hI6 := hI.mod hE46
    obtain ⟨t, ht⟩ := hv.rep (i := s) (by omega)
    have hz4 := hI.m.size
    have hz46 := hE46.size
    have c0 : Set1 k [] 0 (fun _ => false) := const_set k false
    have hrc : ∀ i, rowS (none : Option Addr) i → w2.heap.size < i := fun i hi => by obtain ⟨_, e, _⟩ := hi; cases e
    cases t with
    | c b =>
      cases b with
      | false =>
        have hxx : x = ⟨0, 0, 0, 0⟩ := Option.some.inj (hx.symm.trans ht)
        subst hxx
        refine load_blk0 hB6 rfl ?_
        refine wif_eqt rfl ?_
        refine load_blk0 hB6 rfl ?_
        refine call (dconst_fn false w6) ?_
        rintro _ w7 ⟨rfl, hE7⟩
        have hI7 := hI6.mod hE7
        refine index_n (j := s) hsn ?_
        refine storeN_blk (j := s * 2) (vs := (⟨none, 0, 0, [], 0⟩ : DV).cells) hI7.blk (by rw [flat_length dv_len, hL]; show s * 2 + 2 ≤ n * 2; omega) (sc rfl) (fun w8 hg8 hz8 hB8 => ?_)
        have hM8 : Mod (· = w2.heap.size) w7 w8 := Mod.of_grown hg8 rfl
        have hI8 := hI7.put hsn (x := ⟨none, 0, 0, [], 0⟩) ht (SlS.nil _) (const_set k false) hrc hM8 hB8
        refine wif_nef rfl ?_
        refine norm_i64_to ((s + 1 : Nat) : Int) (by show ((s : Nat) : Int) + 1 = _; omega) (by omega) ?_
        exact ⟨(s + 1, L.set s ⟨none, 0, 0, [], 0⟩), rfl, ⟨hI8, by show s + 1 ≤ n; omega⟩, by show n - (s + 1) < n - s; omega⟩
      | true =>
        have hxx : x = ⟨1, 0, 0, 0⟩ := Option.some.inj (hx.symm.trans ht)
        subst hxx
        refine load_blk0 hB6 rfl ?_
        refine wif_eqf (show ¬ (1 : Int) = 0 by decide) ?_
        refine wif_eqt rfl ?_
        refine load_blk0 hB6 rfl ?_
        refine call (dconst_fn true w6) ?_
        rintro _ w7 ⟨rfl, hE7⟩
        have hI7 := hI6.mod hE7
        refine index_n (j := s) hsn ?_
        refine storeN_blk (j := s * 2) (vs := (⟨none, 0, 0, [], 1⟩ : DV).cells) hI7.blk (by rw [flat_length dv_len, hL]; show s * 2 + 2 ≤ n * 2; omega) (sc rfl) (fun w8 hg8 hz8 hB8 => ?_)
        have hM8 : Mod (· = w2.heap.size) w7 w8 := Mod.of_grown hg8 rfl
        have hI8 := hI7.put hsn (x := ⟨none, 0, 0, [], 1⟩) ht (SlS.nil _) (const_set k true) hrc hM8 hB8
        refine wif_nef rfl ?_
        refine norm_i64_to ((s + 1 : Nat) : Int) (by show ((s : Nat) : Int) + 1 = _; omega) (by omega) ?_
        exact ⟨(s + 1, L.set s ⟨none, 0, 0, [], 1⟩), rfl, ⟨hI8, by show s + 1 ≤ n; omega⟩, by show n - (s + 1) < n - s; omega⟩
    | v q =>
      have hxx : x = ⟨2, (q : Nat), 0, 0⟩ := Option.some.inj (hx.symm.trans ht)
      subst hxx
      have hq : (q : Int) < k := hvk _ (List.mem_of_getElem? hx) rfl
      refine load_blk0 hB6 rfl ?_
      refine wif_eqf (show ¬ (2 : Int) = 0 by decide) ?_
      refine wif_eqf (show ¬ (2 : Int) = 1 by decide) ?_
      refine wif_eqt rfl ?_
      refine load_blk hB6 rfl ?_
      refine call (dvar_fn (q : Nat) w6 (by omega) (by omega)) ?_
      rintro _ w7 ⟨PA, pn, pc, rfl, hE7, hP7, hR7⟩
      have hI7 := hI6.mod hE7
      have hSv : Set1 k [⟨(q : Nat), 0, 1⟩] 2 (evF (.v q)) := ⟨vd_var (by omega) (by omega), fun b hb => by simp only [List.mem_singleton] at hb; subst hb; exact hq, fun e => by
        rw [ev_ge (vd_var (k := ((q : Nat) : Int)) (by omega) (by omega)).wf (by decide) (b := ⟨(q : Nat), 0, 1⟩) rfl, ev_lt (by simp), ev_lt (by simp)]
        cases h : e q <;> simp [evF, h]⟩
      refine index_n (j := s) hsn ?_
      refine storeN_blk (j := s * 2) (vs := (⟨PA, pn, pc, [⟨(q : Nat), 0, 1⟩], 2⟩ : DV).cells) hI7.blk (by rw [flat_length dv_len, hL]; show s * 2 + 2 ≤ n * 2; omega) (sc rfl) (fun w8 hg8 hz8 hB8 => ?_)
      have hM8 : Mod (· = w2.heap.size) w7 w8 := Mod.of_grown hg8 rfl
      have hI8 := hI7.put hsn (x := ⟨PA, pn, pc, [⟨(q : Nat), 0, 1⟩], 2⟩) ht hP7 hSv (fun i hi => by have := hR7 i hi; omega) hM8 hB8
      refine wif_nef rfl ?_
      refine norm_i64_to ((s + 1 : Nat) : Int) (by show ((s : Nat) : Int) + 1 = _; omega) (by omega) ?_
      exact ⟨(s + 1, L.set s ⟨PA, pn, pc, [⟨(q : Nat), 0, 1⟩], 2⟩), rfl, ⟨hI8, by show s + 1 ≤ n; omega⟩, by show n - (s + 1) < n - s; omega⟩
    | not a =>
      obtain ⟨j, hj, hxj, hra⟩ := ht
      have hxx : x = ⟨3, 0, (j : Nat), 0⟩ := Option.some.inj (hx.symm.trans hxj)
      subst hxx
      obtain ⟨y, u, hy, hu, hyS, hyM, hyr⟩ := hI6.got j hj
      obtain rfl : u = a := RepF.det hu hra
      have hex := op_set hk hyM c0 3
      have hcs := comb_set hyM c0 3
      have hjn : j < n := by omega
      refine load_blk0 hB6 rfl ?_
      refine wif_eqf (show ¬ (3 : Int) = 0 by decide) ?_
      refine wif_eqf (show ¬ (3 : Int) = 1 by decide) ?_
      refine wif_eqf (show ¬ (3 : Int) = 2 by decide) ?_
      refine wif_eqt rfl ?_
      refine load_blk hB6 rfl ?_
      refine index_n (j := j) hjn ?_
      refine loadN_blk (j := j * 2) (vs := y.cells) hI6.blk rfl (fun i v hi => flat_get dv_len _ _ _ _ _ hy hi) ?_
      refine call (dnot_fn y.A y.n y.c y.nd y.r w6 hyS) ?_
      rw [hex]
      rintro _ w7 ⟨PA, pn, pc, rfl, hE7, hP7, hR7⟩
      have hI7 := hI6.mod hE7
      have ht : RepF f (.not u) s := ⟨j, hj, hxj, hra⟩
      generalize combD y.nd y.r [] 0 3 = D at *
      obtain ⟨D1, D2⟩ := D
      have hSv : Set1 k D1 D2 (evF (.not u)) := hcs.congr (fun e => by simp [opB, evF])
      refine index_n (j := s) hsn ?_
      refine storeN_blk (j := s * 2) (vs := (⟨PA, pn, pc, D1, D2⟩ : DV).cells) hI7.blk (by rw [flat_length dv_len, hL]; show s * 2 + 2 ≤ n * 2; omega) (sc rfl) (fun w8 hg8 hz8 hB8 => ?_)
      have hM8 : Mod (· = w2.heap.size) w7 w8 := Mod.of_grown hg8 rfl
      have hI8 := hI7.put hsn (x := ⟨PA, pn, pc, D1, D2⟩) ht hP7 hSv (fun i hi => by have := hR7 i hi; omega) hM8 hB8
      refine wif_nef rfl ?_
      refine norm_i64_to ((s + 1 : Nat) : Int) (by show ((s : Nat) : Int) + 1 = _; omega) (by omega) ?_
      exact ⟨(s + 1, L.set s ⟨PA, pn, pc, D1, D2⟩), rfl, ⟨hI8, by show s + 1 ≤ n; omega⟩, by show n - (s + 1) < n - s; omega⟩
    | and a b =>
      obtain ⟨j, l, hj, hl, hxj, hra, hrb⟩ := ht
      have hxx : x = ⟨4, 0, (j : Nat), (l : Nat)⟩ := Option.some.inj (hx.symm.trans hxj)
      subst hxx
      obtain ⟨y, u, hy, hu, hyS, hyM, hyr⟩ := hI6.got j hj
      obtain rfl : u = a := RepF.det hu hra
      obtain ⟨z, u', hz, hu', hzS, hzM, hzr⟩ := hI6.got l hl
      obtain rfl : u' = b := RepF.det hu' hrb
      have hex := op_set hk hyM hzM 0
      have hcs := comb_set hyM hzM 0
      have hjn : j < n := by omega
      have hln : l < n := by omega
      refine load_blk0 hB6 rfl ?_
      refine wif_eqf (show ¬ (4 : Int) = 0 by decide) ?_
      refine wif_eqf (show ¬ (4 : Int) = 1 by decide) ?_
      refine wif_eqf (show ¬ (4 : Int) = 2 by decide) ?_
      refine wif_eqf (show ¬ (4 : Int) = 3 by decide) ?_
      refine wif_eqt rfl ?_
      refine draw_plan gx_ok (DgC w2.heap.size s L w6) 19 [(true, 0), (true, 1), (true, 2), (true, 3), (true, 4), (true, 5), (true, 6), (true, 7), (true, 8), (true, 9), (true, 10), (true, 11), (false, 12), (true, 13), (true, 14), (true, 15), (true, 16), (false, 17), (true, 18)] (by kernel_rfl) (DgC.of_ext hI6.blk (Ext.drew w6)) ?_
      have hxn : ¬ w4.heap.size = w2.heap.size := by omega
      refine qload (v := .int .i64 (j : Nat)) (fun w' hw' => by rw [(hB6.mod hw'.1 hxn).cell]; rfl) ?_
      refine index_n (j := j) hjn ?_
      refine qloadN (vs := y.cells) rfl (fun w' hw' i v hi => by rw [add_add]; exact hw'.2 j y (by omega) hy i v hi) ?_
      refine qload (v := .int .i64 (l : Nat)) (fun w' hw' => by rw [(hB6.mod hw'.1 hxn).cell]; rfl) ?_
      refine index_n (j := l) hln ?_
      refine qloadN (vs := z.cells) rfl (fun w' hw' i v hi => by rw [add_add]; exact hw'.2 l z (by omega) hz i v hi) ?_
      refine call (dand_fn y.A y.n y.c y.nd y.r z.A z.n z.c z.nd z.r _ (hyS.ext (Ext.drew w6)) (hzS.ext (Ext.drew w6))) ?_
      rw [hex]
      rintro _ w7 ⟨PA, pn, pc, rfl, hE7', hP7, hR7⟩
      have hE7 := (Ext.drew w6).trans hE7'
      have hz6d := (Ext.drew w6).size
      refine ⟨DgC.of_ext hI6.blk hE7, ?_⟩
      have hI7 := hI6.mod hE7
      have ht : RepF f (.and u u') s := ⟨j, l, hj, hl, hxj, hra, hrb⟩
      generalize combD y.nd y.r z.nd z.r 0 = D at *
      obtain ⟨D1, D2⟩ := D
      have hSv : Set1 k D1 D2 (evF (.and u u')) := hcs.congr (fun e => by simp [opB, evF])
      refine index_n (j := s) hsn ?_
      refine storeN_blk (j := s * 2) (vs := (⟨PA, pn, pc, D1, D2⟩ : DV).cells) hI7.blk (by rw [flat_length dv_len, hL]; show s * 2 + 2 ≤ n * 2; omega) (sc rfl) (fun w8 hg8 hz8 hB8 => ?_)
      have hM8 : Mod (· = w2.heap.size) w7 w8 := Mod.of_grown hg8 rfl
      have hI8 := hI7.put hsn (x := ⟨PA, pn, pc, D1, D2⟩) ht hP7 hSv (fun i hi => by have := hR7 i hi; omega) hM8 hB8
      refine ⟨DgC.put (by omega) hE7 hM8 hB8, ?_⟩
      refine wif_nef rfl ?_
      refine norm_i64_to ((s + 1 : Nat) : Int) (by show ((s : Nat) : Int) + 1 = _; omega) (by omega) ?_
      exact ⟨(s + 1, L.set s ⟨PA, pn, pc, D1, D2⟩), rfl, ⟨hI8, by show s + 1 ≤ n; omega⟩, by show n - (s + 1) < n - s; omega⟩
    | or a b =>
      obtain ⟨j, l, hj, hl, hxj, hra, hrb⟩ := ht
      have hxx : x = ⟨5, 0, (j : Nat), (l : Nat)⟩ := Option.some.inj (hx.symm.trans hxj)
      subst hxx
      obtain ⟨y, u, hy, hu, hyS, hyM, hyr⟩ := hI6.got j hj
      obtain rfl : u = a := RepF.det hu hra
      obtain ⟨z, u', hz, hu', hzS, hzM, hzr⟩ := hI6.got l hl
      obtain rfl : u' = b := RepF.det hu' hrb
      have hex := op_set hk hyM hzM 1
      have hcs := comb_set hyM hzM 1
      have hjn : j < n := by omega
      have hln : l < n := by omega
      refine load_blk0 hB6 rfl ?_
      refine wif_eqf (show ¬ (5 : Int) = 0 by decide) ?_
      refine wif_eqf (show ¬ (5 : Int) = 1 by decide) ?_
      refine wif_eqf (show ¬ (5 : Int) = 2 by decide) ?_
      refine wif_eqf (show ¬ (5 : Int) = 3 by decide) ?_
      refine wif_eqf (show ¬ (5 : Int) = 4 by decide) ?_
      refine wif_eqt rfl ?_
      refine draw_plan gx_ok (DgC w2.heap.size s L w6) 19 [(true, 0), (true, 1), (true, 2), (true, 3), (true, 4), (true, 5), (true, 6), (true, 7), (true, 8), (true, 9), (true, 10), (true, 11), (false, 12), (true, 13), (true, 14), (true, 15), (true, 16), (false, 17), (true, 18)] (by kernel_rfl) (DgC.of_ext hI6.blk (Ext.drew w6)) ?_
      have hxn : ¬ w4.heap.size = w2.heap.size := by omega
      refine qload (v := .int .i64 (j : Nat)) (fun w' hw' => by rw [(hB6.mod hw'.1 hxn).cell]; rfl) ?_
      refine index_n (j := j) hjn ?_
      refine qloadN (vs := y.cells) rfl (fun w' hw' i v hi => by rw [add_add]; exact hw'.2 j y (by omega) hy i v hi) ?_
      refine qload (v := .int .i64 (l : Nat)) (fun w' hw' => by rw [(hB6.mod hw'.1 hxn).cell]; rfl) ?_
      refine index_n (j := l) hln ?_
      refine qloadN (vs := z.cells) rfl (fun w' hw' i v hi => by rw [add_add]; exact hw'.2 l z (by omega) hz i v hi) ?_
      refine call (dor_fn y.A y.n y.c y.nd y.r z.A z.n z.c z.nd z.r _ (hyS.ext (Ext.drew w6)) (hzS.ext (Ext.drew w6))) ?_
      rw [hex]
      rintro _ w7 ⟨PA, pn, pc, rfl, hE7', hP7, hR7⟩
      have hE7 := (Ext.drew w6).trans hE7'
      have hz6d := (Ext.drew w6).size
      refine ⟨DgC.of_ext hI6.blk hE7, ?_⟩
      have hI7 := hI6.mod hE7
      have ht : RepF f (.or u u') s := ⟨j, l, hj, hl, hxj, hra, hrb⟩
      generalize combD y.nd y.r z.nd z.r 1 = D at *
      obtain ⟨D1, D2⟩ := D
      have hSv : Set1 k D1 D2 (evF (.or u u')) := hcs.congr (fun e => by simp [opB, evF])
      refine index_n (j := s) hsn ?_
      refine storeN_blk (j := s * 2) (vs := (⟨PA, pn, pc, D1, D2⟩ : DV).cells) hI7.blk (by rw [flat_length dv_len, hL]; show s * 2 + 2 ≤ n * 2; omega) (sc rfl) (fun w8 hg8 hz8 hB8 => ?_)
      have hM8 : Mod (· = w2.heap.size) w7 w8 := Mod.of_grown hg8 rfl
      have hI8 := hI7.put hsn (x := ⟨PA, pn, pc, D1, D2⟩) ht hP7 hSv (fun i hi => by have := hR7 i hi; omega) hM8 hB8
      refine ⟨DgC.put (by omega) hE7 hM8 hB8, ?_⟩
      refine wif_nef rfl ?_
      refine norm_i64_to ((s + 1 : Nat) : Int) (by show ((s : Nat) : Int) + 1 = _; omega) (by omega) ?_
      exact ⟨(s + 1, L.set s ⟨PA, pn, pc, D1, D2⟩), rfl, ⟨hI8, by show s + 1 ≤ n; omega⟩, by show n - (s + 1) < n - s; omega⟩
  · have hsn : s = n := by simp only at h1; omega
    subst hsn
    obtain ⟨y, u, hy, hu, hyS, hyM, hyr⟩ := hI.got (s - 1) (by omega)
    have htr := treeOf_eq (f := f) (t := u) (by rw [hn]; exact hu)
    refine norm_i64_to ((s - 1 : Nat) : Int) (by omega) (by omega) ?_
    refine index_n (j := s - 1) (by omega) ?_
    refine loadN_blk (j := (s - 1) * 2) (vs := y.cells) hI.blk rfl (fun i v hi => flat_get dv_len _ _ _ _ _ hy hi) ?_
    have hB4 := ((hB1.ext hE2).ext hE3).mod hI.m (by show ¬ w.heap.size = w2.heap.size; omega)
    refine storeN_blk0 hB4 rfl (sc rfl) (fun w5 hg5 hz5 hB5 => ?_)
    have hM5 : Mod (· = w.heap.size) w4 w5 := Mod.of_grown hg5 rfl
    refine loadN_blk0 hB5 rfl ?_
    exact ⟨y.A, y.n, y.c, y.nd, y.r, rfl, hM5.ext hE4 (fun i hi => by omega), hyS.mod hM5 (fun i hi e => by have := hyr i hi; omega), by rw [htr]; exact hyM, fun i hi => by have := hyr i hi; omega⟩
end
end Go.Proofs.YtedopgkbajhanaaGreatDoor

namespace Go.Proofs.YtedopgkbajhanaaGreatDoor
section
section
open Go Go.RowKit

abbrev adr (g o : Nat) : Addr := (⟨g, 0, none⟩ : Addr).add o
/-- A builder lies at this place of a variable of this type and size. -/
def LiesO (t m o : Nat) : Prop := liesAt Tryz.prog Tryz.prog.depth t (m / Tryz.prog.cellsOf t) o 86 1 = true
theorem adr_off (g o : Nat) : (adr g o).off = o ∧ (adr g o).block = g := by unfold adr; rw [add_own]; exact ⟨rfl, rfl⟩
theorem cell_at {w : World} {g t o j : Nat} {cs : List Value} (h : Blk w g t cs) : w.cell? ((adr g o).add j) = cs[o + j]? := by unfold adr; rw [add_add, h.cell]
theorem load_at {w : World} {g t o j : Nat} {cs : List Value} {v : Value} {K : Value → Prop} (h : Blk w g t cs) (hv : cs[o + j]? = some v) (k : K v) : Load w ((adr g o).add j) K := load (by rw [cell_at h]; exact hv) k
theorem store_at {w : World} {g t o j : Nat} {cs : List Value} {v : Value} {K : World → Prop} (h : Blk w g t cs) (hj : o + j < cs.length) (k : ∀ w1, Mod (· = g) w w1 → Blk w1 g t (cs.set (o + j) v) → K w1) : Store w ((adr g o).add j) v K := by
  unfold adr; rw [add_add]; exact store_mod h hj k

theorem copyCheckO_fn (g t o : Nat) (pa : Value) (cs : List Value) (w : World) (hl : LiesO t cs.length o) (ho : o < cs.length) (hp : pa = .pointer none ∨ pa = .pointer (some (adr g o))) (hB : Blk w g t cs) (hc : cs[o]? = some pa) :
    Fn Tryz.prog 98 [.pointer (some (adr g o))] w (fun _ w' => Mod (· = g) w w' ∧ Blk w' g t (cs.set o (.pointer (some (adr g o))))) := by
  obtain ⟨j, hj, hj0⟩ := builder_info
  refine fn_of_exec (c := c98) gx_ok Tryz.func98 rfl rfl rfl ?_
  have hsh : w.shape? (adr g o).block = some (t, cs.length) := by rw [(adr_off g o).2]; exact hB.shape
  have ucs := Tryz.underlying84
  have uus := Tryz.underlying192
  rcases hp with rfl | rfl
  · refine load_at hB (by simpa using hc) ?_
    refine wif_t rfl ?_
    refine at_run (w' := w) (v := .pointer (some (adr g o))) (fun a hf => ?_) ?_
    · have e1 := hf.ev (show Env.ev _ (.tmp 8) = some (.pointer (some (adr g o))) from rfl)
      have := Lib.run_to_unsafe (P := Tryz.prog) (src := 84) (dst := 192) w (adr g o) ucs uus hj hj0 hsh (by rw [(adr_off g o).1]; exact ho)
      simp only [execOp, e1]
      simp [gxP, this]
    refine at_run (w' := w) (v := .pointer (some (adr g o))) (fun a hf => ?_) ?_
    · have e1 := hf.ev (show Env.ev _ (.tmp 9) = some (.pointer (some (adr g o))) from rfl)
      have := run_callFunc_extern (P := Tryz.prog) (e := Extern.AbiNoEscape.same) Tryz.func131 (by kernel_rfl) (by kernel_rfl) (by kernel_rfl) (by kernel_rfl) #[.pointer (some (adr g o))] w
      rw [Lib.run_noEscape] at this
      simp only [execOp, resolve, invoke]
      simp [Deferred.ofValue, Act.eval] at e1 ⊢
      simp [e1, gxP, this]
    refine at_run (w' := w) (v := .pointer (some (adr g o))) (fun a hf => ?_) ?_
    · have e1 := hf.ev (show Env.ev _ (.tmp 10) = some (.pointer (some (adr g o))) from rfl)
      have := Lib.run_from_unsafe (P := Tryz.prog) (src := 192) (dst := 84) (u := 86) w (adr g o) uus ucs hj hsh (by rw [(adr_off g o).1]; exact hl)
      simp only [execOp, e1]
      simp [gxP, this]
    refine store_at hB (by simpa using ho) (fun w1 hm hB1 => ?_)
    exact ⟨hm, by simpa using hB1⟩
  · refine load_at hB (by simpa using hc) ?_
    refine wif_f rfl ?_
    refine load_at hB (by simpa using hc) ?_
    refine at_run (w' := w) (v := .bool false) (fun a hf => ?_) ?_
    · have e1 := hf.ev (show Env.ev _ (.tmp 17) = some (.pointer (some (adr g o))) from rfl)
      have e2 := hf.ev (show Env.ev _ (.tmp 18) = some (.pointer (some (adr g o))) from rfl)
      have := Lib.run_neq_ptr_same (P := Tryz.prog) (tp := 84) w (adr g o) ucs hj
      simp only [execOp, e1, e2, eqGuard]
      simp [gxP, this]
    refine wif_f rfl ?_
    refine ⟨Mod.refl _ _, ?_⟩
    have e : cs.set o (.pointer (some (adr g o))) = cs := by
      apply List.ext_getElem?
      intro i
      by_cases hi : i = o
      · subst hi; rw [List.getElem?_set_self ho, hc]
      · rw [List.getElem?_set_ne (fun e => hi e.symm)]
    rw [e]; exact hB

theorem writeStringO_fn (base g t o : Nat) (pa : Value) (cs : List Value) (A : Option Addr) (c : Nat) (out : List Nat) (s : ByteArray) (w : World) (hl : LiesO t cs.length o) (ho : o + 1 < cs.length) (hp : pa = .pointer none ∨ pa = .pointer (some (adr g o))) (hB : Blk w g t cs)
    (hc : cs[o]? = some pa) (hc2 : cs[o + 1]? = some (.slice A out.length c)) (how : Own w base 5 1 A out.length c (bytesV out)) (hg1 : g < base) (top : base ≤ w.heap.size) (hs : out.length + s.size ≤ 140737488355328) :
    Fn Tryz.prog 57 [.pointer (some (adr g o)), .string s] w (fun _ w' => ∃ A' c', Blk w' g t ((cs.set o (.pointer (some (adr g o)))).set (o + 1) (.slice A' (out.length + s.size) c')) ∧ Own w' base 5 1 A' (out.length + s.size) c' (bytesV (out ++ bytesOf s)) ∧ Mod (BldS g A) w w' ∧ Moved w A A') := by
  refine fn_of_exec (c := c57) gx_ok Tryz.func57 rfl rfl rfl ?_
  refine call (copyCheckO_fn g t o pa cs w hl (by omega) hp hB hc) ?_
  rintro v w1 ⟨hm1, hB1⟩
  have hrows := how.rows
  have hn : ¬ rowS A g := fun h => by have := (hrows g h).1; omega
  have hown1 := how.mod hm1 (fun k hk e => hn (e ▸ hk))
  refine load_at hB1 (v := .slice A out.length c) (show (cs.set o (.pointer (some (adr g o))))[o + 1]? = _ by rw [List.getElem?_set_ne (by omega)]; exact hc2) ?_
  refine at_app_str gx_ok rfl rfl rfl rfl rfl rfl rfl rfl rfl rfl rfl hown1 hs (by have := hm1.size; omega) ?_
  intro A' c' w2 hm2 hown2 hmv2
  refine store_at (hB1.mod hm2 hn) (by simpa using ho) (fun w3 hm3 hB3 => ?_)
  have hrows2 := hown2.rows
  refine ⟨A', c', hB3, ?_, ?_, hmv2.back hm1.size⟩
  · rw [bytesV_append, ← strCells_bytesV]
    exact hown2.mod hm3 (fun k hk e => by have := (hrows2 k hk).1; omega)
  · exact ((hm1.mono (S' := BldS g A) (fun i hi => .inl (.inl hi))).trans hm2 (fun i hi => .inl (.inr hi))).trans hm3 (fun i hi => .inl (.inl hi))

theorem lenO_fn (g t o : Nat) (cs : List Value) (A : Option Addr) (c n : Nat) (w : World) (hB : Blk w g t cs) (hc2 : cs[o + 1]? = some (.slice A n c)) :
    Fn Tryz.prog 120 [.pointer (some (adr g o))] w (fun v w' => v = .int .i64 n ∧ w = w') := by
  refine fn_of_exec (c := c120) gx_ok Tryz.func120 rfl rfl rfl ?_
  refine load_at hB hc2 ?_
  exact ⟨rfl, rfl⟩

theorem stringO_fn (base g t o : Nat) (cs : List Value) (A : Option Addr) (c : Nat) (out : List Nat) (w : World) (hB : Blk w g t cs) (hc2 : cs[o + 1]? = some (.slice A out.length c)) (how : Own w base 5 1 A out.length c (bytesV out)) (h8 : ∀ x ∈ out, x < 256) (hs : out.length ≤ 140737488355328) :
    Fn Tryz.prog 47 [.pointer (some (adr g o))] w (fun v w' => v = .string (strOf out) ∧ Mod (rowS A) w w') := by
  refine fn_of_exec (c := c47) gx_ok Tryz.func47 rfl rfl rfl ?_
  have hlen : (bytesV out).length = out.length := bytesV_length out
  refine draw_plan gx_ok (Ext w) 10 [(true, 0), (true, 1), (true, 2), (true, 3), (true, 5), (true, 6), (true, 7), (true, 8), (true, 9), (false, 4)] (by kernel_rfl) (Ext.drew w) ?_
  refine qload (v := .slice A out.length c) (fun w' hw' => by rw [cell_at (hB.ext hw')]; exact hc2) ?_
  refine qload (v := .slice A out.length c) (fun w' hw' => by rw [cell_at (hB.ext hw')]; exact hc2) ?_
  have fin0 : out.length = 0 → Value.string ByteArray.empty = Value.string (strOf out) := fun h0 => by
    have : out = [] := List.eq_nil_of_length_eq_zero h0
    subst this; rfl
  by_cases h0 : out.length = 0
  · have key : ∃ p w1, (Builtin.unsafeSliceData_ #[74] 140 #[.slice A out.length c]).run Tryz.prog w.drew = .ok (.pointer p) w1 ∧ Ext w w1 := by
      rcases how.row.2 with ⟨hv, _⟩ | ⟨g', cap, cur, hv, hb', hg', _⟩
      · simp only [Value.slice.injEq] at hv
        obtain ⟨rfl, _, rfl⟩ := hv
        exact ⟨none, w.drew, Lib.run_unsafeSliceData_nil _ _ _ _ _, Ext.drew w⟩
      · simp only [Value.slice.injEq] at hv
        obtain ⟨rfl, _, rfl⟩ := hv
        by_cases hc0 : c = 0
        · subst hc0
          have hsh : w.drew.shape? g' = some (5, cur.size) := by
            unfold World.shape?; rw [show w.drew.heap[g']? = _ from hg']
          exact ⟨_, _, Lib.run_unsafeSliceData_zero (P := Tryz.prog) w.drew _ _ 5 Tryz.underlying140 ⟨g', 0, none⟩ _ _ hsh, (Ext.drew w).trans (Ext.alloc _ _)⟩
        · exact ⟨_, w.drew, Lib.run_unsafeSliceData_row (P := Tryz.prog) w.drew _ _ ⟨g', 0, none⟩ _ _ hc0, Ext.drew w⟩
    obtain ⟨p, w1, hrun, hE1⟩ := key
    refine at_run (w' := w1) (v := .pointer p) (fun a hf => ?_) ⟨hE1, ?_⟩
    · have e1 := hf.ev (show Env.ev _ (.tmp 6) = some (.slice A out.length c) from rfl)
      simp only [execOp, resolve, invoke, builtin]
      simp [gxP, e1, hrun]
    refine at_run (w' := w1) (v := .string ByteArray.empty) (fun a hf => ?_) ?_
    · have e1 := hf.ev (show Env.ev _ (.tmp 7) = some (.pointer p) from rfl)
      have e2 := hf.ev (show Env.ev _ (.tmp 12) = some (.int .i64 out.length) from rfl)
      have := Lib.run_unsafeString_none (P := Tryz.prog) w1 140 3 9 p
      rw [h0] at e2
      simp only [execOp, resolve, invoke, builtin]
      simp [gxP, e1, e2]
      rw [this]; rfl
    exact ⟨fin0 h0, Mod.of_ext _ hE1⟩
  · obtain ⟨g', sp, rfl, hb', hB', hl'⟩ := how.blk (by omega)
    have hle := how.sl.le
    refine at_run (w' := w.drew) (v := .pointer (some ⟨g', 0, none⟩)) (fun a hf => ?_) ⟨Ext.drew w, ?_⟩
    · have e1 := hf.ev (show Env.ev _ (.tmp 6) = some (.slice (some ⟨g', 0, none⟩) out.length c) from rfl)
      have := Lib.run_unsafeSliceData_row (P := Tryz.prog) w.drew #[74] 140 ⟨g', 0, none⟩ out.length c (by omega)
      simp only [execOp, resolve, invoke, builtin]
      simp [gxP, e1, this]
    refine at_run (w' := w.drew.freeze ⟨g', 0, none⟩ out.length) (v := .string (strOf out)) (fun a hf => ?_) ?_
    · have e1 := hf.ev (show Env.ev _ (.tmp 7) = some (.pointer (some ⟨g', 0, none⟩)) from rfl)
      have e2 := hf.ev (show Env.ev _ (.tmp 12) = some (.int .i64 out.length) from rfl)
      have hsh : w.drew.shape? g' = some (5, (bytesV out ++ sp).length) := (hB'.ext (Ext.drew w)).shape
      have hl2 : (out.map UInt8.ofNat).length = out.length := by simp
      have := Lib.run_unsafeString_row (P := Tryz.prog) w.drew 140 3 9 5 Tryz.underlying140 (by kernel_rfl) g' _ hsh (out.map UInt8.ofNat) (by intro e; apply h0; rw [← hl2, e]; rfl) (by simp [bytesV_length]) (by rw [hl2]; omega) (fun j x hj => by
        rw [(hB'.ext (Ext.drew w)).cell]
        simp only [List.getElem?_map, Option.map_eq_some_iff] at hj
        obtain ⟨y, hy, rfl⟩ := hj
        have hjl : j < out.length := (List.getElem?_eq_some_iff.1 hy).1
        rw [List.getElem?_append_left (by rw [hlen]; exact hjl), bytesV_get' hy]
        have := h8 y (List.mem_of_getElem? hy)
        simp [Nat.mod_eq_of_lt this])
      rw [hl2] at this
      simp only [execOp, resolve, invoke, builtin]
      simp [gxP, e1, e2]
      rw [this]; rfl
    exact ⟨rfl, (Mod.of_ext (rowS _) (Ext.drew w)).trans (freeze_mod w.drew g' out.length (S := rowS (some ⟨g', 0, none⟩)) ⟨_, rfl, rfl⟩) (fun i hi => .inl hi)⟩
end

section
open Go Go.RowKit

/-! ### delete -/
def assocDel {α : Type} [DecidableEq α] (a : α) : List (α × Value) → List (α × Value)
  | [] => []
  | (b, v) :: l => if a = b then l else (b, v) :: assocDel a l
theorem assocDel_sub {α : Type} [DecidableEq α] (a : α) : ∀ l : List (α × Value), (assocDel a l).Sublist l
  | [] => List.Sublist.refl _
  | (b, v) :: l => by
    unfold assocDel
    split
    · exact List.sublist_cons_self _ _
    · exact (assocDel_sub a l).cons_cons _
theorem assoc_nomem {α : Type} [DecidableEq α] {a : α} : ∀ {l : List (α × Value)}, a ∉ l.map (·.1) → assoc a l = none
  | [], _ => rfl
  | (b, v) :: l, h => by
    simp only [List.map_cons, List.mem_cons, not_or] at h
    unfold assoc
    rw [if_neg h.1]; exact assoc_nomem h.2
theorem assoc_del {α : Type} [DecidableEq α] (a b : α) : ∀ l : List (α × Value), (l.map (·.1)).Nodup → assoc b (assocDel a l) = if b = a then none else assoc b l
  | [], _ => by simp [assocDel, assoc]
  | (d, u) :: l, hn => by
    simp only [List.map_cons, List.nodup_cons] at hn
    unfold assocDel
    split
    · rename_i h
      subst h
      by_cases hb : b = a
      · subst hb; rw [if_pos rfl]; exact assoc_nomem hn.1
      · rw [if_neg hb]; show _ = if b = a then _ else assoc b l; rw [if_neg hb]
    · rename_i h
      have ih := assoc_del a b l hn.2
      simp only [assoc]
      by_cases hb : b = d
      · rw [if_pos hb, if_pos hb, if_neg (fun e => h (by rw [← e]; exact hb))]
      · rw [if_neg hb, if_neg hb, ih]
theorem assocSet_keys {α : Type} [DecidableEq α] (a : α) (v : Value) : ∀ l : List (α × Value), (l.map (·.1)).Nodup → ((assocSet a v l).map (·.1)).Nodup ∧ ∀ x, x ∈ (assocSet a v l).map (·.1) → x = a ∨ x ∈ l.map (·.1)
  | [], _ => by simp [assocSet]
  | (b, u) :: l, h => by
    simp only [List.map_cons, List.nodup_cons] at h
    unfold assocSet
    split
    · rename_i hab
      exact ⟨by simpa using h, fun x hx => .inr (by simpa using hx)⟩
    · rename_i hab
      obtain ⟨h1, h2⟩ := assocSet_keys a v l h.2
      refine ⟨?_, fun x hx => ?_⟩
      · rw [List.map_cons, List.nodup_cons]
        exact ⟨fun hm => by rcases h2 b hm with e | e; exact hab e.symm; exact h.1 e, h1⟩
      · rw [List.map_cons, List.mem_cons] at hx
        rcases hx with rfl | hx
        · exact .inr (by simp)
        · rcases h2 x hx with e | e
          · exact .inl e
          · exact .inr (by rw [List.map_cons, List.mem_cons]; exact .inr e)

theorem findNow_del {α : Type} [DecidableEq α] {d : TypeDesc} {kv : α → Value} (hk : KeyV d kv) (a : α) : ∀ (m : List (α × Value)) (bs : List Nat) (i : Nat), bs.length = m.length →
    ∃ r, Instr.findNow d (kv a) (entsOf kv m bs) i = some r ∧ (∀ j v, r = some (j, v) → i ≤ j ∧ j - i < m.length ∧ (entsOf kv m bs).eraseIdx (j - i) = entsOf kv (assocDel a m) (bs.eraseIdx (j - i)) ∧ (assocDel a m).length + 1 = m.length) ∧ (r = none → assocDel a m = m)
  | [], bs, i, h => ⟨none, rfl, (fun j v h => nomatch h), fun _ => rfl⟩
  | (b, u) :: m, [], i, h => by simp at h
  | (b, u) :: m, s :: bs, i, h => by
    have e : entsOf kv ((b, u) :: m) (s :: bs) = { key := kv b, val := u, born := s } :: entsOf kv m bs := rfl
    rw [e]
    unfold Instr.findNow
    simp only [hk.same]
    by_cases hab : a = b
    · subst hab
      simp only [decide_true]
      refine ⟨some (i, u), rfl, fun j v hj => ?_, fun h => by cases h⟩
      cases hj
      refine ⟨Nat.le_refl _, by simp, ?_, ?_⟩
      · rw [Nat.sub_self]; simp [assocDel]
      · simp [assocDel]
    · simp only [hab, decide_false]
      obtain ⟨r, h1, h3, h4⟩ := findNow_del hk a m bs (i + 1) (by simpa using h)
      refine ⟨r, h1, fun j v hj => ?_, fun hn => by simp [assocDel, hab, h4 hn]⟩
      obtain ⟨h5, h6, h7, h8⟩ := h3 j v hj
      refine ⟨by omega, by simp; omega, ?_, by simp [assocDel, hab]; omega⟩
      rw [show j - i = (j - (i + 1)) + 1 by omega]
      simp only [List.eraseIdx_cons_succ, h7, assocDel, hab, if_false]
      rfl

theorem at_delete {α : Type} [DecidableEq α] {kv : α → Value} {c : Cx} {o : Oper} {S : Env} {w : World} {K : Env → World → Prop} {Q : Post} {t t2 ke e : Nat} {r rk : TyRow} {x y : Operand} {q : Nat} {m : List (α × Value)} {a : α} (hg : c.g.Ok)
    (ho : o.op = .call ⟨.builtin .delete, #[x, y], #[t, t2]⟩) (hdst : o.dst = none) (hr : rowOf c.g.tys t = some r) (hd : r.d = .map ke e) (hrk : rowOf c.g.tys ke = some rk) (hk : KeyV rk.d kv)
    (hx : S.ev x = some (.map (some q))) (hy : S.ev y = some (kv a)) (hm : MapAt kv w q m)
    (k : ∀ w1, Mod (· = q) w w1 → w1.heap.size = w.heap.size → MapAt kv w1 q (assocDel a m) → K S w1) : AtOp c o S w K Q := by
  have hr' := (hg.row hr).1
  rw [hd] at hr'
  have hrk' := (hg.row hrk).1
  obtain ⟨bs, ck, hl, hb⟩ := hm.ex
  have hlt : q < w.heap.size := (Array.getElem?_eq_some_iff.1 hb).1
  obtain ⟨res, h1, h3, h4⟩ := findNow_del hk a m bs 0 hl
  have hgo : (getObj q).run c.g.P w = .ok (.map (entsOf kv m bs).toArray ck) w := by simp [getObj, Sem.run, hb]
  have hset : ∀ ob, (setObj q ob).run c.g.P w = .ok () { w with heap := w.heap.setIfInBounds q ob } := fun ob => by simp [setObj, Sem.run, hb]
  have main : ∃ bs', bs'.length = (assocDel a m).length ∧ (Builtin.delete_ #[t, t2] o.type #[.map (some q), kv a]).run c.g.P w = .ok (.tuple #[]) { w with heap := w.heap.setIfInBounds q (.map (entsOf kv (assocDel a m) bs').toArray ck) } := by
    cases res with
    | none =>
      refine ⟨bs, by rw [h4 rfl]; exact hl, ?_⟩
      rw [h4 rfl]
      simp only [Builtin.delete_]
      simp [run_underlying hr', hgo, run_checkKey_plain hrk' hk.plain, Instr.findKey, run_underlying hrk', h1, hset]
    | some p =>
      obtain ⟨j, u⟩ := p
      obtain ⟨_, h6, h7, h8⟩ := h3 j u rfl
      simp only [Nat.sub_zero] at h6 h7
      refine ⟨bs.eraseIdx j, by rw [List.length_eraseIdx_of_lt (by omega)]; omega, ?_⟩
      simp only [Builtin.delete_]
      simp [run_underlying hr', hgo, run_checkKey_plain hrk' hk.plain, Instr.findKey, run_underlying hrk', h1, hset]
      rw [h7]
  obtain ⟨bs', hl', hrun⟩ := main
  unfold AtOp
  intro b hf
  have e1 := hf.ev hx
  have e2 := hf.ev hy
  refine wp_value (v := .tuple #[]) (w' := { w with heap := w.heap.setIfInBounds q (.map (entsOf kv (assocDel a m) bs').toArray ck) }) ?_ ⟨S, by rw [hdst]; simpa [Act.put] using hf, k _ ⟨rfl, rfl, rfl, by simp, fun i _ hi => ?_⟩ (by simp) ⟨bs', ck, hl', by simp [hlt]⟩⟩
  · simp only [execOp, ho, resolve, invoke, builtin]
    simp [e1, e2, hrun]
  · simp only [Array.getElem?_setIfInBounds]
    rw [if_neg (fun e => hi e.symm)]

/-! ### Rows of different kinds -/
theorem Own.kind {w : World} {base e sz n c i : Nat} {A : Option Addr} {cs : List Value} (h : Own w base e sz A n c cs) (hi : rowS A i) : ∃ cur, w.heap[i]? = some (.cells cur e (0, 0)) := by
  obtain ⟨ad, rfl, rfl⟩ := hi
  rcases h.row.2 with ⟨hv, _⟩ | ⟨g, cap, cur, hv, _, hg, _⟩
  · cases hv
  · cases hv; exact ⟨cur, hg⟩
theorem Own.apart {w : World} {b b' e e' sz sz' n n' c c' i : Nat} {A B : Option Addr} {cs cs' : List Value} (h : Own w b e sz A n c cs) (h' : Own w b' e' sz' B n' c' cs') (hne : e ≠ e') (hi : rowS A i) : ¬ rowS B i := fun hj => by
  obtain ⟨c1, h1⟩ := h.kind hi
  obtain ⟨c2, h2⟩ := h'.kind hj
  rw [h1] at h2
  simp only [Option.some.injEq, Obj.cells.injEq] at h2
  exact hne h2.2.1
theorem Blk.apart {w : World} {b e sz n c g t : Nat} {A : Option Addr} {cs cs' : List Value} (h : Blk w g t cs) (h' : Own w b e sz A n c cs') (hne : t ≠ e) : ¬ rowS A g := fun hj => by
  obtain ⟨c2, h2⟩ := h'.kind hj
  rw [show w.heap[g]? = _ from h] at h2
  simp only [Option.some.injEq, Obj.cells.injEq] at h2
  exact hne h2.2.1
theorem MapAt.apart {α : Type} {kv : α → Value} {w : World} {b e sz n c q : Nat} {A : Option Addr} {cs' : List Value} {m : List (α × Value)} (h : MapAt kv w q m) (h' : Own w b e sz A n c cs') : ¬ rowS A q := fun hj => by
  obtain ⟨c2, h2⟩ := h'.kind hj
  obtain ⟨bs, ck, _, h1⟩ := h.ex
  rw [h1] at h2; cases h2

/-! ### Sets in memory -/
/-- A set that lies apart from what is written. -/
structure DgO (w : World) (S : Nat → Prop) (k : Nat) (x : DV) (o : BF) : Prop where
  sb : SB w x.A x.n x.c x.nd
  st : Set1 k x.nd x.r o
  off : ∀ ad, x.A = some ad → 0 < x.n → ¬ S ad.block
theorem SB.modo {S : Nat → Prop} {w w' : World} {A : Option Addr} {n c : Nat} {nd : List Br} (h : SB w A n c nd) (hm : Mod S w w') (hr : ∀ ad, A = some ad → 0 < n → ¬ S ad.block) : SB w' A n c nd :=
  ⟨h.1.modS hm (fun h0 i hi => by obtain ⟨ad, e, rfl⟩ := hi; exact hr ad e h0), h.2⟩
theorem DgO.step {w w' : World} {S S' : Nat → Prop} {k : Nat} {x : DV} {o : BF} (h : DgO w S k x o) (hm : Mod S w w') (hs : ∀ i, S' i → S i ∨ w.heap.size ≤ i) : DgO w' S' k x o :=
  ⟨h.sb.modo hm h.off, h.st, fun ad e h0 hS => by
    rcases hs _ hS with h1 | h1
    · exact h.off ad e h0 h1
    · have := SB.lt h.sb ad e h0; omega⟩
theorem DgO.keep {w w' : World} {S T : Nat → Prop} {k : Nat} {x : DV} {o : BF} (h : DgO w S k x o) (hm : Mod T w w') (ht : ∀ i, T i → S i ∨ w.heap.size ≤ i) : DgO w' S k x o :=
  ⟨h.sb.modo (hm.mono ht) h.off, h.st, h.off⟩
theorem DgO.ext {w w' : World} {S : Nat → Prop} {k : Nat} {x : DV} {o : BF} (h : DgO w S k x o) (hE : Ext w w') : DgO w' S k x o := ⟨h.sb.ext hE, h.st, h.off⟩
theorem DgO.new {w w' : World} {S : Nat → Prop} {k : Nat} {A : Option Addr} {n c : Nat} {nd : List Br} {r : Int} {o : BF} (hb : SB w' A n c nd) (hs : Set1 k nd r o) (hr : ∀ i, rowS A i → w.heap.size ≤ i) (hS : ∀ i, S i → i < w.heap.size) : DgO w' S k ⟨A, n, c, nd, r⟩ o :=
  ⟨hb, hs, fun ad e _ h => by have := hr ad.block ⟨ad, e, rfl⟩; have := hS _ h; omega⟩
end

section
open Go Go.RowKit

def ixB (c : Nat) (l : List Nat) : Int := if c ∈ l then ((l.takeWhile (fun b => b != c)).length : Nat) else -1
theorem u8_eq {b c : Nat} (hb : b < 256) (hc : c < 256) : (UInt8.ofNat b == UInt8.ofNat c) = (b == c) := by
  rw [Bool.eq_iff_iff]
  simp only [beq_iff_eq]
  constructor
  · intro h
    have := congrArg UInt8.toNat h
    simpa [Nat.mod_eq_of_lt hb, Nat.mod_eq_of_lt hc] using this
  · intro h; rw [h]
theorem indexByte_eq {c : Nat} (hc : c < 256) : ∀ {l : List Nat}, (∀ x ∈ l, x < 256) → Lib.indexByte (l.map UInt8.ofNat) (UInt8.ofNat c) = ixB c l
  | [], _ => rfl
  | b :: l, h => by
    have ih := indexByte_eq hc (l := l) (fun x hx => h x (by simp [hx]))
    have hb : b < 256 := h b (by simp)
    rw [List.map_cons, Lib.indexByte, u8_eq hb hc, ih]
    unfold ixB
    by_cases hbc : b = c
    · subst hbc; simp
    · have h1 : (b == c) = false := by simpa using hbc
      rw [h1]
      by_cases hm : c ∈ l
      · have h3 : ¬ c = b := fun e => hbc e.symm
        simp [hm, hbc, h3]
      · have h3 : ¬ c = b := fun e => hbc e.symm
        simp [hm, h3]
theorem strOf_list (l : List Nat) : (strOf l).data.toList = l.map UInt8.ofNat := by simp [strOf]
theorem fn_of_calls' {P : Program} {f : FuncId} {l : List Value} {w : World} {v : Value} (h : Calls P f l.toArray w fun e w' => e = .returned v ∧ w' = w) : Fn P f l w (fun u w' => u = v ∧ w = w') := by
  unfold Fn
  exact h.mono fun e w' he => by obtain ⟨rfl, rfl⟩ := he; exact ⟨rfl, rfl⟩

theorem indexbyte_fn (l : List Nat) (c : Nat) (w : World) (hl : ∀ x ∈ l, x < 256) (hc : c < 256) :
    Fn Tryz.prog 72 [.string (strOf l), .int .u8 c] w (fun v w' => v = .int .i64 (ixB c l) ∧ w = w') := by
  have h := Tryz.strings_IndexByte (strOf l) (c : Int) w
  have e : ((c : Int).toNat.toUInt8) = UInt8.ofNat c := rfl
  rw [strOf_list, e, indexByte_eq hc hl] at h
  exact fn_of_calls' h

theorem count_fn (l : List Nat) (c : Nat) (w : World) (hl : ∀ x ∈ l, x < 256) (hc : c < 256) :
    Fn Tryz.prog 119 [.string (strOf l), .string (strOf [c])] w (fun v w' => v = .int .i64 (l.count c) ∧ w = w') := by
  have h := Tryz.strings_Count_one (strOf l) (UInt8.ofNat c) w
  have e : Lib.countByte (strOf l).data.toList (UInt8.ofNat c) = l.count c := by
    rw [strOf_list]
    unfold Lib.countByte
    clear h
    induction l with
    | nil => rfl
    | cons b l ih =>
      rw [List.map_cons, List.count_cons, List.count_cons, ih (fun x hx => hl x (by simp [hx])), u8_eq (hl b (by simp)) hc]
  rw [e] at h
  exact fn_of_calls' h

def cutH (l : List Nat) : List Nat := l.takeWhile (fun b => b != 32)
def cutR (l : List Nat) : List Nat := l.drop ((cutH l).length + 1)
theorem cutH_take (l : List Nat) : l.take (cutH l).length = cutH l := (List.prefix_iff_eq_take.1 (List.takeWhile_prefix _)).symm
theorem cutH_lt {l : List Nat} : (cutH l).length < l.length ↔ 32 ∈ l := by
  unfold cutH
  induction l with
  | nil => simp
  | cons b l ih =>
    by_cases hb : b = 32
    · subst hb; simp
    · have : (b != 32) = true := by simpa using hb
      rw [List.takeWhile_cons, if_pos this]
      simp only [List.length_cons, Nat.add_lt_add_iff_right, ih, List.mem_cons]
      constructor
      · exact fun h => .inr h
      · rintro (h | h)
        · exact absurd h.symm hb
        · exact h
theorem cutH_split {l : List Nat} (h : 32 ∈ l) : l = cutH l ++ 32 :: cutR l := by
  unfold cutR cutH
  induction l with
  | nil => simp at h
  | cons b l ih =>
    by_cases hb : b = 32
    · subst hb; simp
    · have h1 : (b != 32) = true := by simpa using hb
      rw [List.takeWhile_cons, if_pos h1]
      simp only [List.length_cons, List.drop_succ_cons, List.cons_append]
      congr 1
      refine ih ?_
      simp only [List.mem_cons] at h
      rcases h with h | h
      · exact absurd h.symm hb
      · exact h
theorem cutH_no {l : List Nat} (h : 32 ∉ l) : cutH l = l := by
  unfold cutH
  induction l with
  | nil => rfl
  | cons b l ih =>
    simp only [List.mem_cons, not_or] at h
    have h1 : (b != 32) = true := by simpa using fun e => h.1 e.symm
    rw [List.takeWhile_cons, if_pos h1, ih h.2]
theorem cut_len {l : List Nat} (h : 32 ∈ l) : ((l.takeWhile (fun b => b != 32)).length : Nat) < l.length := cutH_lt.2 h

theorem cut1_fn (l : List Nat) (w : World) (hl : ∀ x ∈ l, x < 256) (hlen : l.length ≤ 1000000000000) :
    Fn Tryz.prog 114 [.string (strOf l), .string (strOf [32])] w (fun v w' => (v = if 32 ∈ l then .tuple #[.string (strOf (cutH l)), .string (strOf (cutR l)), .bool true] else .tuple #[.string (strOf l), .string (strOf []), .bool false]) ∧ Ext w w') := by
  refine fn_of_exec (c := c114) gx_ok Tryz.func114 rfl rfl rfl ?_
  have h := Tryz.stringslite_Index_one (strOf l) (UInt8.ofNat 32) w
  rw [strOf_list, indexByte_eq (by decide) hl] at h
  refine call (fn_of_calls' h) ?_
  rintro _ _ ⟨rfl, rfl⟩
  unfold ixB
  by_cases hm : 32 ∈ l
  · rw [if_pos hm, if_pos hm]
    have hlt := cut_len hm
    refine wif_dt (by show (0 : Int) ≤ _; omega) ?_
    refine draw gx_ok (by kernel_rfl) ?_
    refine need_to (v' := .string (strOf (cutH l))) ⟨Int.le_refl _, by omega, by rw [strOf_size]; omega⟩ ?_ ?_
    · rw [strOf_extract]
      exact congrArg (fun x => Value.string (strOf x)) (cutH_take l)
    refine norm_i64_to (((cutH l).length + 1 : Nat) : Int) (by rw [strOf_size]; show ((_ : Nat) : Int) + 1 = _; unfold cutH; omega) (by unfold cutH; omega) ?_
    refine need_to (v' := .string (strOf (cutR l))) ⟨by omega, by rw [strOf_size]; unfold cutH; omega, by rw [strOf_size]; omega⟩ ?_ ?_
    · rw [strOf_extract]
      unfold cutR
      rw [strOf_size]
      show Value.string (strOf ((l.take l.length).drop _)) = _
      rw [List.take_of_length_le (Nat.le_refl _)]
      rfl
    exact fun w' hE => ⟨rfl, hE⟩
  · rw [if_neg hm, if_neg hm]
    refine wif_df (by decide) ?_
    exact ⟨rfl, Ext.refl _⟩

theorem scut_fn (l : List Nat) (w : World) (hl : ∀ x ∈ l, x < 256) (hlen : l.length ≤ 1000000000000) :
    Fn Tryz.prog 73 [.string (strOf l), .string (strOf [32])] w (fun v w' => (v = if 32 ∈ l then .tuple #[.string (strOf (cutH l)), .string (strOf (cutR l)), .bool true] else .tuple #[.string (strOf l), .string (strOf []), .bool false]) ∧ Ext w w') := by
  refine fn_of_exec (c := c73) gx_ok Tryz.func73 rfl rfl rfl ?_
  refine call (cut1_fn l w hl hlen) ?_
  rintro v w1 ⟨rfl, hE1⟩
  by_cases hm : 32 ∈ l
  · rw [if_pos hm]; exact ⟨rfl, hE1⟩
  · rw [if_neg hm]; exact ⟨rfl, hE1⟩

/-! ### Directives -/
theorem kw_pre {kw s : List Nat} (hk : 32 ∉ kw) : (kw ++ [32]).isPrefixOf s = true ↔ cutH s = kw ∧ 32 ∈ s := by
  rw [List.isPrefixOf_iff_prefix]
  constructor
  · rintro ⟨r, rfl⟩
    refine ⟨?_, by simp⟩
    unfold cutH
    rw [List.append_assoc, List.takeWhile_append_of_pos (fun x hx => by simpa using fun e => hk (by rw [← e]; exact hx))]
    simp
  · rintro ⟨h1, h2⟩
    have := cutH_split h2
    rw [h1] at this
    exact ⟨cutR s, by rw [List.append_assoc]; exact this.symm⟩
theorem kw_rest {kw s : List Nat} (h : cutH s = kw) : s.drop (kw.length + 1) = cutR s := by unfold cutR; rw [h]
def kIf : List Nat := [35, 105, 102]
def kElif : List Nat := [35, 101, 108, 105, 102]
def kInc : List Nat := [35, 105, 110, 99, 108, 117, 100, 101]
theorem dir_if {s : List Nat} (h : cutH s = kIf) (hm : 32 ∈ s) : dirOf s = .ifd (cutR s) := by
  unfold dirOf
  rw [if_pos (show pIf.isPrefixOf s = true from (kw_pre (kw := kIf) (by decide)).2 ⟨h, hm⟩), ← kw_rest h]; rfl
theorem dir_inc {s : List Nat} (h : cutH s = kInc) (hm : 32 ∈ s) : dirOf s = .inc (cutR s) := by
  unfold dirOf
  rw [if_neg (fun hp => by have := ((kw_pre (kw := kIf) (by decide)).1 hp).1; rw [h] at this; cases this), if_pos (show pInc.isPrefixOf s = true from (kw_pre (kw := kInc) (by decide)).2 ⟨h, hm⟩), ← kw_rest h]; rfl
theorem dir_elif {s : List Nat} (h : cutH s = kElif) (hm : 32 ∈ s) : dirOf s = .elif (cutR s) := by
  unfold dirOf
  rw [if_neg (fun hp => by have := ((kw_pre (kw := kIf) (by decide)).1 hp).1; rw [h] at this; cases this), if_neg (fun hp => by have := ((kw_pre (kw := kInc) (by decide)).1 hp).1; rw [h] at this; cases this),
    if_pos (show pElif.isPrefixOf s = true from (kw_pre (kw := kElif) (by decide)).2 ⟨h, hm⟩), ← kw_rest h]; rfl
theorem dir_no {s : List Nat} (h1 : ¬ (cutH s = kIf ∧ 32 ∈ s)) (h2 : ¬ (cutH s = kInc ∧ 32 ∈ s)) (h3 : ¬ (cutH s = kElif ∧ 32 ∈ s)) : dirOf s = if s = lElse then .els else if s = lEnd then .en else .txt := by
  unfold dirOf
  rw [if_neg (fun (hp : pIf.isPrefixOf s = true) => h1 ((kw_pre (kw := kIf) (by decide)).1 hp)), if_neg (fun (hp : pInc.isPrefixOf s = true) => h2 ((kw_pre (kw := kInc) (by decide)).1 hp)), if_neg (fun (hp : pElif.isPrefixOf s = true) => h3 ((kw_pre (kw := kElif) (by decide)).1 hp))]
end

section
open Go Go.RowKit

section
variable {P : Program} {ops : Array Oper} {md : Region.Mode} {C : World → Prop} {Q : Exit → Act → World → Prop}

/-- A panic is asked only what it leaves of the world. -/
def PanW (N : Slots) (pan : List PanicEntry → World → Prop) (Q : Exit → Act → World → Prop) : Exit → Act → World → Prop
  | .panic ch, a, w => a.tmps.size = N.n ∧ a.defers = N.ds ∧ pan ch w
  | e, a, w => Q e a w
theorem PanW.put {N : Slots} {pan : List PanicEntry → World → Prop} {Q : Exit → Act → World → Prop} {ch : List PanicEntry} {a : Act} {d : Option Tmp} {v : Value} {w : World} (h : PanW N pan Q (.panic ch) (a.put d v) w) : PanW N pan Q (.panic ch) a w := by
  obtain ⟨h1, h2, h3⟩ := h
  cases d with
  | none => exact ⟨h1, h2, h3⟩
  | some d => exact ⟨by simpa [Act.put] using h1, by simpa [Act.put] using h2, h3⟩
theorem PanW.imp {c : Cx} {pan : List PanicEntry → World → Prop} {Q : Post} (hp : ∀ ch S w, pan ch w → Q (.panic ch) S w) : ∀ (e : Exit) (a : Act) (w : World), PanW c.N pan (Up c Q) e a w → Up c Q e a w := fun e a w h => by
  cases e <;> first | exact h | (obtain ⟨h1, h2, h3⟩ := h; exact ⟨[], ⟨h1, h2, fun k x hk => by simp [Env.ent] at hk⟩, hp _ _ _ h3⟩)

theorem wpGP_first {N : Slots} {pan : List PanicEntry → World → Prop} {n i : Nat} {oi : Oper} {v : Value} {L : Array Bool → Act → World → Prop} (hi : ops[i]? = some oi) (hsel : ∀ (j : Nat) (o : Oper) cs b, ops[j]? = some o → o.op ≠ .select cs b)
    (hs : Sink md ops n) (hin : i < n) (hdone : ∀ listed a w, L listed a w → ∀ j ∈ Region.ready md ops listed, n ≤ j) :
    ∀ (f : Nat) (listed : Array Bool) (a : Act) (w : World), HeadInv md ops n listed →
      (∀ j oj, ops[j]? = some oj → j ≠ i → listed.getD j true = false → (∀ e ∈ oj.after, Region.binds md e = true → e.on ≠ i) → oi.apart ops oj = true) →
      i ∈ Region.ready md ops listed → YieldsIf P ops C oi v a → C w →
      wpG P md ops (PanW N pan Q) C n L f (listed.setIfInBounds i true) (a.put oi.dst v) w → wpG P md ops (PanW N pan Q) C n L (f + 1) listed a w := by
  intro f
  induction f with
  | zero =>
    intro listed a w inv _ hr hy hC H
    have hun := (mem_ready.1 hr).1
    refine ⟨fun h => (by rw [h] at hr; cases hr), fun j hj => ?_⟩
    have hjn := sink_lt hs inv hin hun j hj
    refine ⟨hjn, ?_⟩
    by_cases hji : j = i
    · subst hji; exact hy.wpOp hi hC ⟨hC, H⟩
    · have := hdone _ _ _ H j (ready_mono hj hji)
      omega
  | succ f ih =>
    intro listed a w inv hfree hr hy hC H
    have hun := (mem_ready.1 hr).1
    refine ⟨fun h => (by rw [h] at hr; cases hr), fun j hj => ?_⟩
    have hjn := sink_lt hs inv hin hun j hj
    refine ⟨hjn, ?_⟩
    by_cases hji : j = i
    · subst hji; exact hy.wpOp hi hC ⟨hC, H⟩
    · have h1 := (H.2 j (ready_mono hj hji)).2
      obtain ⟨hjun, oj, hoj, hall⟩ := mem_ready.1 hj
      have hnot : ∀ e ∈ oj.after, Region.binds md e = true → e.on ≠ i := fun e he hb heq => by
        have h1 := hall e he hb
        rw [heq, getD_both hun] at h1
        cases h1
      have h2 := wpOp_putIf hoj (hfree j oj hoj hji hjun hnot) (fun cs b => hsel i oi cs b hi) (fun cs b => hsel j oj cs b hoj) (fun _ _ _ h => PanW.put h) hy h1
      have hfree' : ∀ k ok, ops[k]? = some ok → k ≠ i → (listed.setIfInBounds j true).getD k true = false →
          (∀ e ∈ ok.after, Region.binds md e = true → e.on ≠ i) → oi.apart ops ok = true := fun k ok hk hki hun hno => by
        refine hfree k ok hk hki ?_ hno
        by_cases hjk : j = k
        · subst hjk; exact hjun
        · rw [getD_set_ne true hjk] at hun; exact hun
      refine wpOp_mono (fun a' w' h3 => ⟨h3.2.1, ih (listed.setIfInBounds j true) a' w' (inv.set hj hjn) hfree' (ready_mono hr (Ne.symm hji)) h3.1 h3.2.1 ?_⟩) h2
      rw [Array.setIfInBounds_comm _ _ hji]
      exact h3.2.2

end
section
variable {c : Cx} {S : Env} {a : Act}

def planLP (c : Cx) (pan : List PanicEntry → World → Prop) (all : List Oper) (C : World → Prop) : List (Bool × Nat) → Env → World → (Env → World → Prop) → Prop
  | [], S, w, K => K S w
  | (true, k) :: l, S, w, K => match nthO all k with
    | some o => guardK all o S (fun S => execT c o S C (fun S => planLP c pan all C l S w K)) (fun S => putK c S o.dst (.v undef) (fun S => planLP c pan all C l S w K))
    | none => False
  | (false, k) :: l, S, w, K => match nthO all k with
    | some o => guardK all o S (fun S => execO c o S w (fun S w => C w ∧ planLP c pan all C l S w K) (fun e _ w => match e with
      | .panic ch => pan ch w
      | _ => False)) (fun S => putK c S o.dst (.v undef) (fun S => planLP c pan all C l S w K))
    | none => False

theorem planLP_sound (hg : c.g.Ok) {md : Region.Mode} {ops : List Oper} {C : World → Prop} {Q : Exit → Act → World → Prop} {n : Nat} (hs : Region.noSelect ops.toArray = true) (hk : Sink md ops.toArray n) {K : Env → World → Prop} {pan : List PanicEntry → World → Prop} :
    ∀ (l : List (Bool × Nat)) (listed : Array Bool) (S : Env) (a : Act) (w : World), HeadInv md ops.toArray n listed → planB md ops.toArray n l listed = true → planLP c pan ops C l S w K → Fits c.N S a → C w →
    wpG c.g.P md ops.toArray (PanW c.N pan Q) C n (fun listed' a' w' => Region.seqB md ops.toArray (ops.toArray.size - n) n listed' = true ∧ ∃ S', Fits c.N S' a' ∧ K S' w') l.length listed a w
  | [], listed, S, a, w, inv, hB, h, hf, hC => ⟨hB, S, hf, h⟩
  | (true, k) :: l, listed, S, a, w, inv, hB, h, hf, hC => by
    simp only [planB, Bool.and_eq_true] at hB
    obtain ⟨⟨⟨hkn, hr⟩, hfr⟩, hB'⟩ := hB
    have hkn : k < n := by rw [Nat.blt_eq] at hkn; exact hkn
    have hr' : k ∈ Region.ready md ops.toArray listed := by simpa using hr
    obtain ⟨_, o, ho, _⟩ := mem_ready.1 hr'
    have hn : nthO ops k = some o := by rw [nthO_eq]; simpa using ho
    simp only [planLP, hn] at h
    have key : ∃ v, YieldsIf c.g.P ops.toArray C o v a ∧ ∃ S', Fits c.N S' (a.put o.dst v) ∧ planLP c pan ops C l S' w K := by
      rcases guardK_spec h hf with ⟨hw, S1, hf1, h1⟩ | ⟨hw, S1, hf1, h1⟩
      · obtain ⟨v, h2, h3⟩ := execT_sound hg h1 hf1
        exact ⟨v, .inl ⟨hw, h2⟩, h3⟩
      · exact ⟨undef, .inr ⟨hw, rfl⟩, putK_sound (e := .v undef) h1 hf1⟩
    obtain ⟨v, hy, S', hf', h'⟩ := key
    exact wpGP_first ho (Region.noSelect_spec hs) hk hkn (fun listed' a' w' hL => seqB_ready hL.1) l.length listed a w inv (Region.free_spec ho hfr) hr' hy hC
      (planLP_sound hg hs hk l _ S' _ w (inv.set hr' hkn) hB' h' hf' hC)
  | (false, k) :: l, listed, S, a, w, inv, hB, h, hf, hC => by
    simp only [planB, Bool.and_eq_true, decide_eq_true_eq] at hB
    obtain ⟨⟨hkn, hr⟩, hB'⟩ := hB
    have hkn : k < n := by rw [Nat.blt_eq] at hkn; exact hkn
    have hr' : k ∈ Region.ready md ops.toArray listed := by rw [hr]; simp
    obtain ⟨_, o, ho, _⟩ := mem_ready.1 hr'
    have hn : nthO ops k = some o := by rw [nthO_eq]; simpa using ho
    simp only [planLP, hn] at h
    have inv' := inv.set hr' hkn
    refine ⟨fun h0 => (by rw [hr] at h0; cases h0), fun i hi => ?_⟩
    rw [hr] at hi
    have hik : i = k := by simpa using hi
    subst hik
    refine ⟨hkn, ?_⟩
    unfold wpOp
    simp only [ho]
    rcases guardK_spec h hf with ⟨hw, S1, hf1, h1⟩ | ⟨hw, S1, hf1, h1⟩
    · rw [if_pos hw]
      refine .inl ?_
      have h2 := execO_sound hg h1 hf1
      have h3 := Oper.wp_mono (K' := fun a' w' => C w' ∧ wpG c.g.P md ops.toArray (PanW c.N pan Q) C n (fun listed' a' w' => Region.seqB md ops.toArray (ops.toArray.size - n) n listed' = true ∧ ∃ S', Fits c.N S' a' ∧ K S' w') l.length (listed.setIfInBounds i true) a' w')
        (fun a' w' ⟨S', hf', hc', hk'⟩ => ⟨hc', planLP_sound hg hs hk l _ S' a' w' inv' hB' hk' hf' hc'⟩) h2
      unfold Oper.wp at h3 ⊢
      generalize (execOp a.eval o).run c.g.P w = r at *
      cases r with
      | ok nx w' =>
        cases nx <;> simp only [Oper.upon] at h3 ⊢ <;> try exact h3
        exact h3.mono fun e w'' he => by
          cases e with
          | returned v => exact he
          | panicked ch => obtain ⟨_, hfz, he⟩ := he; exact ⟨hfz.size, hfz.defers, he⟩
          | outgrown => obtain ⟨_, _, _, _, he⟩ := he; exact he.elim
      | halt x w' => cases x <;> simp only [Oper.upon] at h3 ⊢ <;> first | exact h3 | (obtain ⟨_, hfz, h3⟩ := h3; exact ⟨hfz.size, hfz.defers, h3⟩) | (obtain ⟨_, _, h3⟩ := h3; exact h3.elim)
    · rw [if_neg (by rw [hw]; decide)]
      obtain ⟨S', hf', h'⟩ := putK_sound (e := .v undef) h1 hf1
      exact ⟨hC, planLP_sound hg hs hk l _ S' _ w inv' hB' h' hf' hC⟩

/-- A region that draws, by a plan for its first n operations; the rest in the text's order. -/
theorem draw_planP (hg : c.g.Ok) {id : Nat} {ops : List Oper} {w : World} {Q : Post} (pan : List PanicEntry → World → Prop) (hpan : ∀ ch S w, pan ch w → Q (.panic ch) S w) (C : World → Prop) (n : Nat) (plan : List (Bool × Nat))
    (hB : (Region.noSelect ops.toArray && Nat.beq plan.length n && sinkOk .any ops.toArray n && planB .any ops.toArray n plan (Array.replicate ops.toArray.size false)) = true) (hC : C w.drew)
    (h : planLP { c with named := 1000000 } pan ops C plan S w.drew (fun S w => execL c ops (ops.drop n) S w (fun S w => Q .normal S w) (fun e _ w => match e with
      | .panic ch => pan ch w
      | _ => False))) : AtDraw c id ops S w Q := by
  unfold AtDraw
  intro a hf
  simp only [Bool.and_eq_true] at hB
  obtain ⟨⟨⟨hs, hl⟩, hsk⟩, hpl⟩ := hB
  have hl := Nat.eq_of_beq_eq_true hl
  have hk := sinkOk_spec hsk
  have hnle : n ≤ ops.length := by
    rcases hk with hk | hk
    · rw [hk]; simp
    · have := hk.1; simp at this; omega
  refine Code.wp_mono (PanW.imp hpan) (wp_region_any hg.mixed ?_)
  have inv0 : HeadInv .any ops.toArray n (Array.replicate ops.toArray.size false) :=
    ⟨by simp, fun j oj _ hl => (by rw [getD_replicate_false] at hl; cases hl), fun t _ ht => getD_in (by simpa using ht) (getD_replicate_false _ _)⟩
  have H := planLP_sound (c := { c with named := 1000000 }) hg (Q := Up c Q) hs hk plan _ S a _ inv0 hpl h hf hC
  have hdl : (ops.drop n).length = ops.toArray.size - n := by simp
  have H2 := wpAny_of_G (Q := PanW c.N pan (Up c Q)) (g := ops.toArray.size - n) (fun listed' a' w' hL => by
    obtain ⟨hq, S', hf', hk'⟩ := hL
    have h2 := execL_sound (c := c) hg ops _ _ _ _ hk' hf'
    have := wpAny_of_seq (P := c.g.P) (md := .any) (ops := ops.toArray) (Q' := PanW c.N pan (Up c Q)) (ops.drop n) n listed' a' w' (fun j => by simp) (by rw [hdl]; exact hq) (wpList_mono' (fun e a w hq => by
      cases e with
      | normal => exact hq
      | panic ch => obtain ⟨_, hfz, h⟩ := hq; exact ⟨hfz.size, hfz.defers, h⟩
      | _ => exact absurd hq (by rintro ⟨_, _, h⟩; exact h)) h2)
    rwa [hdl] at this) _ _ _ _ H
  rw [hl, show n + (ops.toArray.size - n) = ops.toArray.size by simp; omega] at H2
  exact H2
end
end
end
end Go.Proofs.YtedopgkbajhanaaGreatDoor

namespace Go.Proofs.YtedopgkbajhanaaGreatDoor
section
section
open Go Go.RowKit

/-! ### The reader in memory -/
/-- What stays as it is: names, files, the maps' places. -/
structure RP where
  r : Nat
  q : Nat
  nq : Nat
  NA : Option Addr
  nn : Nat
  nc : Nat
  nm : List (List Nat)
  FA : Option Addr
  nf : Nat
  cf : Nat
  fs : List (List Nat × List Nat)
def fileC (x : List Nat × List Nat) : List Value := [.string (strOf x.1), .string (strOf x.2)]
theorem file_len (x : List Nat × List Nat) : (fileC x).length = 2 := rfl
structure FileOk (x : List Nat × List Nat) : Prop where
  n8 : ∀ b ∈ x.1, b < 256
  t8 : ∀ b ∈ x.2, b < 256
  nl : x.1.length ≤ 9223372036854775807
  tl : x.2.length ≤ 1048576
  ok : TextOk x.2
structure RPok (w0 : World) (p : RP) : Prop where
  nms : Sl w0 1 p.NA p.nn p.nc (strsV p.nm)
  nmb : NamesOk p.nm
  nmk : p.nm.length ≤ 12
  fls : SlS fileC 2 w0 p.FA p.nf p.cf p.fs
  flb : ∀ x ∈ p.fs, FileOk x
  nqm : MapAt strK w0 p.nq (nameM (p.fs.map (·.1)) 0 [])
/-- Where the rows lie. -/
structure RM where
  OA : Option Addr
  oc : Nat
  BA : Option Addr
  bc : Nat
  L : List DV
  pa : Value
  T : Nat → Prop
structure RV where
  d : Nat
  fl : Nat
  ln : Nat
  rd : List Nat
  g : Gs
def sgC (x : Sg × DV) : List Value := [.int .i64 x.1.f, .int .i64 x.1.t, .int .i64 x.1.fl, .int .i64 x.1.at_, .slice x.2.A x.2.n x.2.c, .int .i64 x.2.r]
theorem sg_len (x : Sg × DV) : (sgC x).length = 6 := rfl
def sgV (l : List Sg) (L : List DV) : List Value := (l.zip L).flatMap sgC
abbrev rdC (p : RP) (m : RM) (v : RV) : List Value := [.slice p.NA p.nn p.nc, .slice p.FA p.nf p.cf, .map (some p.nq), .map (some p.q), .int .i64 v.d, m.pa, .slice m.BA v.g.tx.length m.bc, .slice m.OA v.g.sg.length m.oc, .bool v.g.fr, .int .i64 v.fl, .int .i64 v.ln]
/-- What the reader writes. -/
def RS (p : RP) (m : RM) : Nat → Prop := fun k => k = p.r ∨ k = p.q ∨ rowS m.OA k ∨ rowS m.BA k
/-- And what else is written while the reader is at work. -/
def TS (p : RP) (m : RM) : Nat → Prop := fun k => RS p m k ∨ m.T k
structure Rr (w0 w : World) (base : Nat) (p : RP) (m : RM) (v : RV) : Prop where
  e0 : Ext w0 w
  lor : w0.heap.size ≤ p.r
  loq : w0.heap.size ≤ p.q
  rb : p.r < base
  qb : p.q < base
  ne : p.r ≠ p.q
  top : base ≤ w.heap.size
  pa : m.pa = .pointer none ∨ m.pa = .pointer (some (adr p.r 5))
  blk : Blk w p.r 88 (rdC p m v)
  txt : Own w base 5 1 m.BA v.g.tx.length m.bc (bytesV v.g.tx)
  out : Own w base 45 6 m.OA v.g.sg.length m.oc (sgV v.g.sg m.L)
  len : m.L.length = v.g.sg.length
  dgs : ∀ (j : Nat) (s : Sg) (x : DV), v.g.sg[j]? = some s → m.L[j]? = some x → DgO w (TS p m) p.nm.length x s.o
  rdm : ∃ mp, MapAt intK w p.q mp ∧ (mp.map (·.1)).Nodup ∧ ∀ n : Nat, assoc (n : Int) mp = if n ∈ v.rd then some (.bool true) else none
  tl : v.g.tx.length ≤ 1048576
  sl : v.g.sg.length ≤ 65536
  b8 : ∀ x ∈ v.g.tx, x < 256
  nf : v.g.fr = false → v.g.sg ≠ [] ∨ v.rd = []
  tt : ∀ i, m.T i → i < w.heap.size
section
variable {w0 w w' : World} {base : Nat} {p : RP} {m : RM} {v : RV}
theorem Rr.lo (h : Rr w0 w base p m v) : ∀ i, RS p m i → w0.heap.size ≤ i := fun i hi => by
  have := h.lor; have := h.loq; have := h.rb
  rcases hi with rfl | rfl | hi | hi
  · assumption
  · assumption
  · have := (h.out.rows i hi).1; omega
  · have := (h.txt.rows i hi).1; omega
theorem Rr.hi (h : Rr w0 w base p m v) : ∀ i, RS p m i → i < w.heap.size := fun i hi => by
  have := h.rb; have := h.qb; have := h.top
  rcases hi with rfl | rfl | hi | hi
  · omega
  · omega
  · exact (h.out.rows i hi).2
  · exact (h.txt.rows i hi).2
theorem Rr.ext (h : Rr w0 w base p m v) (k : Ext w w') : Rr w0 w' base p m v :=
  ⟨h.e0.trans k, h.lor, h.loq, h.rb, h.qb, h.ne, Nat.le_trans h.top k.size, h.pa, h.blk.ext k, h.txt.ext k, h.out.ext k, h.len, fun j s x h1 h2 => (h.dgs j s x h1 h2).ext k, let ⟨mp, h1, h2⟩ := h.rdm; ⟨mp, h1.ext k, h2⟩, h.tl, h.sl, h.b8, h.nf, fun i hi => Nat.lt_of_lt_of_le (h.tt i hi) k.size⟩
theorem RS.moved {m' : RM} (h1 : Moved w m.OA m'.OA) (h2 : Moved w m.BA m'.BA) : ∀ k, RS p m' k → RS p m k ∨ w.heap.size ≤ k := by
  rintro k (rfl | rfl | hk | hk)
  · exact .inl (.inl rfl)
  · exact .inl (.inr (.inl rfl))
  · rcases h1.rows k hk with h | h
    · exact .inl (.inr (.inr (.inl h)))
    · exact .inr h
  · rcases h2.rows k hk with h | h
    · exact .inl (.inr (.inr (.inr h)))
    · exact .inr h
theorem TS.moved {m' : RM} (hT : m'.T = m.T) (h1 : Moved w m.OA m'.OA) (h2 : Moved w m.BA m'.BA) : ∀ k, TS p m' k → TS p m k ∨ w.heap.size ≤ k := by
  rintro k (hk | hk)
  · rcases RS.moved (p := p) h1 h2 k hk with h | h
    · exact .inl (.inl h)
    · exact .inr h
  · exact .inl (.inr (by rw [← hT]; exact hk))
theorem Rr.hiT (h : Rr w0 w base p m v) : ∀ i, TS p m i → i < w.heap.size := fun i hi => hi.elim (h.hi i) (h.tt i)
/-- A field of the reader is written. -/
theorem Rr.nrow (h : Rr w0 w base p m v) : ¬ rowS m.OA p.r ∧ ¬ rowS m.BA p.r := by
  have := h.rb
  exact ⟨fun hi => by have := (h.out.rows _ hi).1; omega, fun hi => by have := (h.txt.rows _ hi).1; omega⟩
theorem Rr.put (h : Rr w0 w base p m v) {v' : RV} (hm : Mod (· = p.r) w w') (hB : Blk w' p.r 88 (rdC p m v')) (h1 : v'.g.tx = v.g.tx) (h2 : v'.g.sg = v.g.sg) (h3 : v'.rd = v.rd) (h4 : v'.g.fr = false → v'.g.sg ≠ [] ∨ v'.rd = []) : Rr w0 w' base p m v' := by
  have hE := hm.ext h.e0 (fun i hi => by subst hi; exact h.lor)
  refine ⟨hE, h.lor, h.loq, h.rb, h.qb, h.ne, Nat.le_trans h.top hm.size, h.pa, hB, ?_, ?_, by rw [h2]; exact h.len, fun j s x hs hx => ?_, ?_, by rw [h1]; exact h.tl, by rw [h2]; exact h.sl, by rw [h1]; exact h.b8, h4, fun i hi => Nat.lt_of_lt_of_le (h.tt i hi) hm.size⟩
  · rw [h1]; exact h.txt.mod hm (fun i hi e => by subst e; exact h.nrow.2 hi)
  · rw [h2]; exact h.out.mod hm (fun i hi e => by subst e; exact h.nrow.1 hi)
  · rw [h2] at hs; exact (h.dgs j s x hs hx).keep hm (fun i hi => .inl (.inl (.inl hi)))
  · obtain ⟨mp, k1, k2⟩ := h.rdm
    rw [h3]
    exact ⟨mp, k1.mod hm (fun e => h.ne e.symm), k2⟩
end
/-- The reader has gone on. -/
def GTo (w0 w : World) (base : Nat) (p : RP) (m : RM) (v : RV) (w' : World) : Prop := ∃ m', m'.T = m.T ∧ Rr w0 w' base p m' v ∧ Mod (RS p m) w w' ∧ Moved w m.OA m'.OA ∧ Moved w m.BA m'.BA

/-! ### fail, want, set, split -/
def failPan (e f l : Int) : List PanicEntry := [{ v := .iface 90 (.agg #[.int .i64 e, .int .i64 f, .int .i64 l]), recovered := false }]
section
variable {w0 : World} {base : Nat} {p : RP} {m : RM} {v : RV}

theorem fail_fn (e : Int) (w : World) (h : Rr w0 w base p m v) :
    FnP Tryz.prog 78 [.pointer (some ⟨p.r, 0, none⟩), .int .i64 e] w (fun _ _ => False) (fun ch w' => ch = failPan e v.fl v.ln ∧ Ext w w') := by
  refine fnP_of_exec (c := { c78 with cuts := [] }) gx_ok Tryz.func78 rfl rfl rfl ?_
  have hB := h.blk
  refine draw_tail gx_ok 12 (by kernel_rfl) ?_
  refine qload (v := .int .i64 v.fl) (fun w' hw' => by subst hw'; rw [(hB.ext (Ext.drew w)).cell]; rfl) ?_
  refine qload (v := .int .i64 v.ln) (fun w' hw' => by subst hw'; rw [(hB.ext (Ext.drew w)).cell]; rfl) ?_
  exact at_panic rfl rfl ⟨rfl, Ext.drew w⟩

theorem want_fn (x : DV) (w : World) : Fn Tryz.prog 115 [.pointer (some ⟨p.r, 0, none⟩), dgV x.A x.n x.c x.r, .int .i64 0] w (fun u w' => u = dgV x.A x.n x.c x.r ∧ Ext w w') := by
  refine fn_of_exec (c := { c115 with cuts := [] }) gx_ok Tryz.func115 rfl rfl rfl ?_
  refine new (fun w1 hE1 hz1 hB1 => ?_)
  refine new (fun w2 hE2 hz2 hB2 => ?_)
  refine wif_nef rfl ?_
  refine loadN_blk0 (hB1.ext hE2) rfl ?_
  refine storeN_blk0 hB2 rfl (sc rfl) (fun w3 hg3 _ hB3 => ?_)
  have hE3 : Ext w1 w3 := newBox hE2 hB2 hg3
  refine loadN_blk0 hB3 rfl ?_
  exact ⟨rfl, hE1.trans hE3⟩

/-- A set that the call made. -/
def DgF (w : World) (k : Nat) (o : BF) (u : Value) (w' : World) : Prop := ∃ x : DV, u = dgV x.A x.n x.c x.r ∧ Ext w w' ∧ SB w' x.A x.n x.c x.nd ∧ Set1 k x.nd x.r o ∧ ∀ i, rowS x.A i → w.heap.size ≤ i

theorem set_fn (s : List Nat) (w : World) (hP : RPok w0 p) (h : Rr w0 w base p m v) (h8 : ∀ x ∈ s, x < 256) (hl : s.length ≤ 1000000000000) :
    FnP Tryz.prog 74 [.pointer (some ⟨p.r, 0, none⟩), .string (strOf s)] w (fun u w' => ∃ o, setE p.nm s = .ok o ∧ DgF w p.nm.length o u w') (fun ch w' => ∃ e, setE p.nm s = .error e ∧ ch = failPan e v.fl v.ln ∧ Ext w w') := by
  refine fnP_of_exec (c := { c74 with cuts := [] }) gx_ok Tryz.func74 rfl rfl rfl ?_
  refine new (fun w1 hE1 hz1 hB1 => ?_)
  refine load_blk0 (h.blk.ext hE1) rfl ?_
  refine call (parse_fn p.nm p.NA p.nn p.nc s w1 ((hP.nms.ext h.e0).ext hE1) hP.nmb h8 hl) ?_
  rw [parse_T]
  have hse : setE p.nm s = match parseT p.nm s with
    | .ok t => .ok (evF t)
    | .error e => .error (if e = 2 then 2 else 71) := rfl
  cases hpt : parseT p.nm s with
  | ok t =>
    rw [hpt] at hse
    obtain ⟨k1, k2, k3⟩ := parseT_ok hpt
    rintro _ w2 ⟨G, mg, cG, rfl, hE2, hG⟩
    have hk := hP.nmk
    refine wif_eqt rfl ?_
    refine call (fdiagram_fn G mg cG _ p.nm.length hk w2 hG (post_FV (k2.mono (by omega)) k3) (post_vars t _ 0 k2)) ?_
    rintro _ w3 ⟨D, md, cD, nd, r, rfl, hE3, hD, hS, hR⟩
    rw [treeOf_post] at hS
    refine call (want_fn ⟨D, md, cD, nd, r⟩ w3) ?_
    rintro _ w4 ⟨rfl, hE4⟩
    have hE14 := (hE2.trans hE3).trans hE4
    refine storeN_blk0 (hB1.ext hE14) rfl (sc rfl) (fun w5 hg5 _ hB5 => ?_)
    have hM5 : Mod (· = w.heap.size) w4 w5 := Mod.of_grown hg5 rfl
    refine loadN_blk0 hB5 rfl ?_
    have hz2 := hE2.size
    exact ⟨_, hse, ⟨D, md, cD, nd, r⟩, rfl, hM5.ext (hE1.trans hE14) (fun i hi => by omega), SB.mod (hD.ext hE4) hM5 (fun i hi e => by have := hR i hi; omega), hS, fun i hi => by have := hR i hi; omega⟩
  | error e =>
    rw [hpt] at hse
    rintro _ w2 ⟨G, mg, cG, rfl, hE2, hG⟩
    have hE12 := hE1.trans hE2
    have h2 := h.ext hE12
    rcases parseT_err hpt with rfl | rfl | rfl | rfl
    · refine wif_eqf (by decide) ?_
      refine wif_eqf (by decide) ?_
      refine callP (fail_fn 71 w2 h2) (fun _ _ hf => hf.elim) ?_
      rintro ch w3 ⟨rfl, hE3⟩
      exact ⟨_, hse, rfl, hE12.trans hE3⟩
    · refine wif_eqf (by decide) ?_
      refine wif_eqt rfl ?_
      refine callP (fail_fn 2 w2 h2) (fun _ _ hf => hf.elim) ?_
      rintro ch w3 ⟨rfl, hE3⟩
      exact ⟨_, hse, rfl, hE12.trans hE3⟩
    · refine wif_eqf (by decide) ?_
      refine wif_eqf (by decide) ?_
      refine callP (fail_fn 71 w2 h2) (fun _ _ hf => hf.elim) ?_
      rintro ch w3 ⟨rfl, hE3⟩
      exact ⟨_, hse, rfl, hE12.trans hE3⟩
    · refine wif_eqf (by decide) ?_
      refine wif_eqf (by decide) ?_
      refine callP (fail_fn 71 w2 h2) (fun _ _ hf => hf.elim) ?_
      rintro ch w3 ⟨rfl, hE3⟩
      exact ⟨_, hse, rfl, hE12.trans hE3⟩

theorem split_fn (k : Nat) (hk : k ≤ 12) (x y : DV) (o o' : BF) (w : World) (hx : SB w x.A x.n x.c x.nd) (hxs : Set1 k x.nd x.r o) (hy : SB w y.A y.n y.c y.nd) (hys : Set1 k y.nd y.r o') :
    Fn Tryz.prog 76 [.pointer (some ⟨p.r, 0, none⟩), dgV x.A x.n x.c x.r, dgV y.A y.n y.c y.r] w (fun u w' => ∃ a b : DV, u = .tuple #[dgV a.A a.n a.c a.r, dgV b.A b.n b.c b.r] ∧ Ext w w' ∧ SB w' a.A a.n a.c a.nd ∧ Set1 k a.nd a.r (bAnd o o') ∧ (∀ i, rowS a.A i → w.heap.size ≤ i) ∧ SB w' b.A b.n b.c b.nd ∧ Set1 k b.nd b.r (bSub o o') ∧ ∀ i, rowS b.A i → w.heap.size ≤ i) := by
  refine fn_of_exec (c := { c76 with cuts := [] }) gx_ok Tryz.func76 rfl rfl rfl ?_
  refine new (fun w1 hE1 hz1 hB1 => ?_)
  refine new (fun w2 hE2 hz2 hB2 => ?_)
  refine new (fun w3 hE3 hz3 hB3 => ?_)
  refine new (fun w4 hE4 hz4 hB4 => ?_)
  have hE34 := hE3.trans hE4
  have hE24 := hE2.trans hE34
  have hE04 := hE1.trans hE24
  refine loadN_blk0 (hB1.ext hE24) rfl ?_
  refine loadN_blk0 (hB2.ext hE34) rfl ?_
  have hx4 := hx.ext hE04
  have hy4 := hy.ext hE04
  refine call (dand_fn x.A x.n x.c x.nd x.r y.A y.n y.c y.nd y.r w4 hx4 hy4) ?_
  rw [op_set hk hxs hys 0]
  have c1 : Set1 k _ _ (bAnd o o') := (comb_set hxs hys 0).congr (fun e => by simp [opB])
  generalize combD x.nd x.r y.nd y.r 0 = D at *
  obtain ⟨D1, D2⟩ := D
  rintro _ w5 ⟨PA, pn, pc, rfl, hE5, hP5, hR5⟩
  refine call (want_fn ⟨PA, pn, pc, D1, D2⟩ w5) ?_
  rintro _ w6 ⟨rfl, hE6⟩
  have hE46 := hE5.trans hE6
  refine storeN_blk0 ((hB3.ext hE4).ext hE46) rfl (sc rfl) (fun w7 hg7 _ hB7 => ?_)
  have hM7 : Mod (· = w2.heap.size) w6 w7 := Mod.of_grown hg7 rfl
  have hE06 := hE04.trans hE46
  have hE07 : Ext w w7 := hM7.ext hE06 (fun i hi => by omega)
  have n12 : ¬ w.heap.size = w2.heap.size := by omega
  have n22 : ¬ w1.heap.size = w2.heap.size := by omega
  have hB17 := ((hB1.ext hE24).ext hE46).mod hM7 n12
  have hB27 := ((hB2.ext hE34).ext hE46).mod hM7 n22
  have hB47 := (hB4.ext hE46).mod hM7 (by show ¬ w3.heap.size = w2.heap.size; omega)
  have hP7 := SB.mod (hP5.ext hE6) hM7 (fun i hi e => by have := hR5 i hi; omega)
  refine draw_plan gx_ok (Ext w7) 12 [(true, 0), (true, 1), (true, 2), (true, 3), (false, 4), (true, 5), (true, 6), (false, 7), (false, 8), (true, 9), (true, 10), (false, 11)] (by kernel_rfl) (Ext.drew w7) ?_
  refine qloadN (vs := x.cells) rfl (fun w' hw' j u hj => by rw [(hB17.ext hw').cell]; exact hj) ?_
  refine qloadN (vs := y.cells) rfl (fun w' hw' j u hj => by rw [(hB27.ext hw').cell]; exact hj) ?_
  have hd := Ext.drew w7
  refine call (dnot_fn y.A y.n y.c y.nd y.r _ ((hy.ext hE07).ext hd)) ?_
  have c0 : Set1 k [] 0 (fun _ => false) := const_set k false
  rw [op_set hk hys c0 3]
  have c2 : Set1 k _ _ (fun e => !o' e) := (comb_set hys c0 3).congr (fun e => by simp [opB])
  generalize combD y.nd y.r [] 0 3 = F at *
  obtain ⟨F1, F2⟩ := F
  rintro _ w8 ⟨QA, qn, qc, rfl, hE8, hQ8, hR8⟩
  refine ⟨hd.trans hE8, ?_⟩
  refine call (want_fn ⟨QA, qn, qc, F1, F2⟩ w8) ?_
  rintro _ w9 ⟨rfl, hE9⟩
  have hE79 := (hd.trans hE8).trans hE9
  refine ⟨hE79, ?_⟩
  refine call (dand_fn x.A x.n x.c x.nd x.r QA qn qc F1 F2 w9 ((hx.ext hE07).ext hE79) (hQ8.ext hE9)) ?_
  rw [op_set hk hxs c2 0]
  have c3 : Set1 k _ _ (bSub o o') := (comb_set hxs c2 0).congr (fun e => by simp [opB])
  generalize combD x.nd x.r F1 F2 0 = G at *
  obtain ⟨G1, G2⟩ := G
  rintro _ w10 ⟨RA, rn, rc, rfl, hE10, hR10, hS10⟩
  refine ⟨hE79.trans hE10, ?_⟩
  refine call (want_fn ⟨RA, rn, rc, G1, G2⟩ w10) ?_
  rintro _ w11 ⟨rfl, hE11⟩
  have hE711 := (hE79.trans hE10).trans hE11
  refine ⟨hE711, ?_⟩
  refine storeN_blk0 (hB47.ext hE711) rfl (sc rfl) (fun w12 hg12 _ hB12 => ?_)
  have hM12 : Mod (· = w3.heap.size) w11 w12 := Mod.of_grown hg12 rfl
  have hE012 : Ext w w12 := hM12.ext (hE07.trans hE711) (fun i hi => by omega)
  have hB712 := (hB7.ext hE711).mod hM12 (by show ¬ w2.heap.size = w3.heap.size; omega)
  have hz7 := hE07.size
  have hz9 := hE79.size
  have hz12 := hM12.size
  have hz711 := hE711.size
  have hz46 := hE46.size
  have hz67 := hM7.size
  have hP12 := SB.mod (hP7.ext hE711) hM12 (fun i hi e => by have := hR5 i hi; omega)
  have hR12 := SB.mod (hR10.ext hE11) hM12 (fun i hi e => by have := hS10 i hi; omega)
  have hd12 := Ext.drew w12
  have n23 : ¬ w3.heap.size = w2.heap.size := by omega
  refine draw_plan gx_ok (fun w' => Mod (fun i => i = w2.heap.size ∨ i = w3.heap.size) w12 w' ∧ Blk w' w2.heap.size 42 (⟨PA, pn, pc, D1, D2⟩ : DV).cells ∧ Blk w' w3.heap.size 42 (⟨RA, rn, rc, G1, G2⟩ : DV).cells) 4 [(true, 0), (true, 1), (false, 2), (false, 3)] (by kernel_rfl) ⟨Mod.of_ext _ hd12, hB712.ext hd12, hB12.ext hd12⟩ ?_
  refine qloadN (vs := (⟨PA, pn, pc, D1, D2⟩ : DV).cells) rfl (fun w' hw' j u hj => by rw [hw'.2.1.cell]; exact hj) ?_
  refine qloadN (vs := (⟨RA, rn, rc, G1, G2⟩ : DV).cells) rfl (fun w' hw' j u hj => by rw [hw'.2.2.cell]; exact hj) ?_
  refine storeN_blk0 (hB712.ext hd12) rfl (sc rfl) (fun w13 hg13 _ hB13 => ?_)
  have hM13 : Mod (· = w2.heap.size) w12.drew w13 := Mod.of_grown hg13 rfl
  have hM13' : Mod (fun i => i = w2.heap.size ∨ i = w3.heap.size) w12 w13 := (Mod.of_ext _ hd12).trans hM13 (fun i hi => .inl (.inl hi))
  have hB313 := (hB12.ext hd12).mod hM13 n23
  refine ⟨⟨hM13', hB13, hB313⟩, ?_⟩
  refine storeN_blk0 hB313 rfl (sc rfl) (fun w14 hg14 _ hB14 => ?_)
  have hM14 : Mod (· = w3.heap.size) w13 w14 := Mod.of_grown hg14 rfl
  have hB214 := hB13.mod hM14 (fun e => n23 e.symm)
  have hM014 := hM13'.trans hM14 (fun i hi => .inl (.inr hi))
  refine ⟨⟨hM014, hB214, hB14⟩, ?_⟩
  refine loadN_blk0 hB214 rfl ?_
  refine loadN_blk0 hB14 rfl ?_
  have hE014 : Ext w w14 := hM014.ext hE012 (fun i hi => by rcases hi with rfl | rfl <;> omega)
  exact ⟨⟨PA, pn, pc, D1, D2⟩, ⟨RA, rn, rc, G1, G2⟩, rfl, hE014, SB.mod hP12 hM014 (fun i hi e => by have := hR5 i hi; omega), c1, fun i hi => by have := hR5 i hi; have := hE04.size; omega,
    SB.mod hR12 hM014 (fun i hi e => by have := hS10 i hi; omega), c3, fun i hi => by have := hS10 i hi; omega⟩

theorem deeper_fn (w : World) (h : Rr w0 w base p m v) (hd : v.d ≤ 64) :
    FnP Tryz.prog 75 [.pointer (some ⟨p.r, 0, none⟩)] w (fun _ w' => v.d ≠ 64 ∧ Rr w0 w' base p m { v with d := v.d + 1 } ∧ Mod (· = p.r) w w') (fun ch w' => v.d = 64 ∧ ch = failPan 2 v.fl v.ln ∧ Ext w w') := by
  refine fnP_of_exec (c := { c75 with cuts := [] }) gx_ok Tryz.func75 rfl rfl rfl ?_
  refine load_blk h.blk rfl ?_
  refine wif_eq (fun h1 => ?_) (fun h1 => ?_)
  · refine callP (fail_fn 2 w h) (fun _ _ hf => hf.elim) ?_
    rintro ch w1 ⟨rfl, hE1⟩
    exact ⟨by omega, rfl, hE1⟩
  · refine load_blk h.blk rfl ?_
    refine norm_i64_to ((v.d + 1 : Nat) : Int) (by show ((v.d : Nat) : Int) + 1 = _; omega) (by omega) ?_
    refine store_mod h.blk (show 4 < 11 by decide) (fun w1 hM1 hB1 => ?_)
    exact ⟨fun e => h1 (by omega), h.put hM1 hB1 rfl rfl rfl h.nf, hM1⟩

theorem incE_eq (ix : List Nat → Option Nat) (rd s : List Nat) : incE ix rd s = if s.length < 2 ∨ s.head? ≠ some 34 ∨ s.getLast? ≠ some 34 ∨ s.count 34 ≠ 2 then .error 71 else match ix ((s.drop 1).take (s.length - 2)) with
    | none => .error 73
    | some n => if n ∈ rd then .error 73 else .ok n := rfl
theorem incE_no {ix : List Nat → Option Nat} {rd s : List Nat} (h : s.length < 2 ∨ s.head? ≠ some 34 ∨ s.getLast? ≠ some 34 ∨ s.count 34 ≠ 2) : incE ix rd s = .error 71 := if_pos h
theorem fnames {p : RP} (hP : RPok w0 p) : NamesOk (p.fs.map (·.1)) := fun s hs => by
  obtain ⟨x, hx, rfl⟩ := List.mem_map.1 hs
  exact ⟨(hP.flb x hx).n8, (hP.flb x hx).nl⟩

theorem top_lookup_ok {α : Type} [DecidableEq α] {kv : α → Value} {c : Cx} {o : Oper} {S : Env} {t ke e : Nat} {r rk re : TyRow} {x y : Operand} {q : Nat} {mm : List (α × Value)} {a : α} {C : World → Prop} {K : Env → Prop} (hg : c.g.Ok) (ho : o.op = .lookup t x y true) (hr : rowOf c.g.tys t = some r) (hd : r.d = .map ke e) (hrk : rowOf c.g.tys ke = some rk) (hre : rowOf c.g.tys e = some re) (hk : KeyV rk.d kv)
    (hx : S.ev x = some (.map (some q))) (hy : S.ev y = some (kv a)) (hm : ∀ w, C w → MapAt kv w q mm) {v' : Value} {b : Bool} (hv : (assoc a mm).getD re.z = v') (hb : (assoc a mm).isSome = b) (k : putK c S o.dst (.v (.tuple #[v', .bool b])) K) : TOp c o S C K := by
  subst hv hb
  refine top_op (v := .tuple #[(assoc a mm).getD re.z, .bool (assoc a mm).isSome]) (fun b w hf hw => ?_) k
  have e1 := hf.ev hx
  have e2 := hf.ev hy
  have := run_lookup (w := w) (a := a) hg hr hd hrk hre hk (hm w hw) true
  simp only [execOp, ho, e1, e2]
  simp only [Sem.run_bind, this, Result.andThen_ok]
  cases assoc a mm <;> simp

theorem number_fn (s : List Nat) (w : World) (hP : RPok w0 p) (h : Rr w0 w base p m v) (h8 : ∀ x ∈ s, x < 256) (hl : s.length ≤ 1000000000000) :
    FnP Tryz.prog 77 [.pointer (some ⟨p.r, 0, none⟩), .string (strOf s)] w (fun u w' => ∃ n : Nat, incE (ixN (p.fs.map (·.1))) v.rd s = .ok n ∧ u = .int .i64 n ∧ Ext w w') (fun ch w' => ∃ e, incE (ixN (p.fs.map (·.1))) v.rd s = .error e ∧ ch = failPan e v.fl v.ln ∧ Ext w w') := by
  refine fnP_of_exec (c := { c77 with cuts := [] }) gx_ok Tryz.func77 rfl rfl rfl ?_
  have hsz := strOf_size s
  have hby := bytesOf_strOf h8
  refine wif_d (fun h1 => ?_) (fun h1 => ?_)
  · have hs : s.length < 2 := by rw [hsz] at h1; omega
    refine callP (fail_fn 71 w h) (fun _ _ hf => hf.elim) ?_
    rintro ch w1 ⟨rfl, hE1⟩
    exact ⟨_, incE_no (.inl hs), rfl, hE1⟩
  have hs : ¬ s.length < 2 := by rw [hsz] at h1; omega
  refine sindex' (j := 0) (by omega) (fun x hx hxl => ?_)
  rw [hby] at hx
  have hhead : s.head? = some x := by rw [List.head?_eq_getElem?]; exact hx
  refine wif_ne (fun h2 => ?_) (fun h2 => ?_)
  · refine callP (fail_fn 71 w h) (fun _ _ hf => hf.elim) ?_
    rintro ch w1 ⟨rfl, hE1⟩
    exact ⟨_, incE_no (.inr (.inl (by rw [hhead]; intro e; cases e; exact h2 rfl))), rfl, hE1⟩
  have hx34 : x = 34 := by omega
  refine norm_i64_to ((s.length - 1 : Nat) : Int) (by rw [hsz]; omega) (by omega) ?_
  refine sindex' (j := s.length - 1) (by omega) (fun y hy hyl => ?_)
  rw [hby] at hy
  have hlast : s.getLast? = some y := by rw [List.getLast?_eq_getElem?]; exact hy
  refine wif_ne (fun h3 => ?_) (fun h3 => ?_)
  · refine callP (fail_fn 71 w h) (fun _ _ hf => hf.elim) ?_
    rintro ch w1 ⟨rfl, hE1⟩
    exact ⟨_, incE_no (.inr (.inr (.inl (by rw [hlast]; intro e; cases e; exact h3 rfl)))), rfl, hE1⟩
  have hy34 : y = 34 := by omega
  refine call (count_fn s 34 w h8 (by decide)) ?_
  rintro _ _ ⟨rfl, rfl⟩
  refine wif_ne (fun h4 => ?_) (fun h4 => ?_)
  · refine callP (fail_fn 71 w h) (fun _ _ hf => hf.elim) ?_
    rintro ch w1 ⟨rfl, hE1⟩
    exact ⟨_, incE_no (.inr (.inr (.inr (by omega)))), rfl, hE1⟩
  have hcond : ¬ (s.length < 2 ∨ s.head? ≠ some 34 ∨ s.getLast? ≠ some 34 ∨ s.count 34 ≠ 2) := by
    rintro (h | h | h | h)
    · exact hs h
    · rw [hhead, hx34] at h; exact h rfl
    · rw [hlast, hy34] at h; exact h rfl
    · omega
  have hinc : incE (ixN (p.fs.map (·.1))) v.rd s = match ixN (p.fs.map (·.1)) ((s.drop 1).take (s.length - 2)) with
    | none => .error 73
    | some n => if n ∈ v.rd then .error 73 else .ok n := if_neg hcond
  have hn8 : ∀ b ∈ (s.drop 1).take (s.length - 2), b < 256 := fun b hb => h8 b (List.mem_of_mem_drop (List.mem_of_mem_take hb))
  have hlook := ixN_ok (fnames hP) _ hn8
  have hB := h.blk
  refine draw_plan gx_ok (Ext w) 15 [(true, 0), (true, 1), (true, 2), (true, 3), (true, 4), (true, 5), (true, 6), (true, 7), (true, 8), (true, 9), (true, 10), (true, 11), (true, 12), (true, 13), (true, 14)] (by kernel_rfl) (Ext.drew w) ?_
  refine qload (v := .map (some p.nq)) (fun w' hw' => by rw [(hB.ext hw').cell]; rfl) ?_
  refine norm_i64_to ((s.length - 1 : Nat) : Int) (by rw [hsz]; omega) (by omega) ?_
  refine need_to (v' := .string (strOf ((s.drop 1).take (s.length - 2)))) ⟨by omega, by omega, by rw [hsz]; omega⟩ ?_ ?_
  · rw [strOf_extract]
    simp only [Int.toNat_natCast, Int.toNat_one]
    rw [List.drop_take]
    congr 3
  generalize hnm : (s.drop 1).take (s.length - 2) = nm at *
  refine top_lookup_ok (kv := strK) (a := strOf nm) (v' := .int .i64 ((ixN (p.fs.map (·.1)) nm).getD 0 : Nat)) (b := (ixN (p.fs.map (·.1)) nm).isSome) gx_ok rfl rfl rfl rfl rfl KeyV.str rfl rfl (fun w' hw' => (hP.nqm.ext h.e0).ext hw') (by rw [hlook]; cases ixN (p.fs.map (·.1)) nm <;> rfl) (by rw [hlook]; cases ixN (p.fs.map (·.1)) nm <;> rfl) ?_
  have hE1 := Ext.drew w
  have h1' := h.ext hE1
  obtain ⟨mp, k1, k2, k3⟩ := h1'.rdm
  cases hix : ixN (p.fs.map (·.1)) nm with
  | none =>
    rw [hix] at hinc
    refine wif_t rfl ?_
    refine callP (fail_fn 73 _ h1') (fun _ _ hf => hf.elim) ?_
    rintro ch w1 ⟨rfl, hE2⟩
    exact ⟨_, hinc, rfl, hE1.trans hE2⟩
  | some n =>
    rw [hix] at hinc
    simp only at hinc
    refine wif_f rfl ?_
    refine load_blk h1'.blk rfl ?_
    refine at_lookup' (kv := intK) (a := (n : Int)) (v := .bool (decide (n ∈ v.rd))) gx_ok rfl rfl rfl rfl rfl (KeyV.int .i64) rfl rfl k1 (by rw [k3 n]; by_cases hm : n ∈ v.rd <;> simp [hm]) ?_
    by_cases hm : n ∈ v.rd
    · rw [if_pos hm] at hinc
      refine wif_dt hm ?_
      refine callP (fail_fn 73 _ h1') (fun _ _ hf => hf.elim) ?_
      rintro ch w1 ⟨rfl, hE2⟩
      exact ⟨_, hinc, rfl, hE1.trans hE2⟩
    · rw [if_neg hm] at hinc
      refine wif_df hm ?_
      exact ⟨n, hinc, rfl, hE1⟩
end
end

section
open Go Go.RowKit

theorem scalar_flat {α : Type} {f : α → List Value} (hf : ∀ x, ∀ u ∈ f x, scalar u = true) (l : List α) : ∀ u ∈ l.flatMap f, scalar u = true := fun u hu => by
  obtain ⟨x, _, hx⟩ := List.mem_flatMap.1 hu
  exact hf x u hx
theorem br_scalar (x : Br) : ∀ u ∈ x.cells, scalar u = true := sc rfl

theorem clone_fn (k : Nat) (hk : k ≤ 12) (x : DV) (o : BF) (w : World) (hx : SB w x.A x.n x.c x.nd) (hs : Set1 k x.nd x.r o) :
    Fn Tryz.prog 121 [dgV x.A x.n x.c x.r] w (DgF w k o) := by
  have hlen := hx.2
  have hl := hs.len hk
  refine fn_of_exec (c := { c121 with cuts := [] }) gx_ok Tryz.func121 rfl rfl rfl ?_
  refine new (fun w1 hE1 hz1 hB1 => ?_)
  refine new (fun w2 hE2 hz2 hB2 => ?_)
  have hE02 := hE1.trans hE2
  have hB12 := hB1.ext hE2
  refine draw_plan gx_ok (Ext w2) 6 [(true, 0), (true, 1), (true, 3), (true, 4), (false, 2), (true, 5)] (by kernel_rfl) (Ext.drew w2) ?_
  refine qload (v := .slice x.A x.n x.c) (fun w' hw' => by rw [(hB12.ext hw').cell]; rfl) ?_
  refine qload (v := .int .i64 x.r) (fun w' hw' => by rw [(hB12.ext hw').cell]; rfl) ?_
  have hd := Ext.drew w2
  have hz := hd.size
  refine at_app (base := w2.drew.heap.size) gx_ok rfl rfl rfl rfl rfl (by decide) rfl rfl ⟨_, rfl⟩ rfl rfl (Own.nil _ _ _ _) ((hx.ext hE02).ext hd).1 (scalar_flat br_scalar _) (by unfold maxLen; omega) (by show (0 + x.n) * 24 ≤ _; omega) (Nat.le_refl _) ?_
  intro A' c' w3 hm3 hown3 hmv3
  have hE23 : Ext w2 w3 := hm3.ext hd (fun i hi => by obtain ⟨_, e, _⟩ := hi; cases e)
  refine ⟨hE23, ?_⟩
  refine storeN_blk0 (hB2.ext hE23) rfl (sc rfl) (fun w4 hg4 _ hB4 => ?_)
  have hM4 : Mod (· = w1.heap.size) w3 w4 := Mod.of_grown hg4 rfl
  refine loadN_blk0 hB4 rfl ?_
  have hrow : ∀ i, rowS A' i → w2.heap.size ≤ i := fun i hi => by have := (hown3.rows i hi).1; omega
  refine ⟨⟨A', 0 + x.n, c', x.nd, x.r⟩, rfl, hM4.ext (hE02.trans hE23) (fun i hi => by omega), ?_, hs, fun i hi => by have := hrow i hi; have := hE02.size; omega⟩
  refine SB.mod ⟨?_, by show x.nd.length = 0 + x.n; omega⟩ hM4 (fun i hi e => by have := hrow i hi; omega)
  simpa using hown3.sl

/-! ### add -/
theorem sgV_snoc {l : List Sg} {L : List DV} (h : L.length = l.length) (s : Sg) (x : DV) : sgV (l ++ [s]) (L ++ [x]) = sgV l L ++ sgC (s, x) := by
  unfold sgV
  rw [List.zip_append h.symm]
  simp
theorem sgV_len {l : List Sg} {L : List DV} (h : L.length = l.length) : (sgV l L).length = l.length * 6 := by
  unfold sgV
  rw [flat_length sg_len]; simp [h]
theorem sgC_scalar (x : Sg × DV) : ∀ u ∈ sgC x, scalar u = true := sc rfl

/-- A cell of a row of the call's own is written. -/
theorem store_ownN {w : World} {base e sz n c j : Nat} {a : Addr} {xs : List Value} {v : Value} {K : World → Prop} (h : Own w base e sz (some a) n c xs) (hn : 0 < n) (hj : j < n * sz)
    (k : ∀ w1, Mod (rowS (some a)) w w1 → Own w1 base e sz (some a) n c (xs.set j v) → K w1) : Store w (a.add j) v K := by
  have _ := hn
  have hr := h.row
  have hlen := hr.1
  rcases hr.2 with ⟨hv, _⟩ | ⟨g, cap, cur, hv, hb, hg, hnc, hcm, hcs, htake⟩
  · cases hv
  · cases hv
    have hB : Blk w g e cur.toList := by unfold Blk; rw [hg]
    have hjc : j < cur.toList.length := by
      have : cur.size = c * sz := hcs
      have h2 : n * sz ≤ c * sz := Nat.mul_le_mul_right _ hnc
      simp only [Array.length_toList]; omega
    refine store_mod hB hjc (fun w1 hm hB1 => k w1 (hm.mono (fun i hi => .inl ⟨_, rfl, hi.symm⟩)) ⟨⟨by rw [List.length_set]; exact hlen, .inr ⟨g, c, (cur.toList.set j v).toArray, rfl, hb, hB1, hnc, hcm, by simpa using hcs, ?_⟩⟩⟩)
    have ht : cur.toList.take (n * sz) = xs := htake
    show ((cur.toList.set j v).toArray.toList).take (n * sz) = xs.set j v
    rw [← ht]
    simp only [List.take_set]

theorem sgV_setTo {l : List Sg} {L : List DV} (h : L.length = l.length) (s : Sg) (x : DV) (t : Nat) : (sgV (l ++ [s]) (L ++ [x])).set (l.length * 6 + 1) (.int .i64 t) = sgV (l ++ [{ s with t := t }]) (L ++ [x]) := by
  rw [sgV_snoc h, sgV_snoc h, List.set_append_right _ _ (by rw [sgV_len h]; omega), sgV_len h]
  congr 1
  rw [show l.length * 6 + 1 - l.length * 6 = 1 by omega]; rfl

theorem b8_app {a b : List Nat} (ha : ∀ x ∈ a, x < 256) (hb : ∀ x ∈ b, x < 256) : ∀ x ∈ a ++ b, x < 256 := fun x hx => by
  rcases List.mem_append.1 hx with h | h
  · exact ha x h
  · exact hb x h
section
variable {w0 : World} {base : Nat} {p : RP}
theorem addG_none {s : List Nat} {fl at_ : Nat} {k : BF} {g : Gs} (h : 1048576 < g.tx.length + s.length ∨ (g.fr = true ∧ g.sg.length = 65536)) : addG s fl at_ k g = none := if_pos h
theorem addG_some {s : List Nat} {fl at_ : Nat} {k : BF} {g : Gs} (h : ¬ (1048576 < g.tx.length + s.length ∨ (g.fr = true ∧ g.sg.length = 65536))) : addG s fl at_ k g = some ⟨g.tx ++ s, setTo (g.tx.length + s.length) (if g.fr then g.sg ++ [⟨g.tx.length, 0, fl, at_, k⟩] else g.sg), false⟩ := if_neg h
theorem liesR : LiesO 88 11 5 := by unfold LiesO; kernel_rfl

/-- A segment was appended, and the reader's slice is set. -/
theorem Rr.app {m : RM} {v v' : RV} {w w1 w2 : World} (h : Rr w0 w base p m v) (s : Sg) (x : DV) {A' : Option Addr} {c' : Nat} (hm1 : Mod (rowS m.OA) w w1) (ho : Own w1 base 45 6 A' (v.g.sg.length + 1) c' (sgV v.g.sg m.L ++ sgC (s, x))) (hv : Moved w m.OA A') (hm2 : Mod (· = p.r) w1 w2)
    (hx : DgO w (TS p m) p.nm.length x s.o) (hl : v.g.sg.length < 65536) (e1 : v'.g.tx = v.g.tx) (e2 : v'.g.sg = v.g.sg ++ [s]) (e3 : v'.rd = v.rd) (hB : Blk w2 p.r 88 (rdC p { m with OA := A', oc := c', L := m.L ++ [x] } v')) : Rr w0 w2 base p { m with OA := A', oc := c', L := m.L ++ [x] } v' := by
  have hrs := TS.moved (p := p) (m := m) (m' := { m with OA := A', oc := c', L := m.L ++ [x] }) rfl hv (Moved.refl w m.BA)
  have hmm : Mod (RS p m) w w2 := (hm1.mono (S' := RS p m) (fun i hi => .inl (.inr (.inr (.inl hi))))).trans hm2 (fun i hi => .inl (.inl hi))
  have hpr : ∀ i, rowS A' i → ¬ i = p.r := fun i hi e => by subst e; have := (ho.rows _ hi).1; have := h.rb; omega
  have hsz := h.top
  have hz1 := hm1.size
  have hz2 := hm2.size
  refine ⟨hmm.ext h.e0 h.lo, h.lor, h.loq, h.rb, h.qb, h.ne, by omega, h.pa, hB, ?_, ?_, ?_, ?_, ?_, by rw [e1]; exact h.tl, ?_, by rw [e1]; exact h.b8, fun _ => .inl (by rw [e2]; simp), fun i hi => Nat.lt_of_lt_of_le (h.tt i hi) (by omega)⟩
  · rw [e1]
    exact (h.txt.mod hm1 (fun i hi hj => h.txt.apart h.out (by decide) hi hj)).mod hm2 (fun i hi e => by subst e; exact h.nrow.2 hi)
  · rw [e2]
    have := ho.mod hm2 hpr
    rw [sgV_snoc h.len, List.length_append]; exact this
  · rw [e2]; show (m.L ++ [x]).length = _; rw [List.length_append, List.length_append, h.len]; rfl
  · rw [e2]
    intro j s1 x1 hs1 hx1
    have hx1 : (m.L ++ [x])[j]? = some x1 := hx1
    rcases app_cases hs1 with ⟨hj, hs1⟩ | ⟨hj, hs1⟩
    · rw [List.getElem?_append_left (by rw [h.len]; exact hj)] at hx1
      exact (h.dgs j s1 x1 hs1 hx1).step (hmm.mono (fun i hi => .inl (.inl hi))) hrs
    · rw [List.getElem?_append_right (by rw [h.len]; exact hj), h.len] at hx1
      obtain ⟨h0, rfl⟩ := one_cases hs1
      obtain ⟨_, rfl⟩ := one_cases hx1
      exact hx.step (hmm.mono (fun i hi => .inl (.inl hi))) hrs
  · obtain ⟨mp, k1, k2⟩ := h.rdm
    rw [e3]
    exact ⟨mp, (k1.mod hm1 (k1.apart h.out)).mod hm2 (fun e => h.ne e.symm), k2⟩
  · rw [e2, List.length_append]; simp; omega

theorem last_split {l : List Sg} {L : List DV} (h : L.length = l.length) (hn : l ≠ []) : ∃ l' s L' x, l = l' ++ [s] ∧ L = L' ++ [x] ∧ L'.length = l'.length := by
  rcases List.eq_nil_or_concat l with rfl | ⟨l', s, rfl⟩
  · exact absurd rfl hn
  rcases List.eq_nil_or_concat L with rfl | ⟨L', x, rfl⟩
  · simp at h
  · exact ⟨l', s, L', x, by simp, by simp, by simpa using h⟩

theorem add_fn (m : RM) (v : RV) (s : List Nat) (at_ : Nat) (k : DV) (o : BF) (w : World) (hP : RPok w0 p) (h : Rr w0 w base p m v) (hk : DgO w (RS p m) p.nm.length k o) (h8 : ∀ x ∈ s, x < 256) (hsl : s.length ≤ 1048577) (hrdn : v.rd ≠ []) :
    FnP Tryz.prog 80 [.pointer (some ⟨p.r, 0, none⟩), .string (strOf s), .int .i64 at_, dgV k.A k.n k.c k.r] w (fun _ w' => ∃ g', addG s v.fl at_ o v.g = some g' ∧ GTo w0 w base p m { v with g := g' } w') (fun ch w' => addG s v.fl at_ o v.g = none ∧ ch = failPan 2 v.fl v.ln ∧ Ext w w') := by
  have hss := strOf_size s
  have htl := h.tl
  have hsl' := h.sl
  refine fnP_of_exec (c := { c80 with cuts := [2, 4] }) gx_ok Tryz.func80 rfl rfl rfl ?_
  refine new (fun w1 hE1 hz1 hB1 => ?_)
  have h1 := h.ext hE1
  refine call (lenO_fn p.r 88 5 (rdC p m v) m.BA m.bc v.g.tx.length w1 h1.blk rfl) ?_
  rintro _ _ ⟨rfl, rfl⟩
  refine cut0In [] gx_ok (fun w2 => w1 = w2 ∧ ¬ (1048576 < v.g.tx.length + s.length ∨ (v.g.fr = true ∧ v.g.sg.length = 65536))) ?_ ?_
  · refine norm_i64_to ((v.g.tx.length + s.length : Nat) : Int) (by rw [hss]; omega) (by omega) ?_
    refine wif_d (fun c1 => ?_) (fun c1 => ?_)
    · refine callP (fail_fn 2 w1 h1) (fun _ _ hf => hf.elim) ?_
      rintro ch w2 ⟨rfl, hE2⟩
      exact ⟨addG_none (.inl (by omega)), rfl, hE1.trans hE2⟩
    refine load_blk h1.blk rfl ?_
    refine wif (fun f1 => ?_) (fun f1 => ?_)
    · refine load_blk h1.blk rfl ?_
      refine wif_eq (fun c2 => ?_) (fun c2 => ?_)
      · refine callP (fail_fn 2 w1 h1) (fun _ _ hf => hf.elim) ?_
        rintro ch w2 ⟨rfl, hE2⟩
        exact ⟨addG_none (.inr ⟨f1, by omega⟩), rfl, hE1.trans hE2⟩
      · exact ⟨rfl, rfl, by omega⟩
    · exact ⟨rfl, rfl, by rw [f1]; intro hh; rcases hh with hh | ⟨hh, _⟩; omega; cases hh⟩
  rintro _ ⟨rfl, hbig⟩
  have hadd := addG_some (s := s) (fl := v.fl) (at_ := at_) (k := o) (g := v.g) hbig
  refine cut0In [] gx_ok (GTo w0 w1 base p m { v with g := ⟨v.g.tx, if v.g.fr then v.g.sg ++ [⟨v.g.tx.length, 0, v.fl, at_, o⟩] else v.g.sg, false⟩ }) ?_ ?_
  · refine load_blk h1.blk rfl ?_
    refine wif (fun f1 => ?_) (fun f1 => ?_)
    · have f1 : v.g.fr = true := f1
      have hsg : v.g.sg.length < 65536 := by
        rcases Nat.lt_or_ge v.g.sg.length 65536 with hh | hh
        · exact hh
        · exact absurd (Or.inr ⟨f1, by omega⟩) hbig
      have hhi := h.hi
      have hbx : ¬ RS p m w.heap.size := fun hh => by have := hhi _ hh; omega
      have nrow := h.nrow
      refine draw_plan gx_ok (Mod (rowS m.OA) w1) 18 [(true, 0), (true, 1), (true, 2), (true, 3), (true, 4), (true, 5), (true, 6), (true, 7), (true, 8), (true, 9), (true, 10), (true, 11), (false, 12), (true, 13), (false, 14), (false, 15), (true, 16), (true, 17)] (by kernel_rfl) (Mod.of_ext _ (Ext.drew w1)) ?_
      refine qload (v := .slice m.OA v.g.sg.length m.oc) (fun w' hw' => by rw [(h1.blk.mod hw' nrow.1).cell]; rfl) ?_
      refine qload (v := .int .i64 v.fl) (fun w' hw' => by rw [(h1.blk.mod hw' nrow.1).cell]; rfl) ?_
      refine qloadN (vs := k.cells) rfl (fun w' hw' j u hj => by rw [(hB1.mod hw' (fun hh => hbx (.inr (.inr (.inl hh))))).cell]; exact hj) ?_
      have hd := Ext.drew w1
      have hk1 := hk.ext hE1
      refine call (clone_fn p.nm.length hP.nmk k o w1.drew (hk1.sb.ext hd) hk1.st) ?_
      rintro _ w2 ⟨x, rfl, hE2, hx2, hxs, hxr⟩
      have hE12 := hd.trans hE2
      refine ⟨Mod.of_ext _ hE12, ?_⟩
      refine at_buildN gx_ok [sgC (⟨v.g.tx.length, 0, v.fl, at_, o⟩, x)] rfl rfl rfl rfl rfl ⟨rfl, rfl, ⟨⟩⟩ rfl (fun cs hh => by simp only [List.mem_singleton] at hh; subst hh; rfl) rfl (by decide) (by decide) ?_
      intro w3 hE3 hz3 hB3
      have hE13 := hE12.trans hE3
      refine ⟨Mod.of_ext _ hE13, ?_⟩
      have h3 := h1.ext hE13
      have hs3 : Sl w3 6 (some ⟨w2.heap.size, 0, none⟩) 1 1 (sgC (⟨v.g.tx.length, 0, v.fl, at_, o⟩, x)) := Sl.own (sz := 6) (n := 1) hB3 (Nat.le_refl _) (by decide) (by simp [sgC])
      refine at_app gx_ok rfl rfl rfl rfl rfl (by decide) rfl rfl ⟨_, rfl⟩ rfl rfl h3.out hs3 (sgC_scalar _) (by unfold maxLen; omega) (by show (v.g.sg.length + 1) * 64 ≤ _; omega) h3.top ?_
      intro A' c' w4 hm4 hown4 hmv4
      refine ⟨(Mod.of_ext (rowS m.OA) hE13).trans hm4 (fun i hi => .inl hi), ?_⟩
      refine store_mod (h3.blk.mod hm4 nrow.1) (show 7 < 11 by decide) (fun w5 hm5 hB5 => ?_)
      refine store_mod hB5 (show 8 < 11 by decide) (fun w6 hm6 hB6 => ?_)
      have hm46 : Mod (· = p.r) w4 w6 := hm5.trans hm6 (fun i hi => .inl hi)
      have hhi1 := h1.hiT
      have hxo : DgO w3 (TS p m) p.nm.length x o := (DgO.new (S := TS p m) hx2 hxs hxr (fun i hi => by have := hhi1 i hi; have := hd.size; omega)).ext hE3
      have hx3 : DgO w3 (TS p m) p.nm.length x (⟨v.g.tx.length, 0, v.fl, at_, o⟩ : Sg).o := hxo
      rw [f1, if_pos rfl]
      refine ⟨rfl, ⟨{ m with OA := A', oc := c', L := m.L ++ [x] }, rfl, h3.app ⟨v.g.tx.length, 0, v.fl, at_, o⟩ x hm4 hown4 hmv4 hm46 hx3 hsg rfl rfl rfl ?_, ?_, hmv4.back hE13.size, Moved.refl _ _⟩⟩
      · have e : (v.g.sg ++ [(⟨v.g.tx.length, 0, v.fl, at_, o⟩ : Sg)]).length = v.g.sg.length + 1 := by simp
        show Blk w6 p.r 88 [.slice p.NA p.nn p.nc, .slice p.FA p.nf p.cf, .map (some p.nq), .map (some p.q), .int .i64 v.d, m.pa, .slice m.BA v.g.tx.length m.bc, .slice A' (v.g.sg ++ [(⟨v.g.tx.length, 0, v.fl, at_, o⟩ : Sg)]).length c', .bool false, .int .i64 v.fl, .int .i64 v.ln]
        rw [e]; exact hB6
      · exact ((Mod.of_ext (RS p m) hE13).trans hm4 (fun i hi => .inl (.inr (.inr (.inl hi))))).trans hm46 (fun i hi => .inl (.inl hi))
    · have f1 : v.g.fr = false := f1
      have e : ({ v with g := ⟨v.g.tx, if v.g.fr then v.g.sg ++ [⟨v.g.tx.length, 0, v.fl, at_, o⟩] else v.g.sg, false⟩ } : RV) = v := by
        obtain ⟨d, fl, ln, rd, ⟨tx, sg, fr⟩⟩ := v
        simp only at f1
        subst f1
        rfl
      rw [e]
      exact ⟨rfl, m, rfl, h1, Mod.refl _ _, Moved.refl _ _, Moved.refl _ _⟩
  rintro w2 ⟨m2, hT2, h2, hm2, hv2, hu2⟩
  generalize hsg2 : (if v.g.fr then v.g.sg ++ [(⟨v.g.tx.length, 0, v.fl, at_, o⟩ : Sg)] else v.g.sg) = sg2 at *
  have hne : sg2 ≠ [] := (h2.nf rfl).resolve_right hrdn
  have hl2 := h2.sl
  simp only at hl2
  obtain ⟨l', s0, L', x0, e1, e2, e3⟩ := last_split (l := sg2) h2.len hne
  have hn0 : 0 < sg2.length := List.length_pos_iff.2 hne
  obtain ⟨oa, hoa, _⟩ := h2.out.sl.at_ hn0
  have hoa : m2.OA = some oa := hoa
  have hlies : LiesO 88 (rdC p m2 { v with g := ⟨v.g.tx, sg2, false⟩ }).length 5 := by rw [show (rdC p m2 { v with g := ⟨v.g.tx, sg2, false⟩ }).length = 11 from rfl]; exact liesR
  refine call (writeStringO_fn base p.r 88 5 m2.pa (rdC p m2 { v with g := ⟨v.g.tx, sg2, false⟩ }) m2.BA m2.bc v.g.tx (strOf s) w2 hlies (show 6 < 11 by decide) h2.pa h2.blk rfl rfl h2.txt h2.rb h2.top (by rw [hss]; omega)) ?_
  rintro _ w3 ⟨B', b', hB3, ho3, hm3, hv3⟩
  rw [hss, bytesOf_strOf h8] at ho3
  rw [hss] at hB3
  have nrow2 := h2.nrow
  have hout3 : Own w3 base 45 6 m2.OA sg2.length m2.oc (sgV sg2 m2.L) := h2.out.mod hm3 (fun i hi hj => by
    rcases hj with rfl | hj
    · exact nrow2.1 hi
    · exact h2.out.apart h2.txt (by decide) hi hj)
  have hd := Ext.drew w3
  have hB3' := hB3.ext hd
  refine draw_tail gx_ok 16 (by kernel_rfl) ?_
  refine qload (v := .slice m2.OA sg2.length m2.oc) (fun w' hw' => by subst hw'; rw [hB3'.cell]; rfl) ?_
  refine qload (v := .slice m2.OA sg2.length m2.oc) (fun w' hw' => by subst hw'; rw [hB3'.cell]; rfl) ?_
  refine norm_i64_to ((sg2.length - 1 : Nat) : Int) (by omega) (by omega) ?_
  refine norm_i64_to ((v.g.tx.length + s.length : Nat) : Int) (by rw [hss]; omega) (by omega) ?_
  rw [hoa]
  refine index_n (j := sg2.length - 1) (by omega) ?_
  have hout4 := hout3.ext hd
  rw [hoa] at hout4
  have hle : sg2.length = l'.length + 1 := by rw [e1]; simp
  show Store _ ((oa.add ((sg2.length - 1) * 6)).add 1) _ _
  rw [add_add]
  refine store_ownN hout4 hn0 (by omega) (fun w4 hm4 hout5 => ?_)
  have hcell : (sgV sg2 m2.L).set ((sg2.length - 1) * 6 + 1) (.int .i64 ((v.g.tx.length + s.length : Nat) : Int)) = sgV (setTo (v.g.tx.length + s.length) sg2) m2.L := by
    have e : (l' ++ [s0]).length - 1 = l'.length := by simp
    rw [e1, e2, setTo_snoc, e, sgV_setTo e3]
  rw [hcell] at hout5
  have hsl2 : (setTo (v.g.tx.length + s.length) sg2).length = sg2.length := by rw [e1, setTo_snoc]; simp
  have hm34 : Mod (rowS m2.OA) w3 w4 := by rw [hoa]; exact (Mod.of_ext _ hd).trans hm4 (fun i hi => .inl hi)
  have hBrow : ∀ i, rowS B' i → ¬ rowS m2.OA i := fun i hi hj => hout3.apart ho3 (by decide) hj hi
  have hall : Mod (RS p m2) w2 w4 := (hm3.mono (S' := RS p m2) (fun i hi => by
      rcases hi with rfl | hi
      · exact .inl (.inl rfl)
      · exact .inl (.inr (.inr (.inr hi))))).trans hm34 (fun i hi => .inl (.inr (.inr (.inl hi))))
  have hz3 := hm3.size
  have hz4 := hm34.size
  have htop2 := h2.top
  refine ⟨_, hadd, { m2 with BA := B', bc := b', pa := .pointer (some (adr p.r 5)) }, hT2, ⟨hall.ext h2.e0 h2.lo, h2.lor, h2.loq, h2.rb, h2.qb, h2.ne, by omega, .inr rfl, ?_, ?_, ?_, ?_, ?_, ?_, ?_, ?_, ?_, fun _ => ?_, fun i hi => Nat.lt_of_lt_of_le (h2.tt i hi) (by omega)⟩, ?_, ?_, ?_⟩
  all_goals try simp only
  · have e : (v.g.tx ++ s).length = v.g.tx.length + s.length := by simp
    show Blk w4 p.r 88 [.slice p.NA p.nn p.nc, .slice p.FA p.nf p.cf, .map (some p.nq), .map (some p.q), .int .i64 v.d, .pointer (some (adr p.r 5)), .slice B' (v.g.tx ++ s).length b', .slice m2.OA (setTo (v.g.tx.length + s.length) sg2).length m2.oc, .bool false, .int .i64 v.fl, .int .i64 v.ln]
    rw [e, hsl2]
    exact hB3.mod hm34 nrow2.1
  · rw [List.length_append]; exact ho3.mod hm34 hBrow
  · rw [hsl2]; rw [← hoa] at hout5; exact hout5
  · rw [hsl2]; exact h2.len
  · intro j s1 x1 hs1 hx1
    have hrs := TS.moved (p := p) (m := m2) (m' := { m2 with BA := B', bc := b', pa := .pointer (some (adr p.r 5)) }) rfl (Moved.refl w2 m2.OA) hv3
    have key : ∃ s2, sg2[j]? = some s2 ∧ s2.o = s1.o := by
      rw [e1, setTo_snoc] at hs1
      rw [e1]
      rcases app_cases hs1 with ⟨hj, hs1⟩ | ⟨hj, hs1⟩
      · exact ⟨s1, by rw [List.getElem?_append_left hj]; exact hs1, rfl⟩
      · obtain ⟨h0, rfl⟩ := one_cases hs1
        exact ⟨s0, by rw [List.getElem?_append_right hj, h0]; rfl, rfl⟩
    obtain ⟨s2, hs2, hse⟩ := key
    rw [← hse]
    exact (h2.dgs j s2 x1 hs2 hx1).step (hall.mono (fun i hi => .inl (.inl hi))) hrs
  · obtain ⟨mp, k1, k2⟩ := h2.rdm
    refine ⟨mp, (k1.mod hm3 (fun hj => ?_)).mod hm34 (k1.apart h2.out), k2⟩
    rcases hj with e | hj
    · exact h2.ne e.symm
    · exact k1.apart h2.txt hj
  · rw [List.length_append]; omega
  · rw [hsl2]; exact hl2
  · exact b8_app h.b8 h8
  · exact .inl (by rw [← List.length_pos_iff, hsl2]; exact hn0)
  · exact (((Mod.of_ext (RS p m) hE1).trans hm2 (fun i hi => .inl hi)).trans hall (fun i hi => by
      rcases RS.moved (p := p) hv2 hu2 i hi with hh | hh
      · exact .inl hh
      · exact .inr (by have := hE1.size; omega)))
  · exact hv2.back hE1.size
  · exact (hu2.trans hv3 hm2.size).back hE1.size
end
end

section
open Go Go.RowKit

theorem Rr.modT {w0 w w' : World} {base : Nat} {p : RP} {m : RM} {v : RV} {U T' : Nat → Prop} (h : Rr w0 w base p m v) (hm : Mod U w w') (hU : ∀ i, U i → m.T i) (hoff : ∀ i, U i → ¬ RS p m i) (hlo : ∀ i, U i → w0.heap.size ≤ i) (hT : ∀ i, T' i → m.T i ∨ w.heap.size ≤ i) (hlt : ∀ i, T' i → i < w'.heap.size) :
    Rr w0 w' base p { m with T := T' } v :=
  ⟨hm.ext h.e0 hlo, h.lor, h.loq, h.rb, h.qb, h.ne, Nat.le_trans h.top hm.size, h.pa, h.blk.mod hm (fun hu => hoff _ hu (.inl rfl)), h.txt.mod hm (fun i hi hu => hoff _ hu (.inr (.inr (.inr hi)))), h.out.mod hm (fun i hi hu => hoff _ hu (.inr (.inr (.inl hi)))), h.len,
    fun j s x h1 h2 => (h.dgs j s x h1 h2).step (hm.mono (fun i hi => .inl (.inr (hU i hi)))) (fun i hi => hi.elim (fun hr => .inl (.inl hr)) (fun ht => (hT i ht).elim (fun h => .inl (.inr h)) .inr)),
    let ⟨mp, h1, h2⟩ := h.rdm; ⟨mp, h1.mod hm (fun hu => hoff _ hu (.inr (.inl rfl))), h2⟩, h.tl, h.sl, h.b8, h.nf, hlt⟩

theorem putL_take {j m : Nat} {vs l : List Value} (h : j + vs.length ≤ m) (hm : m ≤ l.length) : (putL j vs l).take m = putL j vs (l.take m) := by
  have hx : (l.take m).length = m := by rw [List.length_take]; omega
  rw [putL_spec j vs l (by omega), putL_spec j vs (l.take m) (by omega)]
  rw [List.take_append, List.take_append, List.length_append, List.length_take]
  rw [List.take_take, List.take_of_length_le (l := vs) (by omega), List.take_take]
  rw [show min m j = j by omega, show min j m = j by omega, List.drop_take]
  congr 2
  omega
theorem storeN_ownN {P : Program} {w : World} {base e sz n c j : Nat} {a : Addr} {xs vs : List Value} {K : World → Prop} (h : Own w base e sz (some a) n c xs) (hj : j + vs.length ≤ n * sz) (hsc : ∀ u ∈ vs, scalar u = true)
    (k : ∀ w1, Mod (rowS (some a)) w w1 → Own w1 base e sz (some a) n c (putL j vs xs) → K w1) : StoreN P w (a.add j) vs K := by
  have hr := h.row
  have hlen := hr.1
  rcases hr.2 with ⟨hv, _⟩ | ⟨g, cap, cur, hv, hb, hg, hnc, hcm, hcs, htake⟩
  · cases hv
  · cases hv
    have hB : Blk w g e cur.toList := by unfold Blk; rw [hg]
    have hcl : cur.toList.length = c * sz := by simpa using hcs
    have h2 : n * sz ≤ c * sz := Nat.mul_le_mul_right _ hnc
    refine storeN_blk hB (by omega) hsc (fun w1 hm _ hB1 => k w1 (Mod.of_grown hm ⟨_, rfl, rfl⟩) ⟨⟨by rw [putL_length _ _ _ (by omega)]; exact hlen, .inr ⟨g, c, (putL j vs cur.toList).toArray, rfl, hb, hB1, hnc, hcm, ?_, ?_⟩⟩⟩)
    · have := putL_length j vs cur.toList (by omega)
      simp only [List.size_toArray]; omega
    · have ht : cur.toList.take (n * sz) = xs := htake
      show ((putL j vs cur.toList).toArray.toList).take (n * sz) = _
      rw [← ht, ← putL_take hj (by omega)]
theorem load_own {w : World} {base e sz n c o i : Nat} {a : Addr} {xs : List Value} {u : Value} {K : Value → Prop} (h : Own w base e sz (some a) n c xs) (hn : 0 < n) (hv : xs[o + i]? = some u) (k : K u) : Load w ((a.add o).add i) K := by
  obtain ⟨ad, e1, hc⟩ := h.sl.at_ hn
  cases e1
  exact load (by rw [add_add]; exact hc _ _ hv) k
theorem cell_own {w : World} {base e sz n c o i : Nat} {a : Addr} {xs : List Value} {u : Value} (h : Own w base e sz (some a) n c xs) (hn : 0 < n) (hv : xs[o + i]? = some u) : w.cell? ((a.add o).add i) = some u := by
  obtain ⟨ad, e1, hc⟩ := h.sl.at_ hn
  cases e1
  rw [add_add]; exact hc _ _ hv

/-! ### Sections -/
structure SeV where
  s : Se
  x : DV
  y : DV
def SeV.cells (z : SeV) : List Value := [.slice z.x.A z.x.n z.x.c, .int .i64 z.x.r, .slice z.y.A z.y.n z.y.c, .int .i64 z.y.r, .bool z.s.ot, .int .i64 z.s.ln]
theorem sev_len (z : SeV) : z.cells.length = 6 := rfl
theorem sev_scalar (z : SeV) : ∀ u ∈ z.cells, scalar u = true := sc rfl
abbrev seT : TypeId := 135
theorem pre_get {pre : List Value} {z : SeV} {i : Nat} {u : Value} (h : z.cells[i]? = some u) : (pre ++ z.cells)[pre.length + i]? = some u := by rw [List.getElem?_append_right (by omega)]; rw [show pre.length + i - pre.length = i by omega]; exact h
theorem pre_set {pre : List Value} {z : SeV} {i : Nat} {u : Value} : (pre ++ z.cells).set (pre.length + i) u = pre ++ z.cells.set i u := by rw [List.set_append_right _ _ (by omega)]; rw [show pre.length + i - pre.length = i by omega]
theorem pre_putL (vs : List Value) (i : Nat) (z : List Value) : ∀ (pre : List Value), putL (pre.length + i) vs (pre ++ z) = pre ++ putL i vs z
  | [] => by simp
  | a :: pre => by
    rw [List.length_cons, show pre.length + 1 + i = (pre.length + i) + 1 by omega]
    show a :: putL (pre.length + i) vs (pre ++ z) = _
    rw [pre_putL vs i z pre]; rfl

section
variable {w0 : World} {base : Nat} {p : RP}
/-- What a further branch of a section is. -/
def BrOk (w : World) (k : Nat) (nm : List (List Nat)) (base n c : Nat) (a : Addr) (pre : List Value) (z : SeV) (other : Bool) (s : List Nat) (u : Value) (w' : World) : Prop :=
  z.s.ot = false ∧ Mod (rowS (some a)) w w' ∧ if other then u = dgV z.y.A z.y.n z.y.c z.y.r ∧ Own w' base seT 6 (some a) n c (pre ++ (⟨{ z.s with ot := true }, z.x, z.y⟩ : SeV).cells)
    else ∃ (o : BF) (b d : DV), setE nm s = .ok o ∧ u = dgV b.A b.n b.c b.r ∧ SB w' b.A b.n b.c b.nd ∧ Set1 k b.nd b.r (bAnd z.s.re o) ∧ (∀ i, rowS b.A i → w.heap.size ≤ i) ∧ SB w' d.A d.n d.c d.nd ∧ Set1 k d.nd d.r (bSub z.s.re o) ∧ (∀ i, rowS d.A i → w.heap.size ≤ i) ∧
      Own w' base seT 6 (some a) n c (pre ++ (⟨{ z.s with re := bSub z.s.re o }, z.x, d⟩ : SeV).cells)

theorem branch_fn (m : RM) (v : RV) (a : Addr) (n c : Nat) (pre : List Value) (z : SeV) (other : Bool) (s : List Nat) (w : World) (hP : RPok w0 p) (h : Rr w0 w base p m v) (ho : Own w base seT 6 (some a) n c (pre ++ z.cells)) (hT : ∀ i, rowS (some a) i → m.T i) (hpre : pre.length + 6 = n * 6)
    (hy : DgO w (TS p m) p.nm.length z.y z.s.re) (h8 : ∀ x ∈ s, x < 256) (hl : s.length ≤ 1000000000000) (hb0 : w0.heap.size ≤ base) :
    FnP Tryz.prog 79 [.pointer (some ⟨p.r, 0, none⟩), .pointer (some (a.add pre.length)), .bool other, .string (strOf s)] w (BrOk w p.nm.length p.nm base n c a pre z other s)
      (fun ch w' => ∃ e, (z.s.ot = true ∧ e = 71 ∨ z.s.ot = false ∧ other = false ∧ setE p.nm s = .error e) ∧ ch = failPan e v.fl v.ln ∧ Mod (rowS (some a)) w w') := by
  have hn0 : 0 < n := by omega
  have hra : rowS (some a) a.block := ⟨a, rfl, rfl⟩
  have hoff : ∀ i, rowS (some a) i → ¬ RS p m i := fun i hi hr => by
    have hb := (ho.rows i hi).1
    have := h.rb; have := h.qb
    rcases hr with rfl | rfl | hr | hr
    · omega
    · omega
    · exact ho.apart h.out (by decide) hi hr
    · exact ho.apart h.txt (by decide) hi hr
  have hlo : ∀ i, rowS (some a) i → w0.heap.size ≤ i := fun i hi => by have := (ho.rows i hi).1; omega
  refine fnP_of_exec (c := { c79 with cuts := [] }) gx_ok Tryz.func79 rfl rfl rfl ?_
  refine new (fun w1 hE1 hz1 hB1 => ?_)
  have ho1 := ho.ext hE1
  have h1 := h.ext hE1
  refine load_own ho1 hn0 (pre_get (i := 4) (u := .bool z.s.ot) rfl) ?_
  refine wif (fun ht => ?_) (fun ht => ?_)
  · refine callP (fail_fn 71 w1 h1) (fun _ _ hf => hf.elim) ?_
    rintro ch w2 ⟨rfl, hE2⟩
    exact ⟨71, .inl ⟨ht, rfl⟩, rfl, Mod.of_ext _ (hE1.trans hE2)⟩
  have ht : z.s.ot = false := ht
  have yget : ∀ (i : Nat) (u : Value), z.y.cells[i]? = some u → z.cells[2 + i]? = some u := fun i u hi => match i, hi with
    | 0, hi => hi
    | 1, hi => hi
    | _ + 2, hi => nomatch hi
  refine loadN_at (vs := z.y.cells) rfl (fun i u hi => ?_) ?_
  · show w1.cell? (((a.add pre.length).add 2).add i) = some u
    rw [add_add]
    exact cell_own ho1 hn0 (pre_get (yget i u hi))
  refine new (fun w2 hE2 hz2 hB2 => ?_)
  have ho2 := ho1.ext hE2
  have h2 := h1.ext hE2
  refine storeN_blk0 hB2 rfl (sc rfl) (fun w3 hg3 hz3 hB3 => ?_)
  have hE13 : Ext w1 w3 := newBox hE2 hB2 hg3
  have ho3 := ho1.ext hE13
  have h3 := h1.ext hE13
  show Store w3 ((a.add pre.length).add 4) _ _
  rw [add_add]
  refine store_ownN ho3 hn0 (by omega) (fun w4 hm4 ho4 => ?_)
  rw [pre_set] at ho4
  have ho4 : Own w4 base seT 6 (some a) n c (pre ++ (⟨{ z.s with ot := other }, z.x, z.y⟩ : SeV).cells) := ho4
  have hE03 := hE1.trans hE13
  have hm04 : Mod (rowS (some a)) w w4 := (Mod.of_ext _ hE03).trans hm4 (fun i hi => .inl hi)
  have h4 : Rr w0 w4 base p m v := h3.modT hm4 hT hoff hlo (fun i hi => .inl hi) (fun i hi => Nat.lt_of_lt_of_le (h3.tt i hi) hm4.size)
  have nb1 : ¬ rowS (some a) w.heap.size := fun hi => by have := (ho.rows _ hi).2; omega
  have nb2 : ¬ rowS (some a) w1.heap.size := fun hi => by have := (ho.rows _ hi).2; omega
  have hz13 := hE13.size
  have hB14 := (hB1.ext hE13).mod hm4 nb1
  have hB34 := hB3.mod hm4 nb2
  have hz4 := hm4.size
  cases other with
  | true =>
    refine wif_f rfl ?_
    refine loadN_blk0 hB34 rfl ?_
    refine storeN_blk0 hB14 rfl (sc rfl) (fun w5 hg5 _ hB5 => ?_)
    have hM5 : Mod (· = w.heap.size) w4 w5 := Mod.of_grown hg5 rfl
    refine loadN_blk0 hB5 rfl ?_
    exact ⟨ht, hm04.trans hM5 (fun i hi => .inr (by omega)), rfl, ho4.mod hM5 (fun i hi e => by subst e; exact nb1 hi)⟩
  | false =>
    refine wif_t rfl ?_
    have hzz : z.cells = (⟨{ z.s with ot := false }, z.x, z.y⟩ : SeV).cells := by
      obtain ⟨⟨ou, re, ot, ln⟩, x, y⟩ := z
      simp only at ht
      subst ht
      rfl
    have hoC : ∀ w', Mod (· = w1.heap.size) w4 w' → Own w' base seT 6 (some a) n c (pre ++ z.cells) := fun w' hw' => by
      rw [hzz]; exact ho4.mod hw' (fun i hi e => by subst e; exact nb2 hi)
    refine draw_planP gx_ok (fun ch w' => ∃ e, (z.s.ot = true ∧ e = 71 ∨ z.s.ot = false ∧ false = false ∧ setE p.nm s = .error e) ∧ ch = failPan e v.fl v.ln ∧ Mod (rowS (some a)) w w') (fun ch S w' hp => hp) (Mod (· = w1.heap.size) w4) 14 [(true, 0), (true, 1), (true, 2), (true, 3), (true, 4), (true, 5), (true, 6), (true, 7), (false, 8), (false, 9), (true, 10), (true, 11), (true, 12), (false, 13)] (by kernel_rfl) (Mod.of_ext _ (Ext.drew w4)) ?_
    refine qloadN (vs := z.y.cells) rfl (fun w' hw' i u hi => ?_) ?_
    · show w'.cell? (((a.add pre.length).add 2).add i) = some u
      rw [add_add]
      exact cell_own (hoC w' hw') hn0 (pre_get (yget i u hi))
    have hd := Ext.drew w4
    refine callP (set_fn s w4.drew hP (h4.ext hd) h8 hl) ?_ ?_
    rotate_left
    · rintro ch w5 ⟨e, he, rfl, hE5⟩
      exact ⟨e, .inr ⟨ht, rfl, he⟩, rfl, hm04.trans (Mod.of_ext _ (hd.trans hE5)) (fun i hi => .inl hi)⟩
    rintro _ w5 ⟨o, he, t, rfl, hE5, ht5, hts, htr⟩
    have hE45 := hd.trans hE5
    have hy4 : SB w4 z.y.A z.y.n z.y.c z.y.nd := SB.modo (hy.sb.ext hE03) hm4 (fun ad e h0 hi => hy.off ad e h0 (.inr (hT _ hi)))
    refine ⟨Mod.of_ext _ hE45, ?_⟩
    refine call (split_fn p.nm.length hP.nmk z.y t z.s.re o w5 (hy4.ext hE45) hy.st ht5 hts) ?_
    rintro _ w6 ⟨b, d, rfl, hE6, hb6, hbs, hbr, hd6, hds, hdr⟩
    have hE46 := hE45.trans hE6
    have hz46 := hE46.size
    have hz45 := hE45.size
    refine ⟨Mod.of_ext _ hE46, ?_⟩
    refine storeN_blk0 (hB34.ext hE46) rfl (sc rfl) (fun w7 hg7 _ hB7 => ?_)
    have hM7 : Mod (· = w1.heap.size) w6 w7 := Mod.of_grown hg7 rfl
    have hM47 : Mod (· = w1.heap.size) w4 w7 := (Mod.of_ext _ hE46).trans hM7 (fun i hi => .inl hi)
    refine ⟨hM47, ?_⟩
    have ho7 := hoC w7 hM47
    show StoreN _ w7 ((a.add pre.length).add 2) _ _
    rw [add_add]
    refine storeN_ownN ho7 (by show pre.length + 2 + 2 ≤ _; omega) (sc rfl) (fun w8 hm8 ho8 => ?_)
    rw [pre_putL] at ho8
    have ho8 : Own w8 base seT 6 (some a) n c (pre ++ (⟨{ z.s with re := bSub z.s.re o }, z.x, d⟩ : SeV).cells) := ho8
    have hB78 := hB7.mod hm8 nb2
    refine loadN_blk0 hB78 rfl ?_
    have hB18 := ((hB14.ext hE46).mod hM7 (by show ¬ w.heap.size = w1.heap.size; omega)).mod hm8 nb1
    refine storeN_blk0 hB18 rfl (sc rfl) (fun w9 hg9 _ hB9 => ?_)
    have hM9 : Mod (· = w.heap.size) w8 w9 := Mod.of_grown hg9 rfl
    refine loadN_blk0 hB9 rfl ?_
    have hz04 := hm04.size
    have keep : ∀ x : DV, (∀ i, rowS x.A i → w5.heap.size ≤ i) → SB w6 x.A x.n x.c x.nd → SB w9 x.A x.n x.c x.nd := fun x hr hx =>
      SB.mod (SB.mod (SB.mod hx hM7 (fun i hi e => by have := hr i hi; omega)) hm8 (fun i hi hj => by have := hr i hi; have := (ho.rows i hj).2; omega)) hM9 (fun i hi e => by have := hr i hi; omega)
    have hall : Mod (rowS (some a)) w w9 := ((hm04.trans hM47 (fun i hi => .inr (by omega))).trans hm8 (fun i hi => .inl hi)).trans hM9 (fun i hi => .inr (by omega))
    refine ⟨ht, hall, o, b, d, he, rfl, keep b hbr hb6, hbs, fun i hi => by have := hbr i hi; omega, keep d hdr hd6, hds, fun i hi => by have := hdr i hi; omega, ho8.mod hM9 (fun i hi e => by subst e; exact nb1 hi)⟩
end
end
end
end Go.Proofs.YtedopgkbajhanaaGreatDoor

namespace Go.Proofs.YtedopgkbajhanaaGreatDoor
section
section
open Go Go.RowKit

theorem scut2_fn (l : List Nat) (w : World) (hl : ∀ x ∈ l, x < 256) (hlen : l.length ≤ 1000000000000) :
    Fn Tryz.prog 73 [.string (strOf l), .string (strOf [32])] w (fun v w' => v = .tuple #[.string (strOf (cutH l)), .string (strOf (if 32 ∈ l then cutR l else [])), .bool (decide (32 ∈ l))] ∧ Ext w w') :=
  (scut_fn l w hl hlen).mono fun v w' h => by
    obtain ⟨h1, h2⟩ := h
    refine ⟨?_, h2⟩
    rw [h1]
    by_cases hm : 32 ∈ l
    · rw [if_pos hm, if_pos hm, decide_eq_true hm]
    · rw [if_neg hm, if_neg hm, decide_eq_false hm, cutH_no hm]

section
variable {nm : List (List Nat)} {fl d0 : Nat} {inc : List Nat → Nat → Nat → BF → Gs → Except Pl Gs} {s : List Nat} {ls : List (List Nat)} {ln at_ : Nat} {k : BF} {op : List Se} {g : Gs} {r : List Nat}
theorem rdL_ifd (h : dirOf s = .ifd r) : rdL nm fl d0 inc (s :: ls) ln at_ k op g = match setE nm r with
      | .error e => .error ⟨e, fl, ((ln + 1 : Nat) : Int)⟩
      | .ok d => if d0 + op.length = 64 then .error ⟨2, fl, ((ln + 1 : Nat) : Int)⟩ else rdL nm fl d0 inc ls (ln + 1) (at_ + s.length + 1) (bAnd k d) (⟨k, bSub k d, false, ln + 1⟩ :: op) { g with fr := true } := by
  rw [rdL.eq_def]; simp only [h]; rfl
theorem rdL_inc (h : dirOf s = .inc r) : rdL nm fl d0 inc (s :: ls) ln at_ k op g = match inc r (ln + 1) (d0 + op.length) k g with
      | .error p => .error p
      | .ok g' => rdL nm fl d0 inc ls (ln + 1) (at_ + s.length + 1) k op { g' with fr := true } := by
  rw [rdL.eq_def]; simp only [h]; rfl
theorem rdL_elif (h : dirOf s = .elif r) : rdL nm fl d0 inc (s :: ls) ln at_ k op g = match op with
      | [] => .error ⟨72, fl, ((ln + 1 : Nat) : Int)⟩
      | x :: op' => if x.ot then .error ⟨71, fl, ((ln + 1 : Nat) : Int)⟩ else match setE nm r with
        | .error e => .error ⟨e, fl, ((ln + 1 : Nat) : Int)⟩
        | .ok d => rdL nm fl d0 inc ls (ln + 1) (at_ + s.length + 1) (bAnd x.re d) ({ x with re := bSub x.re d } :: op') { g with fr := true } := by
  rw [rdL.eq_def]; simp only [h]; rfl
theorem rdL_els (h : dirOf s = .els) : rdL nm fl d0 inc (s :: ls) ln at_ k op g = match op with
      | [] => .error ⟨72, fl, ((ln + 1 : Nat) : Int)⟩
      | x :: op' => if x.ot then .error ⟨71, fl, ((ln + 1 : Nat) : Int)⟩ else rdL nm fl d0 inc ls (ln + 1) (at_ + s.length + 1) x.re ({ x with ot := true } :: op') { g with fr := true } := by
  rw [rdL.eq_def]; simp only [h]; rfl
theorem rdL_en (h : dirOf s = .en) : rdL nm fl d0 inc (s :: ls) ln at_ k op g = match op with
      | [] => .error ⟨72, fl, ((ln + 1 : Nat) : Int)⟩
      | x :: op' => rdL nm fl d0 inc ls (ln + 1) (at_ + s.length + 1) x.ou op' { g with fr := true } := by
  rw [rdL.eq_def]; simp only [h]; rfl
theorem rdL_txt (h : dirOf s = .txt) : rdL nm fl d0 inc (s :: ls) ln at_ k op g = match addG (s ++ [10]) fl at_ k g with
      | none => .error ⟨2, fl, ((ln + 1 : Nat) : Int)⟩
      | some g' => rdL nm fl d0 inc ls (ln + 1) (at_ + s.length + 1) k op g' := by
  rw [rdL.eq_def]; simp only [h]; rfl
end
theorem Own.take {w : World} {base e sz n c k : Nat} {A : Option Addr} {cs : List Value} (h : Own w base e sz A n c cs) (hk : k ≤ n) : Own w base e sz A k c (cs.take (k * sz)) := by
  have hr := h.row
  have hl := hr.1
  have hkn : k * sz ≤ n * sz := Nat.mul_le_mul_right _ hk
  refine ⟨⟨by rw [List.length_take]; omega, ?_⟩⟩
  rcases hr.2 with ⟨hv, hx⟩ | ⟨g, cap, cur, hv, hb, hg, hnc, hcm, hcs, htake⟩
  · cases hv
    obtain rfl : k = 0 := by omega
    exact .inl ⟨rfl, by simp⟩
  · cases hv
    refine .inr ⟨g, c, cur, rfl, hb, hg, by omega, hcm, hcs, ?_⟩
    have ht : cur.toList.take (n * sz) = cs := htake
    rw [← ht, List.take_take, Nat.min_eq_left hkn]
theorem incE_ok {ix : List Nat → Option Nat} {rd s : List Nat} {n : Nat} (h : incE ix rd s = .ok n) : n ∉ rd ∧ ∃ t, ix t = some n := by
  unfold incE at h
  split at h
  · cases h
  split at h
  · cases h
  · rename_i m hm
    split at h
    · cases h
    · rename_i hn; cases h; exact ⟨hn, _, hm⟩
/-- The state at the head of a line. -/
structure LS where
  k : DV
  o : BF
  z : List SeV
  m : RM
  g : Gs
  ln : Nat
  at_ : Nat
  ls : List (List Nat)
  A : Option Addr
  c : Nat
def seV (z : List SeV) : List Value := z.flatMap SeV.cells
theorem seV_len (z : List SeV) : (seV z).length = z.length * 6 := flat_length sev_len z
theorem seV_snoc (z : List SeV) (x : SeV) : seV (z ++ [x]) = seV z ++ x.cells := by simp [seV]
/-- What a file's reading writes. -/
def WrS (p : RP) (m : RM) (A : Option Addr) (bk : Nat) : Nat → Prop := fun i => RS p m i ∨ rowS A i ∨ i = bk
abbrev IncF := List Nat → Nat → Nat → BF → Gs → Except Pl Gs
structure FrI (w0 w : World) (base : Nat) (p : RP) (m : RM) (v : RV) (n bk : Nat) (text : List Nat) (inc : IncF) (res : Except Pl Gs) (s : LS) (w' : World) : Prop where
  rr : Rr w0 w' base p s.m ⟨v.d + s.z.length, n, s.ln, n :: v.rd, s.g⟩
  tt : s.m.T = fun i => m.T i ∨ rowS s.A i ∨ i = bk
  kb : Blk w' bk 42 s.k.cells
  kd : DgO w' (TS p s.m) p.nm.length s.k s.o
  ow : Own w' base seT 6 s.A s.z.length s.c (seV s.z)
  zx : ∀ z ∈ s.z, DgO w' (TS p s.m) p.nm.length z.x z.s.ou
  zy : ∀ z ∈ s.z, DgO w' (TS p s.m) p.nm.length z.y z.s.re
  dr : text.drop s.at_ = unl s.ls
  al : s.at_ + (unl s.ls).length = text.length
  li : Lines s.ls
  rs : rdL p.nm n v.d inc s.ls s.ln s.at_ s.o (s.z.reverse.map (·.s)) s.g = res
  mw : Mod (RS p m) w w'
  ma : Moved w m.OA s.m.OA
  mb : Moved w m.BA s.m.BA
  nw : ∀ i, rowS s.A i → w.heap.size ≤ i
  dl : v.d + s.z.length ≤ 64
  lb : s.ln + s.ls.length ≤ 1048576
section
variable {w0 w w' w'' : World} {base : Nat} {p : RP} {m : RM} {v : RV} {n bk : Nat} {text : List Nat} {inc : IncF} {res : Except Pl Gs} {s s' : LS}

theorem FrI.sub (h : FrI w0 w base p m v n bk text inc res s w') : ∀ i, WrS p s.m s.A bk i → TS p s.m i := fun i hi => by
  rcases hi with hi | hi | hi
  · exact .inl hi
  · exact .inr (by rw [h.tt]; exact .inr (.inl hi))
  · exact .inr (by rw [h.tt]; exact .inr (.inr hi))
/-- A set that stayed. -/
theorem FrI.kp (h : FrI w0 w base p m v n bk text inc res s w') (hm : Mod (WrS p s.m s.A bk) w' w'') (tt : s'.m.T = fun i => m.T i ∨ rowS s'.A i ∨ i = bk) (hA : Moved w' s.A s'.A) (hO : Moved w' s.m.OA s'.m.OA) (hB : Moved w' s.m.BA s'.m.BA) {x : DV} {o : BF} (hx : DgO w' (TS p s.m) p.nm.length x o) : DgO w'' (TS p s'.m) p.nm.length x o :=
  hx.step (hm.mono (fun i hi => .inl (h.sub i hi))) (fun i hi => by
    rcases hi with hi | hi
    · rcases RS.moved (p := p) hO hB i hi with h1 | h1
      · exact .inl (.inl h1)
      · exact .inr h1
    · rw [tt] at hi
      rcases hi with hi | hi | hi
      · exact .inl (.inr (by rw [h.tt]; exact .inl hi))
      · rcases hA.rows i hi with h1 | h1
        · exact .inl (.inr (by rw [h.tt]; exact .inr (.inl h1)))
        · exact .inr h1
      · exact .inl (.inr (by rw [h.tt]; exact .inr (.inr hi))))
theorem FrI.mw' (h : FrI w0 w base p m v n bk text inc res s w') (hbk : w.heap.size ≤ bk) (hm : Mod (WrS p s.m s.A bk) w' w'') : Mod (RS p m) w w'' :=
  h.mw.trans hm (fun i hi => by
    rcases hi with hi | hi | hi
    · exact RS.moved (p := p) h.ma h.mb i hi
    · exact .inr (h.nw i hi)
    · exact .inr (by omega))
theorem FrI.go (h : FrI w0 w base p m v n bk text inc res s w') (hbk : w.heap.size ≤ bk) (hm : Mod (WrS p s.m s.A bk) w' w'') (rr : Rr w0 w'' base p s'.m ⟨v.d + s'.z.length, n, s'.ln, n :: v.rd, s'.g⟩) (tt : s'.m.T = fun i => m.T i ∨ rowS s'.A i ∨ i = bk) (hA : Moved w' s.A s'.A) (hO : Moved w' s.m.OA s'.m.OA) (hB : Moved w' s.m.BA s'.m.BA)
    (kb : Blk w'' bk 42 s'.k.cells) (kd : DgO w'' (TS p s'.m) p.nm.length s'.k s'.o) (ow : Own w'' base seT 6 s'.A s'.z.length s'.c (seV s'.z)) (zx : ∀ z ∈ s'.z, DgO w'' (TS p s'.m) p.nm.length z.x z.s.ou) (zy : ∀ z ∈ s'.z, DgO w'' (TS p s'.m) p.nm.length z.y z.s.re)
    {l : List Nat} (hls : s.ls = l :: s'.ls) (hat : s'.at_ = s.at_ + l.length + 1) (rs : rdL p.nm n v.d inc s'.ls s'.ln s'.at_ s'.o (s'.z.reverse.map (·.s)) s'.g = res) (dl : v.d + s'.z.length ≤ 64) (hln : s'.ln = s.ln + 1) : FrI w0 w base p m v n bk text inc res s' w'' := by
  have hdr := h.dr
  have hal := h.al
  have hlb := h.lb
  have hli := h.li
  rw [hls, unl_cons] at hdr hal
  rw [hls] at hlb hli
  have hz := h.mw.size
  refine ⟨rr, tt, kb, kd, ow, zx, zy, ?_, ?_, fun t ht => hli t (by simp [ht]), rs, h.mw' hbk hm, h.ma.trans hO hz, h.mb.trans hB hz, fun i hi => ?_, dl, ?_⟩
  · rw [hat, show s.at_ + l.length + 1 = s.at_ + (l.length + 1) by omega, ← List.drop_drop, hdr, ← List.drop_drop, List.drop_left' rfl]; rfl
  · rw [hat]; simp only [List.length_append, List.length_cons] at hal; omega
  · rcases hA.rows i hi with h1 | h1
    · exact h.nw i h1
    · omega
  · rw [hln]; simp only [List.length_cons] at hlb; omega
theorem FrI.line (h : FrI w0 w base p m v n bk text inc res s w') (ht : text.length ≤ 1048576) {l : List Nat} {ls : List (List Nat)} (hls : s.ls = l :: ls) : 10 ∉ l ∧ s.at_ + l.length + 1 ≤ text.length ∧ text.drop s.at_ = l ++ 10 :: unl ls ∧ (text.drop s.at_).take l.length = l ∧ (text.drop s.at_).take (l.length + 1) = l ++ [10] := by
  have hdr := h.dr
  have hal := h.al
  have hli := h.li
  have _ := ht
  rw [hls, unl_cons] at hdr hal
  rw [hls] at hli
  simp only [List.length_append, List.length_cons] at hal
  refine ⟨hli l (by simp), by omega, hdr, by rw [hdr]; exact List.take_left' rfl, ?_⟩
  rw [hdr, show l ++ 10 :: unl ls = (l ++ [10]) ++ unl ls by simp]
  exact List.take_left' (by simp)
/-- Fields of the reader and the files that are being read are written. -/
theorem Rr.putq (h : Rr w0 w base p m v) {v' : RV} (hm : Mod (fun i => i = p.r ∨ i = p.q) w w') (hB : Blk w' p.r 88 (rdC p m v')) (h1 : v'.g.tx = v.g.tx) (h2 : v'.g.sg = v.g.sg) (h4 : v'.g.fr = false → v'.g.sg ≠ [] ∨ v'.rd = [])
    (hq : ∃ mp, MapAt intK w' p.q mp ∧ (mp.map (·.1)).Nodup ∧ ∀ n : Nat, assoc (n : Int) mp = if n ∈ v'.rd then some (.bool true) else none) : Rr w0 w' base p m v' := by
  have hE := hm.ext h.e0 (fun i hi => by rcases hi with rfl | rfl; exact h.lor; exact h.loq)
  have hb1 := h.rb; have hb2 := h.qb
  refine ⟨hE, h.lor, h.loq, h.rb, h.qb, h.ne, Nat.le_trans h.top hm.size, h.pa, hB, ?_, ?_, by rw [h2]; exact h.len, fun j s x hs hx => ?_, hq, by rw [h1]; exact h.tl, by rw [h2]; exact h.sl, by rw [h1]; exact h.b8, h4, fun i hi => Nat.lt_of_lt_of_le (h.tt i hi) hm.size⟩
  · rw [h1]; exact h.txt.mod hm (fun i hi e => by have := (h.txt.rows i hi).1; rcases e with rfl | rfl <;> omega)
  · rw [h2]; exact h.out.mod hm (fun i hi e => by have := (h.out.rows i hi).1; rcases e with rfl | rfl <;> omega)
  · rw [h2] at hs; exact (h.dgs j s x hs hx).keep hm (fun i hi => .inl (.inl (hi.elim .inl (fun e => .inr (.inl e)))))
end
end

section
open Go Go.RowKit

/-- What an include reads. -/
def incF (p : RP) (f n : Nat) (rd : List Nat) : IncF := fun r ln d k g => match incE (ixN (p.fs.map (·.1))) (n :: rd) r with
  | .error e => .error ⟨e, n, ln⟩
  | .ok m => if d = 64 then .error ⟨2, n, ln⟩ else rdF p.nm p.fs f (n :: rd) (d + 1) m k g
def ReadC (w0 : World) (base : Nat) (p : RP) (f : Nat) : Prop := ∀ (m : RM) (v : RV) (n : Nat) (k : DV) (o : BF) (w : World), Rr w0 w base p m v → DgO w (TS p m) p.nm.length k o → n < p.fs.length → n ∉ v.rd → v.d ≤ 64 → 65 ≤ f + v.d →
  FnP Tryz.prog 46 [.pointer (some ⟨p.r, 0, none⟩), .int .i64 n, dgV k.A k.n k.c k.r] w (fun _ w' => ∃ g', rdF p.nm p.fs f v.rd v.d n o v.g = .ok g' ∧ GTo w0 w base p m { v with g := g' } w') (fun ch w' => ∃ q, rdF p.nm p.fs f v.rd v.d n o v.g = .error q ∧ ch = failPan q.e q.f q.l ∧ Mod (RS p m) w w')

set_option maxRecDepth 2000 in
set_option maxHeartbeats 1600000 in
theorem read_fn (w0 : World) (base : Nat) (p : RP) (hP : RPok w0 p) (hb0 : w0.heap.size ≤ base) : ∀ f, ReadC w0 base p f
  | 0 => fun m v n k o w h hk hn hr hd hf => absurd hf (by omega)
  | f + 1 => fun m v n k o w h hk hn hr hd hf => by
    have ih := read_fn w0 base p hP hb0 f
    have hx : p.fs[n]? = some p.fs[n] := List.getElem?_eq_getElem hn
    have hfok := hP.flb _ (List.getElem_mem hn)
    have hunf : rdF p.nm p.fs (f + 1) v.rd v.d n o v.g = rdL p.nm n v.d (incF p f n v.rd) (linesOf (p.fs[n].2)) 0 0 o [] { v.g with fr := true } := by
      rw [rdF, hx]; rfl
    generalize hres : rdF p.nm p.fs (f + 1) v.rd v.d n o v.g = res at *
    generalize htext : p.fs[n].2 = text at *
    have ht8 : ∀ x ∈ text, x < 256 := by rw [← htext]; exact hfok.t8
    have htl : text.length ≤ 1048576 := by rw [← htext]; exact hfok.tl
    have htok : unl (linesOf text) = text := unl_linesOf (by rw [← htext]; exact hfok.ok)
    have hfs := hP.fls.2
    refine fnP_of_exec (c := { c46 with cuts := [] }) gx_ok Tryz.func46 rfl rfl rfl ?_
    refine new (fun w1 hE1 hz1 hB1 => ?_)
    let m1 : RM := { m with T := fun i => m.T i ∨ rowS (none : Option Addr) i ∨ i = w.heap.size }
    have htt := h.tt
    have h1 : Rr w0 w1 base p m1 v := h.modT (U := fun _ => False) (Mod.of_ext _ hE1) (fun i hi => hi.elim) (fun i hi => hi.elim) (fun i hi => hi.elim) (fun i hi => by
        rcases hi with hi | hi | hi
        · exact .inl hi
        · obtain ⟨_, e, _⟩ := hi; cases e
        · exact .inr (by omega)) (fun i hi => by
        rcases hi with hi | hi | hi
        · have := htt i hi; omega
        · obtain ⟨_, e, _⟩ := hi; cases e
        · omega)
    refine draw_plan gx_ok (Ext w1) 10 [(true, 0), (true, 1), (true, 2), (true, 3), (true, 4), (true, 5), (true, 6), (true, 7), (true, 8), (true, 9)] (by kernel_rfl) (Ext.drew w1) ?_
    refine qload (v := .int .i64 v.fl) (fun w' hw' => by rw [(h1.blk.ext hw').cell]; rfl) ?_
    refine qload (v := .int .i64 v.ln) (fun w' hw' => by rw [(h1.blk.ext hw').cell]; rfl) ?_
    have hd1 := Ext.drew w1
    have h2 := h1.ext hd1
    have hB2 := hB1.ext hd1
    generalize w1.drew = w2 at *
    obtain ⟨mp, hmp, hnd, hlk⟩ := h2.rdm
    refine load_blk h2.blk rfl ?_
    refine at_mapUpdate (kv := intK) (a := (n : Int)) gx_ok rfl rfl rfl rfl rfl (KeyV.int .i64) rfl rfl rfl hmp (fun w3 hg3 hz3 hm3 => ?_)
    have hM3 : Mod (· = p.q) w2 w3 := Mod.of_grown hg3 rfl
    have hmd3 : ((assocSet (n : Int) (Value.bool true) mp).map (·.1)).Nodup := (assocSet_keys _ _ _ hnd).1
    have hlk3 : ∀ j : Nat, assoc (j : Int) (assocSet (n : Int) (Value.bool true) mp) = if j ∈ n :: v.rd then some (.bool true) else none := fun j => by
      rw [assoc_set]
      by_cases hj : j = n
      · subst hj; simp
      · rw [if_neg (fun e => hj (by omega)), hlk j]
        simp [hj]
    have hbr := h2.blk.mod hM3 h2.ne
    refine store_mod hbr (show 9 < 11 by decide) (fun w4 hm4 hB4 => ?_)
    refine store_mod hB4 (show 10 < 11 by decide) (fun w5 hm5 hB5 => ?_)
    refine store_mod hB5 (show 8 < 11 by decide) (fun w6 hm6 hB6 => ?_)
    have hM36 : Mod (· = p.r) w3 w6 := (hm4.trans hm5 (fun i hi => .inl hi)).trans hm6 (fun i hi => .inl hi)
    have hM26 : Mod (fun i => i = p.r ∨ i = p.q) w2 w6 := (hM3.mono (S' := fun i => i = p.r ∨ i = p.q) (fun i hi => .inl (.inr hi))).trans hM36 (fun i hi => .inl (.inl hi))
    have h6 : Rr w0 w6 base p m1 ⟨v.d, n, 0, n :: v.rd, { v.g with fr := true }⟩ := h2.putq hM26 hB6 rfl rfl (fun e => by cases e) ⟨_, hm3.mod hM36 (fun e => h2.ne e.symm), hmd3, hlk3⟩
    have hbk : ¬ (w.heap.size = p.r ∨ w.heap.size = p.q) := fun e => by have := h.rb; have := h.qb; have := h.top; rcases e with e | e <;> omega
    have hB6k := hB2.mod hM26 hbk
    have hE06 : Mod (RS p m) w w6 := ((Mod.of_ext (RS p m) hE1).trans (Mod.of_ext (RS p m) hd1) (fun i hi => .inl hi)).trans (hM26.mono (S' := RS p m) (fun i hi => .inl (hi.elim .inl (fun e => .inr (.inl e))))) (fun i hi => .inl hi)
    refine load_blk hB6 rfl ?_
    refine index_sls file_len (hP.fls.ext h6.e0) rfl (by omega) (fun pp x hxx hc => ?_)
    obtain rfl : p.fs[n] = x := Option.some.inj (hx.symm.trans hxx)
    refine load (hc 1 _ rfl) ?_
    rw [htext]
    have hk1 : DgO w1 (TS p m1) p.nm.length k o := hk.step (Mod.of_ext _ hE1) (fun i hi => by
      rcases hi with hi | hi | hi | hi
      · exact .inl (.inl hi)
      · exact .inl (.inr hi)
      · obtain ⟨_, e, _⟩ := hi; cases e
      · exact .inr (by omega))
    have hk6 : DgO w6 (TS p m1) p.nm.length k o := (hk1.ext hd1).keep hM26 (fun i hi => .inl (.inl (hi.elim .inl (fun e => .inr (.inl e)))))
    have hll : (linesOf text).length ≤ text.length := by have := unl_le (linesOf text); rw [htok] at this; exact this
    refine loop gx_ok [8, 10] (fun s : LS => [.slice s.A s.z.length s.c, .int .i64 s.at_]) (fun s w' => FrI w0 w base p m v n w.heap.size text (incF p f n v.rd) res s w') (fun s _ => s.ls.length) ⟨k, o, [], m1, { v.g with fr := true }, 0, 0, linesOf text, none, 0⟩ rfl
      ⟨h6, rfl, hB6k, hk6, Own.nil _ _ _ _, (fun z hz => by cases hz), (fun z hz => by cases hz), (by rw [htok]; rfl), (by rw [htok]; simp), linesOf_lines text, hunf.symm, hE06, Moved.refl _ _, Moved.refl _ _, (fun i hi => by obtain ⟨_, e, _⟩ := hi; cases e), hd, (by show 0 + (linesOf text).length ≤ _; omega)⟩ ?_
    rintro s w7 hI
    have h7 := hI.rr
    have hal := hI.al
    refine wif_d (fun c1 => ?_) (fun c1 => ?_)
    rotate_left
    · have hls : s.ls = [] := by
        have hs := strOf_size text
        have := unl_le s.ls
        exact List.eq_nil_of_length_eq_zero (by omega)
      have h7z := hI.rr
      have hrs := hI.rs
      rw [hls] at hrs
      refine wif_d (fun hz => ?_) (fun hz => ?_)
      · obtain ⟨z', x, hzz⟩ : ∃ z' x, s.z = z' ++ [x] := by
          rcases List.eq_nil_or_concat s.z with h0 | ⟨z', x, h0⟩
          · rw [h0] at hz; exact absurd hz (by decide)
          · exact ⟨z', x, by rw [h0]; simp⟩
        have hzl : s.z.length = z'.length + 1 := by rw [hzz]; simp
        have hrev : s.z.reverse.map (·.s) = x.s :: z'.reverse.map (·.s) := by rw [hzz]; simp
        obtain ⟨oa, hoa, _⟩ := hI.ow.sl.at_ (by omega : 0 < s.z.length)
        have ho7 : Own w7 base seT 6 (some oa) s.z.length s.c (seV z' ++ x.cells) := by rw [← hoa, ← seV_snoc, ← hzz]; exact hI.ow
        have hdl := hI.dl
        refine norm_i64_to ((z'.length : Nat) : Int) (by omega) (by omega) ?_
        rw [hoa]
        refine index_n (j := z'.length) (by omega) ?_
        rw [show z'.length * 6 = (seV z').length from (seV_len z').symm]
        refine load_own ho7 (by omega) (pre_get (i := 5) (u := .int .i64 x.s.ln) rfl) ?_
        refine store_mod h7.blk (show 10 < 11 by decide) (fun w8 hm8 hB8 => ?_)
        have h8 : Rr w0 w8 base p s.m ⟨v.d + s.z.length, n, x.s.ln, n :: v.rd, s.g⟩ := h7.put hm8 hB8 rfl rfl rfl h7.nf
        refine callP (fail_fn 72 w8 h8) (fun _ _ hf => hf.elim) ?_
        rintro ch w9 ⟨rfl, hE9⟩
        refine ⟨⟨72, n, x.s.ln⟩, ?_, rfl, hI.mw' (Nat.le_refl _) ((hm8.mono (S' := WrS p s.m s.A w.heap.size) (fun i hi => .inl (.inl (.inl hi)))).trans (Mod.of_ext _ hE9) (fun i hi => .inl hi))⟩
        rw [← hrs, rdL.eq_def, hrev]
      · have hz0 : s.z = [] := List.eq_nil_of_length_eq_zero (by omega)
        obtain ⟨mq, k1, k2, k3⟩ := h7.rdm
        refine load_blk h7.blk rfl ?_
        refine at_delete (kv := intK) (a := (n : Int)) gx_ok rfl rfl rfl rfl rfl (KeyV.int .i64) rfl rfl k1 (fun w8 hM8 hz8 hm8 => ?_)
        refine store_mod (h7.blk.mod hM8 h7.ne) (show 9 < 11 by decide) (fun w9 hm9 hB9 => ?_)
        refine store_mod hB9 (show 10 < 11 by decide) (fun w10 hm10 hB10 => ?_)
        refine store_mod hB10 (show 8 < 11 by decide) (fun w11 hm11 hB11 => ?_)
        have hM811 : Mod (· = p.r) w8 w11 := (hm9.trans hm10 (fun i hi => .inl hi)).trans hm11 (fun i hi => .inl hi)
        have hM711 : Mod (fun i => i = p.r ∨ i = p.q) w7 w11 := (hM8.mono (S' := fun i => i = p.r ∨ i = p.q) (fun i hi => .inl (.inr hi))).trans hM811 (fun i hi => .inl (.inl hi))
        have hd0 : v.d + s.z.length = v.d := by rw [hz0]; rfl
        rw [hd0] at hB11
        have h11 : Rr w0 w11 base p s.m ⟨v.d, v.fl, v.ln, v.rd, { s.g with fr := true }⟩ := h7.putq hM711 hB11 rfl rfl (fun e => by cases e) ⟨_, hm8.mod hM811 (fun e => h7.ne e.symm), (k2.sublist ((assocDel_sub (n : Int) mq).map _)), fun j => by
          rw [assoc_del _ _ _ k2]
          by_cases hj : j = n
          · subst hj; rw [if_pos rfl, if_neg hr]
          · rw [if_neg (fun e => hj (by omega)), k3 j]
            simp [hj]⟩
        have h12 : Rr w0 w11 base p { s.m with T := m.T } ⟨v.d, v.fl, v.ln, v.rd, { s.g with fr := true }⟩ := h11.modT (U := fun _ => False) (Mod.refl _ _) (fun i hi => hi.elim) (fun i hi => hi.elim) (fun i hi => hi.elim) (fun i hi => .inl (by rw [hI.tt]; exact .inl hi)) (fun i hi => by
          have := htt i hi; have := hI.mw.size; have := hM711.size; omega)
        refine ⟨{ s.g with fr := true }, ?_, { s.m with T := m.T }, rfl, h12, hI.mw' (Nat.le_refl _) (hM711.mono (fun i hi => .inl (.inl (hi.elim .inl (fun e => .inr (.inl e)))))), hI.ma, hI.mb⟩
        rw [← hrs, rdL.eq_def, hz0]
        rfl
    · cases hls : s.ls with
      | nil =>
        have hs := strOf_size text
        rw [hls] at hal
        have : (unl ([] : List (List Nat))).length = 0 := rfl
        omega
      | cons l ls =>
        obtain ⟨l1, l2, l3, l4, l5⟩ := hI.line htl hls
        have hsz := strOf_size text
        have hl8 : ∀ x ∈ l, x < 256 := fun x hx => ht8 x (List.mem_of_mem_drop (by rw [l3]; simp [hx] : x ∈ text.drop s.at_))
        have hlb := hI.lb
        refine need_to (v' := .string (strOf (text.drop s.at_))) ⟨by omega, by rw [hsz]; omega, by rw [hsz]; omega⟩ ?_ ?_
        · rw [strOf_extract, hsz]
          simp only [Int.toNat_natCast]
          rw [List.take_of_length_le (Nat.le_refl _)]
        refine call (indexbyte_fn (text.drop s.at_) 10 w7 (fun x hx => ht8 x (List.mem_of_mem_drop hx)) (by decide)) ?_
        rintro _ _ ⟨rfl, rfl⟩
        have hix : ixB 10 (text.drop s.at_) = (l.length : Nat) := by
          unfold ixB
          rw [if_pos (by rw [l3]; simp), l3, List.takeWhile_append_of_pos (fun x hx => by simpa using fun e => l1 (by rw [← e]; exact hx))]
          simp
        rw [hix]
        refine norm_i64_to ((s.at_ + l.length : Nat) : Int) (by show ((s.at_ : Nat) : Int) + _ = _; omega) (by omega) ?_
        refine norm_i64_to ((s.at_ + l.length + 1 : Nat) : Int) (by omega) (by omega) ?_
        refine norm_i64_to ((s.at_ + l.length : Nat) : Int) (by omega) (by omega) ?_
        refine need_to (v' := .string (strOf l)) ⟨by omega, by omega, by rw [hsz]; omega⟩ ?_ ?_
        · rw [strOf_extract]
          simp only [Int.toNat_natCast]
          rw [List.drop_take, show s.at_ + l.length - s.at_ = l.length by omega, l4]
        refine load_blk h7.blk rfl ?_
        refine norm_i64_to ((s.ln + 1 : Nat) : Int) (by show ((s.ln : Nat) : Int) + 1 = _; omega) (by omega) ?_
        refine store_mod h7.blk (show 10 < 11 by decide) (fun w8 hm8 hB8 => ?_)
        have h8 : Rr w0 w8 base p s.m ⟨v.d + s.z.length, n, s.ln + 1, n :: v.rd, s.g⟩ := h7.put hm8 hB8 rfl rfl rfl h7.nf
        refine call (scut2_fn l w8 hl8 (by omega)) ?_
        rintro _ w9 ⟨rfl, hE9⟩
        have h9 := h8.ext hE9
        have hbkk : w.heap.size ≤ w.heap.size := Nat.le_refl _
        have hm79 : Mod (WrS p s.m s.A w.heap.size) w7 w9 := (hm8.mono (S' := WrS p s.m s.A w.heap.size) (fun i hi => .inl (.inl (.inl hi)))).trans (Mod.of_ext _ hE9) (fun i hi => .inl hi)
        have npr : ¬ w.heap.size = p.r := fun e => hbk (.inl e)
        have hkb9 : Blk w9 w.heap.size 42 s.k.cells := (hI.kb.mod hm8 npr).ext hE9
        have kp9 : ∀ {x : DV} {o : BF}, DgO w7 (TS p s.m) p.nm.length x o → DgO w9 (TS p s.m) p.nm.length x o := fun hx => hI.kp hm79 hI.tt (Moved.refl _ _) (Moved.refl _ _) (Moved.refl _ _) hx
        have hkd9 := kp9 hI.kd
        have nopr : ∀ i, rowS s.A i → ¬ i = p.r := fun i hi e => by have := (hI.ow.rows i hi).1; have := h7.rb; omega
        have how9 : Own w9 base seT 6 s.A s.z.length s.c (seV s.z) := (hI.ow.mod hm8 nopr).ext hE9
        have hrs := hI.rs
        rw [hls] at hrs
        have hsp : (((strOf (cutH l)).size : Int) < (strOf l).size) ↔ 32 ∈ l := by rw [strOf_size, strOf_size, ← cutH_lt]; omega
        have hdl := hI.dl
        have hll2 : l.length ≤ 1048576 := by omega
        have hzz9 := hm79.size
        have hzw7 := hI.mw.size
        have pan : ∀ (q : Pl) (ch : List PanicEntry) (w' : World), res = .error q → ch = failPan q.e q.f q.l → Mod (WrS p s.m s.A w.heap.size) w9 w' → ∃ q, res = .error q ∧ ch = failPan q.e q.f q.l ∧ Mod (RS p m) w w' := fun q ch w' h1 h2 h3 => ⟨q, h1, h2, hI.mw' hbkk (hm79.trans h3 (fun i hi => .inl hi))⟩
        have hloA : ∀ i, rowS s.A i → w0.heap.size ≤ i := fun i hi => by have := (how9.rows i hi).1; omega
        have hoffA : ∀ i, rowS s.A i → ¬ RS p s.m i := fun i hi hr => by
          have hb := (how9.rows i hi).1
          have := h9.rb; have := h9.qb
          rcases hr with rfl | rfl | hr | hr
          · omega
          · omega
          · exact how9.apart h9.out (by decide) hi hr
          · exact how9.apart h9.txt (by decide) hi hr
        have htA : ∀ i, rowS s.A i → s.m.T i := fun i hi => by rw [hI.tt]; exact .inr (.inl hi)
        have nbk : ¬ RS p s.m w.heap.size := fun hr => by
          have := h.rb; have := h.qb; have := h.top
          rcases hr with e | e | hr | hr
          · omega
          · omega
          · exact hkb9.apart h9.out (by decide) hr
          · exact hkb9.apart h9.txt (by decide) hr
        have hhA : ∀ i, rowS s.A i → i < w9.heap.size := fun i hi => (how9.rows i hi).2
        have nbA : ¬ rowS s.A w.heap.size := hkb9.apart how9 (by decide)
        have nprA : ¬ rowS s.A p.r := fun hi => nopr _ hi rfl
        by_cases P1 : cutH l = kIf ∧ 32 ∈ l
        · have hdir := dir_if P1.1 P1.2
          rw [if_pos P1.2]
          have hr8 : ∀ x ∈ cutR l, x < 256 := fun x hx => hl8 x (List.mem_of_mem_drop hx)
          have hrl : (cutR l).length ≤ 1000000000000 := by unfold cutR; rw [List.length_drop]; omega
          refine wif_dt (by rw [P1.1]; rfl) ?_
          refine wif_dt (hsp.2 P1.2) ?_
          refine callP (set_fn (cutR l) w9 hP h9 hr8 hrl) ?_ ?_
          rotate_left
          · rintro ch w10 ⟨e, he, rfl, hE10⟩
            refine pan ⟨e, n, ((s.ln + 1 : Nat) : Int)⟩ _ w10 ?_ rfl (Mod.of_ext _ hE10)
            rw [← hrs, rdL_ifd hdir, he]
          rintro _ w10 ⟨d, he, t, rfl, hE10, ht10, hts, htr⟩
          refine new (fun w11 hE11 hz11 hB11 => ?_)
          refine storeN_blk0 hB11 rfl (sc rfl) (fun w12 hg12 _ hB12 => ?_)
          have hE1012 : Ext w10 w12 := newBox hE11 hB11 hg12
          have hE912 := hE10.trans hE1012
          have h12 := h9.ext hE912
          have hz912 := hE912.size
          have hz910 := hE10.size
          refine callP (deeper_fn w12 h12 hdl) ?_ ?_
          rotate_left
          · rintro ch w13 ⟨e64, rfl, hE13⟩
            refine pan ⟨2, n, ((s.ln + 1 : Nat) : Int)⟩ _ w13 ?_ rfl (Mod.of_ext _ (hE912.trans hE13))
            have e64 : v.d + (s.z.reverse.map (·.s)).length = 64 := by simpa using e64
            rw [← hrs, rdL_ifd hdir, he]
            simp only [if_pos e64]
          rintro _ w13 ⟨n64, h13, hm13⟩
          have n64 : ¬ v.d + s.z.length = 64 := n64
          have hkb13 := (hkb9.ext hE912).mod hm13 npr
          have n10r : ¬ w10.heap.size = p.r := fun e => by have := h9.rb; have := h9.top; omega
          have hB1213 := hB12.mod hm13 n10r
          refine loadN_blk0 hkb13 rfl ?_
          refine loadN_blk0 hB1213 rfl ?_
          have hkd13 := (hkd9.ext hE912).keep hm13 (fun i hi => .inl (.inl (.inl hi)))
          have ht13 : SB w13 t.A t.n t.c t.nd := SB.mod (ht10.ext hE1012) hm13 (fun i hi e => by have := htr i hi; have := h9.rb; have := h9.top; omega)
          refine call (split_fn p.nm.length hP.nmk s.k t s.o d w13 hkd13.sb hkd13.st ht13 hts) ?_
          rintro _ w14 ⟨a, b, rfl, hE14, ha14, has, har, hb14, hbs, hbr⟩
          refine new (fun w15 hE15 hz15 hB15 => ?_)
          refine new (fun w16 hE16 hz16 hB16 => ?_)
          have hE1416 := hE15.trans hE16
          refine storeN_blk0 (hB15.ext hE16) rfl (sc rfl) (fun w17 hg17 _ hB17 => ?_)
          have hM17 : Mod (· = w14.heap.size) w16 w17 := Mod.of_grown hg17 rfl
          have hE1417 : Ext w14 w17 := hM17.ext hE1416 (fun i hi => by omega)
          refine storeN_blk0 (hB16.mod hM17 (by show ¬ w15.heap.size = w14.heap.size; omega)) rfl (sc rfl) (fun w18 hg18 _ hB18 => ?_)
          have hM18 : Mod (· = w15.heap.size) w17 w18 := Mod.of_grown hg18 rfl
          have hE1418 : Ext w14 w18 := hM18.ext hE1417 (fun i hi => by omega)
          have hB1718 := hB17.mod hM18 (by show ¬ w14.heap.size = w15.heap.size; omega)
          have hE1318 := hE14.trans hE1418
          have h18 := h13.ext hE1318
          have hkb18 := hkb13.ext hE1318
          have hkd18 := hkd13.ext hE1318
          have how13 := (how9.ext hE912).mod hm13 nopr
          have how18 := how13.ext hE1318
          have hd := Ext.drew w18
          have hz1318 := hE1318.size
          have hz1213 := hm13.size
          have hz1314 := hE14.size
          have hz1416 := hE1416.size
          have n15A : ¬ rowS s.A w15.heap.size := fun hi => by have := hhA _ hi; omega
          refine draw_plan gx_ok (Mod (rowS s.A) w18) 11 [(true, 0), (true, 1), (true, 2), (true, 3), (true, 4), (true, 5), (true, 6), (true, 7), (false, 8), (false, 9), (true, 10)] (by kernel_rfl) (Mod.of_ext _ hd) ?_
          refine qloadN (vs := s.k.cells) rfl (fun w' hw' j u hj => by rw [(hkb18.mod hw' nbA).cell]; exact hj) ?_
          refine qloadN (vs := b.cells) rfl (fun w' hw' j u hj => by rw [(hB18.mod hw' n15A).cell]; exact hj) ?_
          refine qload (v := .int .i64 ((s.ln + 1 : Nat) : Int)) (fun w' hw' => by rw [(h18.blk.mod hw' nprA).cell]; rfl) ?_
          let zn : SeV := ⟨⟨s.o, bSub s.o d, false, s.ln + 1⟩, s.k, b⟩
          refine at_buildN gx_ok [zn.cells] rfl rfl rfl rfl rfl ⟨rfl, rfl, ⟨⟩⟩ rfl (fun cs hh => by simp only [List.mem_singleton] at hh; subst hh; rfl) rfl (by decide) (by decide) ?_
          intro w19 hE19 hz19 hB19
          have hE1819 := hd.trans hE19
          refine ⟨Mod.of_ext _ hE1819, ?_⟩
          have hs19 : Sl w19 6 (some ⟨w18.drew.heap.size, 0, none⟩) 1 1 zn.cells := Sl.own (sz := 6) (n := 1) hB19 (Nat.le_refl _) (by decide) (by simp [SeV.cells])
          refine at_app gx_ok rfl rfl rfl rfl rfl (by decide) rfl rfl ⟨_, rfl⟩ rfl rfl (how18.ext hE1819) hs19 (sev_scalar zn) (by unfold maxLen; omega) (by show (s.z.length + 1) * 80 ≤ _; omega) (h18.ext hE1819).top ?_
          intro A' c' w20 hm20 hown20 hmv20
          have hm1820 : Mod (rowS s.A) w18 w20 := (Mod.of_ext (rowS s.A) hE1819).trans hm20 (fun i hi => .inl hi)
          refine ⟨hm1820, ?_⟩
          have n14A : ¬ rowS s.A w14.heap.size := fun hi => by have := hhA _ hi; omega
          refine loadN_blk0 (hB1718.mod hm1820 n14A) rfl ?_
          refine storeN_blk0 (hkb18.mod hm1820 nbA) rfl (sc rfl) (fun w21 hg21 _ hB21 => ?_)
          have hM21 : Mod (· = w.heap.size) w20 w21 := Mod.of_grown hg21 rfl
          have hM1821 : Mod (WrS p s.m s.A w.heap.size) w18 w21 := (hm1820.mono (S' := WrS p s.m s.A w.heap.size) (fun i hi => .inl (.inr (.inl hi)))).trans hM21 (fun i hi => .inl (.inr (.inr hi)))
          have hz20 := hm1820.size
          have h20 : Rr w0 w20 base p { s.m with T := fun i => m.T i ∨ rowS A' i ∨ i = w.heap.size } ⟨v.d + s.z.length + 1, n, s.ln + 1, n :: v.rd, s.g⟩ := h18.modT hm1820 htA hoffA hloA (fun i hi => by
              rcases hi with hi | hi | hi
              · exact .inl (by rw [hI.tt]; exact .inl hi)
              · rcases hmv20.rows i hi with h1 | h1
                · exact .inl (by rw [hI.tt]; exact .inr (.inl h1))
                · exact .inr (by have := hE1819.size; omega)
              · exact .inl (by rw [hI.tt]; exact .inr (.inr hi))) (fun i hi => by
              rcases hi with hi | hi | hi
              · have := htt i hi; omega
              · exact (hown20.rows i hi).2
              · have := hkb18.lt; omega)
          have h21 : Rr w0 w21 base p { s.m with T := fun i => m.T i ∨ rowS A' i ∨ i = w.heap.size } ⟨v.d + s.z.length + 1, n, s.ln + 1, n :: v.rd, s.g⟩ := h20.modT hM21 (fun i hi => .inr (.inr hi)) (fun i hi => by subst hi; exact nbk) (fun i hi => by have := h.e0.size; omega) (fun i hi => .inl hi) (fun i hi => Nat.lt_of_lt_of_le (h20.tt i hi) hM21.size)
          refine store_mod h21.blk (show 8 < 11 by decide) (fun w22 hm22 hB22 => ?_)
          have h22 : Rr w0 w22 base p { s.m with T := fun i => m.T i ∨ rowS A' i ∨ i = w.heap.size } ⟨v.d + s.z.length + 1, n, s.ln + 1, n :: v.rd, { s.g with fr := true }⟩ := h21.put hm22 hB22 rfl rfl rfl (fun e => by cases e)
          have hm9_18 : Mod (WrS p s.m s.A w.heap.size) w9 w18 := ((Mod.of_ext _ hE912).trans (hm13.mono (S' := WrS p s.m s.A w.heap.size) (fun i hi => .inl (.inl (.inl hi)))) (fun i hi => .inl hi)).trans (Mod.of_ext _ hE1318) (fun i hi => .inl hi)
          have hm18_22 : Mod (WrS p s.m s.A w.heap.size) w18 w22 := hM1821.trans hm22 (fun i hi => .inl (.inl (.inl hi)))
          have hm7_22 : Mod (WrS p s.m s.A w.heap.size) w7 w22 := (hm79.trans hm9_18 (fun i hi => .inl hi)).trans hm18_22 (fun i hi => .inl hi)
          have hmvA : Moved w7 s.A A' := hmv20.back (by have := hm79.size; have := hm9_18.size; have := hE1819.size; omega)
          have htt' : (fun i => m.T i ∨ rowS A' i ∨ i = w.heap.size) = (fun i => m.T i ∨ rowS A' i ∨ i = w.heap.size) := rfl
          let s' : LS := ⟨a, bAnd s.o d, s.z ++ [zn], { s.m with T := fun i => m.T i ∨ rowS A' i ∨ i = w.heap.size }, { s.g with fr := true }, s.ln + 1, s.at_ + l.length + 1, ls, A', c'⟩
          have kp : ∀ {x : DV} {o : BF}, DgO w7 (TS p s.m) p.nm.length x o → DgO w22 (TS p s'.m) p.nm.length x o := fun hx => hI.kp (s' := s') hm7_22 rfl hmvA (Moved.refl _ _) (Moved.refl _ _) hx
          have hlen' : (s.z ++ [zn]).length = s.z.length + 1 := by simp
          have hTlt : ∀ i, TS p s.m i → i < w13.heap.size := fun i hi => by
            have := h9.hiT i hi; omega
          have fresh : ∀ (x : DV) (ox : BF), (∀ i, rowS x.A i → w13.heap.size ≤ i) → SB w14 x.A x.n x.c x.nd → Set1 p.nm.length x.nd x.r ox → DgO w22 (TS p s'.m) p.nm.length x ox := fun x ox hr hx hs => by
            have e1 : DgO w18 (TS p s.m) p.nm.length x ox := ⟨hx.ext hE1418, hs, fun ad e _ hh => by have := hr _ ⟨ad, e, rfl⟩; have := hTlt _ hh; omega⟩
            exact e1.step (hm18_22.mono (fun i hi => .inl (hI.sub i hi))) (fun i hi => by
              rcases hi with hi | hi
              · exact .inl (.inl hi)
              · rcases hi with hi | hi | hi
                · exact .inl (.inr (by rw [hI.tt]; exact .inl hi))
                · rcases hmv20.rows i hi with h1 | h1
                  · exact .inl (.inr (by rw [hI.tt]; exact .inr (.inl h1)))
                  · exact .inr (by have := hE1819.size; omega)
                · exact .inl (.inr (by rw [hI.tt]; exact .inr (.inr hi))))
          refine ⟨s', ?_, ?_, ?_⟩
          · show Has _ _
            have e : (((s.z ++ [zn]).length : Nat) : Int) = ((s.z.length + 1 : Nat) : Int) := by rw [hlen']
            simp only [s', hlen']
            rfl
          · refine hI.go (s' := s') hbkk hm7_22 ?_ rfl hmvA (Moved.refl _ _) (Moved.refl _ _) ?_ ?_ ?_ ?_ ?_ hls rfl ?_ ?_ rfl
            · show Rr w0 w22 base p _ ⟨v.d + (s.z ++ [zn]).length, n, s.ln + 1, n :: v.rd, { s.g with fr := true }⟩
              rw [hlen']; exact h22
            · exact hB21.mod hm22 npr
            · exact fresh a _ har ha14 has
            · show Own w22 base seT 6 A' (s.z ++ [zn]).length c' (seV (s.z ++ [zn]))
              rw [hlen', seV_snoc]
              exact (hown20.mod hM21 (fun i hi e => by subst e; exact (hkb18.mod hm1820 nbA).apart hown20 (by decide) hi)).mod hm22 (fun i hi e => by subst e; have := (hown20.rows _ hi).1; have := h.rb; omega)
            · intro z hz
              simp only [s', List.mem_append, List.mem_singleton] at hz
              rcases hz with hz | rfl
              · exact kp (hI.zx z hz)
              · exact kp hI.kd
            · intro z hz
              simp only [s', List.mem_append, List.mem_singleton] at hz
              rcases hz with hz | rfl
              · exact kp (hI.zy z hz)
              · exact fresh b _ hbr hb14 hbs
            · have e64 : ¬ v.d + (s.z.reverse.map (·.s)).length = 64 := by simpa using n64
              rw [rdL_ifd hdir, he] at hrs
              simp only [if_neg e64] at hrs
              rw [← hrs]
              simp [s', zn]
            · show v.d + (s.z ++ [zn]).length ≤ 64
              rw [hlen']; omega
          · show ls.length < (l :: ls).length
            simp
        have hop : v.d + (s.z.reverse.map (·.s)).length = v.d + s.z.length := by simp
        have hr8 : ∀ x ∈ cutR l, x < 256 := fun x hx => hl8 x (List.mem_of_mem_drop hx)
        have hrl : (cutR l).length ≤ 1000000000000 := by unfold cutR; rw [List.length_drop]; omega
        by_cases P2 : cutH l = kInc ∧ 32 ∈ l
        · have hdir := dir_inc P2.1 P2.2
          rw [if_pos P2.2]
          refine wif_df (by rw [P2.1]; decide) ?_
          refine wif_dt (by rw [P2.1]; rfl) ?_
          refine wif_dt (hsp.2 P2.2) ?_
          refine callP (number_fn (cutR l) w9 hP h9 hr8 hrl) ?_ ?_
          rotate_left
          · rintro ch w10 ⟨e, he, rfl, hE10⟩
            refine pan ⟨e, n, ((s.ln + 1 : Nat) : Int)⟩ _ w10 ?_ rfl (Mod.of_ext _ hE10)
            rw [← hrs, rdL_inc hdir]
            have hi : incF p f n v.rd (cutR l) (s.ln + 1) (v.d + (s.z.reverse.map (·.s)).length) s.o s.g = .error ⟨e, n, ((s.ln + 1 : Nat) : Int)⟩ := by
              unfold incF
              rw [show incE (ixN (p.fs.map (·.1))) (n :: v.rd) (cutR l) = .error e from he]
            rw [hi]
          rintro _ w10 ⟨n', he, rfl, hE10⟩
          have he : incE (ixN (p.fs.map (·.1))) (n :: v.rd) (cutR l) = .ok n' := he
          have h10 := h9.ext hE10
          refine callP (deeper_fn w10 h10 hdl) ?_ ?_
          rotate_left
          · rintro ch w11 ⟨e64, rfl, hE11⟩
            refine pan ⟨2, n, ((s.ln + 1 : Nat) : Int)⟩ _ w11 ?_ rfl (Mod.of_ext _ (hE10.trans hE11))
            have e64 : v.d + (s.z.reverse.map (·.s)).length = 64 := by simpa using e64
            rw [← hrs, rdL_inc hdir]
            have hi : incF p f n v.rd (cutR l) (s.ln + 1) (v.d + (s.z.reverse.map (·.s)).length) s.o s.g = .error ⟨2, n, ((s.ln + 1 : Nat) : Int)⟩ := by
              unfold incF
              rw [he]
              simp only [if_pos e64]
            rw [hi]
          rintro _ w11 ⟨n64, h11, hm11⟩
          have n64 : ¬ v.d + s.z.length = 64 := n64
          have e64 : ¬ v.d + (s.z.reverse.map (·.s)).length = 64 := by simpa using n64
          have hkb11 := (hkb9.ext hE10).mod hm11 npr
          refine loadN_blk0 hkb11 rfl ?_
          obtain ⟨hnr, tn, htn⟩ := incE_ok he
          have hn' : n' < p.fs.length := by have := ixN_lt htn; simpa using this
          have hkd11 := (hkd9.ext hE10).keep hm11 (fun i hi => .inl (.inl (.inl hi)))
          have hinc : ∀ R, rdF p.nm p.fs f (n :: v.rd) (v.d + s.z.length + 1) n' s.o s.g = R → incF p f n v.rd (cutR l) (s.ln + 1) (v.d + (s.z.reverse.map (·.s)).length) s.o s.g = R := fun R hR => by
            unfold incF
            rw [he]
            simp only [if_neg e64]
            rw [hop]; exact hR
          have hm9_11 : Mod (WrS p s.m s.A w.heap.size) w9 w11 := (Mod.of_ext _ hE10).trans (hm11.mono (S' := WrS p s.m s.A w.heap.size) (fun i hi => .inl (.inl (.inl hi)))) (fun i hi => .inl hi)
          refine callP (ih s.m ⟨v.d + s.z.length + 1, n, s.ln + 1, n :: v.rd, s.g⟩ n' s.k s.o w11 h11 hkd11 hn' hnr (by show v.d + s.z.length + 1 ≤ 64; omega) (by show 65 ≤ f + (v.d + s.z.length + 1); omega)) ?_ ?_
          rotate_left
          · rintro ch w12 ⟨q, hq, rfl, hm12⟩
            refine pan q _ w12 ?_ rfl (hm9_11.trans hm12 (fun i hi => .inl (.inl hi)))
            rw [← hrs, rdL_inc hdir, hinc _ hq]
          rintro _ w12 ⟨g', hg', m', hT', h12, hm12, hv12, hu12⟩
          refine load_blk h12.blk rfl ?_
          refine norm_i64_to ((v.d + s.z.length : Nat) : Int) (by show ((v.d + s.z.length + 1 : Nat) : Int) - 1 = _; omega) (by omega) ?_
          refine store_mod h12.blk (show 4 < 11 by decide) (fun w13 hm13 hB13 => ?_)
          have h13 : Rr w0 w13 base p m' ⟨v.d + s.z.length, n, s.ln + 1, n :: v.rd, g'⟩ := h12.put hm13 hB13 rfl rfl rfl h12.nf
          refine store_mod h13.blk (show 8 < 11 by decide) (fun w14 hm14 hB14 => ?_)
          have h14 : Rr w0 w14 base p m' ⟨v.d + s.z.length, n, s.ln + 1, n :: v.rd, { g' with fr := true }⟩ := h13.put hm14 hB14 rfl rfl rfl (fun e => by cases e)
          have hm1214 : Mod (· = p.r) w12 w14 := hm13.trans hm14 (fun i hi => .inl hi)
          have hm9_14 : Mod (WrS p s.m s.A w.heap.size) w9 w14 := (hm9_11.trans hm12 (fun i hi => .inl (.inl hi))).trans hm1214 (fun i hi => .inl (.inl (.inl hi)))
          have hm7_14 : Mod (WrS p s.m s.A w.heap.size) w7 w14 := hm79.trans hm9_14 (fun i hi => .inl hi)
          have hzm := hm9_11.size
          have hv7 : Moved w7 s.m.OA m'.OA := hv12.back (by omega)
          have hu7 : Moved w7 s.m.BA m'.BA := hu12.back (by omega)
          let s' : LS := ⟨s.k, s.o, s.z, m', { g' with fr := true }, s.ln + 1, s.at_ + l.length + 1, ls, s.A, s.c⟩
          have hT2 : s'.m.T = fun i => m.T i ∨ rowS s'.A i ∨ i = w.heap.size := by show m'.T = _; rw [hT', hI.tt]
          have kp : ∀ {x : DV} {o : BF}, DgO w7 (TS p s.m) p.nm.length x o → DgO w14 (TS p s'.m) p.nm.length x o := fun hx => hI.kp (s' := s') hm7_14 hT2 (Moved.refl _ _) hv7 hu7 hx
          have how14 : Own w14 base seT 6 s.A s.z.length s.c (seV s.z) := ((((how9.ext hE10).mod hm11 nopr).mod hm12 hoffA).mod hm1214 nopr)
          have hkb14 := (hkb11.mod hm12 nbk).mod hm1214 npr
          refine ⟨s', rfl, ?_, ?_⟩
          · refine hI.go (s' := s') hbkk hm7_14 h14 hT2 (Moved.refl _ _) hv7 hu7 hkb14 (kp hI.kd) how14 (fun z hz => kp (hI.zx z hz)) (fun z hz => kp (hI.zy z hz)) hls rfl ?_ hdl rfl
            rw [rdL_inc hdir, hinc _ hg'] at hrs
            exact hrs
          · show ls.length < (l :: ls).length
            simp
        by_cases P3 : cutH l = kElif ∧ 32 ∈ l
        · have hdir := dir_elif P3.1 P3.2
          rw [if_pos P3.2]
          refine wif_df (by rw [P3.1]; decide) ?_
          refine wif_df (by rw [P3.1]; decide) ?_
          refine wif_dt (by rw [P3.1]; rfl) ?_
          refine wif_dt (hsp.2 P3.2) ?_
          refine wif_eq (fun hz => ?_) (fun hz => ?_)
          · have hz0 : s.z = [] := List.eq_nil_of_length_eq_zero (by omega)
            refine callP (fail_fn 72 w9 h9) (fun _ _ hf => hf.elim) ?_
            rintro ch w10 ⟨rfl, hE10⟩
            refine pan ⟨72, n, ((s.ln + 1 : Nat) : Int)⟩ _ w10 ?_ rfl (Mod.of_ext _ hE10)
            rw [← hrs, rdL_elif hdir, hz0]; rfl
          obtain ⟨z', x, hzz⟩ : ∃ z' x, s.z = z' ++ [x] := by
            rcases List.eq_nil_or_concat s.z with h0 | ⟨z', x, h0⟩
            · exact absurd (by rw [h0]; rfl) hz
            · exact ⟨z', x, by rw [h0]; simp⟩
          have hzl : s.z.length = z'.length + 1 := by rw [hzz]; simp
          have hrev : s.z.reverse.map (·.s) = x.s :: z'.reverse.map (·.s) := by rw [hzz]; simp
          obtain ⟨oa, hoa, _⟩ := how9.sl.at_ (by omega : 0 < s.z.length)
          have hoA : rowS (some oa) = rowS s.A := by rw [hoa]
          have ho9 : Own w9 base seT 6 (some oa) s.z.length s.c (seV z' ++ x.cells) := by rw [← hoa, ← seV_snoc, ← hzz]; exact how9
          have hxz : x ∈ s.z := by rw [hzz]; simp
          have hxx := kp9 (hI.zx x hxz)
          have hxy := kp9 (hI.zy x hxz)
          have hpl := seV_len z'
          have htT : ∀ i, TS p s.m i → i < w9.heap.size := h9.hiT
          refine norm_i64_to ((z'.length : Nat) : Int) (by omega) (by omega) ?_
          rw [hoa]
          refine index_n (j := z'.length) (by omega) ?_
          rw [show z'.length * 6 = (seV z').length from hpl.symm]
          refine wif_df (fun e => by have e2 : l = lEnd := strOf_inj hl8 (by decide) e; have := P3.2; rw [e2] at this; exact absurd this (by decide)) ?_
          have hoth : decide (strOf l = (⟨#[35, 101, 108, 115, 101]⟩ : ByteArray)) = false := decide_eq_false (fun e => by have e2 : l = lElse := strOf_inj hl8 (by decide) e; have := P3.2; rw [e2] at this; exact absurd this (by decide))
          refine callP (branch_fn s.m ⟨v.d + s.z.length, n, s.ln + 1, n :: v.rd, s.g⟩ oa s.z.length s.c (seV z') x (decide (strOf l = (⟨#[35, 101, 108, 115, 101]⟩ : ByteArray))) (cutR l) w9 hP h9 ho9 (by rw [hoA]; exact htA) (by rw [hpl]; omega) hxy hr8 hrl hb0) ?_ ?_
          rotate_left
          · rintro ch w10 ⟨e, he, rfl, hm10⟩
            refine pan ⟨e, n, ((s.ln + 1 : Nat) : Int)⟩ _ w10 ?_ rfl (hm10.mono (fun i hi => .inl (.inr (.inl (by rw [← hoA]; exact hi)))))
            rw [hoth] at he
            rw [← hrs, rdL_elif hdir, hrev]
            rcases he with ⟨h1, rfl⟩ | ⟨h1, _, h3⟩
            · simp only [h1, if_true]
            · simp only [h1, h3]; rfl
          rintro u w10 ⟨hot, hm10, hres⟩
          rw [hoth, if_neg (by decide)] at hres
          obtain ⟨o', b, d', hset, rfl, hb10, hbs, hbr, hd10, hds, hdr, ho10⟩ := hres
          let zn : SeV := ⟨{ x.s with re := bSub x.s.re o' }, x.x, d'⟩
          let nk : DV := b
          let no : BF := bAnd x.s.re o'
          rw [hoA] at hm10
          have hkb10 := hkb9.mod hm10 nbA
          have h10 : Rr w0 w10 base p s.m ⟨v.d + s.z.length, n, s.ln + 1, n :: v.rd, s.g⟩ := h9.modT hm10 htA hoffA hloA (fun i hi => .inl hi) (fun i hi => Nat.lt_of_lt_of_le (h9.tt i hi) hm10.size)
          refine storeN_blk0 hkb10 rfl (sc rfl) (fun w11 hg11 _ hB11 => ?_)
          have hM11 : Mod (· = w.heap.size) w10 w11 := Mod.of_grown hg11 rfl
          have h11 : Rr w0 w11 base p s.m ⟨v.d + s.z.length, n, s.ln + 1, n :: v.rd, s.g⟩ := h10.modT hM11 (fun i hi => by rw [hI.tt]; exact .inr (.inr hi)) (fun i hi => by subst hi; exact nbk) (fun i hi => by have := h.e0.size; omega) (fun i hi => .inl hi) (fun i hi => Nat.lt_of_lt_of_le (h10.tt i hi) hM11.size)
          refine store_mod h11.blk (show 8 < 11 by decide) (fun w12 hm12 hB12 => ?_)
          have h12 : Rr w0 w12 base p s.m ⟨v.d + s.z.length, n, s.ln + 1, n :: v.rd, { s.g with fr := true }⟩ := h11.put hm12 hB12 rfl rfl rfl (fun e => by cases e)
          have hm10_12 : Mod (WrS p s.m s.A w.heap.size) w10 w12 := (hM11.mono (S' := WrS p s.m s.A w.heap.size) (fun i hi => .inl (.inr (.inr hi)))).trans hm12 (fun i hi => .inl (.inl (.inl hi)))
          have hm9_12 : Mod (WrS p s.m s.A w.heap.size) w9 w12 := (hm10.mono (S' := WrS p s.m s.A w.heap.size) (fun i hi => .inl (.inr (.inl hi)))).trans hm10_12 (fun i hi => .inl hi)
          have hm7_12 : Mod (WrS p s.m s.A w.heap.size) w7 w12 := hm79.trans hm9_12 (fun i hi => .inl hi)
          have hzn : (z' ++ [zn]).length = s.z.length := by rw [hzl]; simp
          let s' : LS := ⟨nk, no, z' ++ [zn], s.m, { s.g with fr := true }, s.ln + 1, s.at_ + l.length + 1, ls, s.A, s.c⟩
          have kp : ∀ {x : DV} {o : BF}, DgO w7 (TS p s.m) p.nm.length x o → DgO w12 (TS p s'.m) p.nm.length x o := fun hx => hI.kp (s' := s') hm7_12 hI.tt (Moved.refl _ _) (Moved.refl _ _) (Moved.refl _ _) hx
          have fresh : ∀ (x : DV) (ox : BF), (∀ i, rowS x.A i → w9.heap.size ≤ i) → SB w10 x.A x.n x.c x.nd → Set1 p.nm.length x.nd x.r ox → DgO w12 (TS p s'.m) p.nm.length x ox := fun x ox hr hx hs => by
            have e1 : DgO w10 (TS p s.m) p.nm.length x ox := ⟨hx, hs, fun ad e _ hh => by have := hr _ ⟨ad, e, rfl⟩; have := htT _ hh; omega⟩
            exact e1.step (hm10_12.mono (fun i hi => .inl (hI.sub i hi))) (fun i hi => .inl hi)
          refine ⟨s', ?_, ?_, ?_⟩
          · show Has _ _
            simp only [s', hzn]
            rw [hoa]
            rfl
          · refine hI.go (s' := s') hbkk hm7_12 ?_ hI.tt (Moved.refl _ _) (Moved.refl _ _) (Moved.refl _ _) ?_ ?_ ?_ ?_ ?_ hls rfl ?_ ?_ rfl
            · show Rr w0 w12 base p _ ⟨v.d + (z' ++ [zn]).length, n, s.ln + 1, n :: v.rd, { s.g with fr := true }⟩
              rw [hzn]; exact h12
            · exact hB11.mod hm12 npr
            · exact fresh b _ hbr hb10 hbs
            · show Own w12 base seT 6 s.A (z' ++ [zn]).length s.c (seV (z' ++ [zn]))
              rw [hzn, seV_snoc]
              have ho10' : Own w10 base seT 6 s.A s.z.length s.c (seV z' ++ zn.cells) := by rw [hoa]; exact ho10
              exact (ho10'.mod hM11 (fun i hi e => by subst e; exact nbA hi)).mod hm12 nopr
            · intro z hz
              simp only [s', List.mem_append, List.mem_singleton] at hz
              rcases hz with hz | rfl
              · exact kp (hI.zx z (by rw [hzz]; simp [hz]))
              · exact kp (hI.zx x hxz)
            · intro z hz
              simp only [s', List.mem_append, List.mem_singleton] at hz
              rcases hz with hz | rfl
              · exact kp (hI.zy z (by rw [hzz]; simp [hz]))
              · exact fresh d' _ hdr hd10 hds
            · rw [rdL_elif hdir, hrev] at hrs
              simp only [hot, hset] at hrs
              rw [← hrs]
              simp [s', zn, no, hot]
            · show v.d + (z' ++ [zn]).length ≤ 64
              rw [hzn]; omega
          · show ls.length < (l :: ls).length
            simp
        have hdno := dir_no P1 P2 P3
        by_cases hl4 : l = lElse
        · have hdir : dirOf l = .els := by rw [hl4]; rfl
          have hno : 32 ∉ l := by rw [hl4]; decide
          have hch : cutH l = lElse := by rw [cutH_no hno, hl4]
          rw [if_neg hno]
          refine wif_df (by rw [hch]; decide) ?_
          refine wif_df (by rw [hch]; decide) ?_
          refine wif_df (by rw [hch]; decide) ?_
          refine wif_dt (by rw [hl4]; rfl) ?_
          refine wif_eq (fun hz => ?_) (fun hz => ?_)
          · have hz0 : s.z = [] := List.eq_nil_of_length_eq_zero (by omega)
            refine callP (fail_fn 72 w9 h9) (fun _ _ hf => hf.elim) ?_
            rintro ch w10 ⟨rfl, hE10⟩
            refine pan ⟨72, n, ((s.ln + 1 : Nat) : Int)⟩ _ w10 ?_ rfl (Mod.of_ext _ hE10)
            rw [← hrs, rdL_els hdir, hz0]; rfl
          obtain ⟨z', x, hzz⟩ : ∃ z' x, s.z = z' ++ [x] := by
            rcases List.eq_nil_or_concat s.z with h0 | ⟨z', x, h0⟩
            · exact absurd (by rw [h0]; rfl) hz
            · exact ⟨z', x, by rw [h0]; simp⟩
          have hzl : s.z.length = z'.length + 1 := by rw [hzz]; simp
          have hrev : s.z.reverse.map (·.s) = x.s :: z'.reverse.map (·.s) := by rw [hzz]; simp
          obtain ⟨oa, hoa, _⟩ := how9.sl.at_ (by omega : 0 < s.z.length)
          have hoA : rowS (some oa) = rowS s.A := by rw [hoa]
          have ho9 : Own w9 base seT 6 (some oa) s.z.length s.c (seV z' ++ x.cells) := by rw [← hoa, ← seV_snoc, ← hzz]; exact how9
          have hxz : x ∈ s.z := by rw [hzz]; simp
          have hxx := kp9 (hI.zx x hxz)
          have hxy := kp9 (hI.zy x hxz)
          have hpl := seV_len z'
          have htT : ∀ i, TS p s.m i → i < w9.heap.size := h9.hiT
          refine norm_i64_to ((z'.length : Nat) : Int) (by omega) (by omega) ?_
          rw [hoa]
          refine index_n (j := z'.length) (by omega) ?_
          rw [show z'.length * 6 = (seV z').length from hpl.symm]
          refine wif_df (by rw [hl4]; decide) ?_
          have hoth : decide (strOf l = (⟨#[35, 101, 108, 115, 101]⟩ : ByteArray)) = true := decide_eq_true (by rw [hl4]; rfl)
          refine callP (branch_fn s.m ⟨v.d + s.z.length, n, s.ln + 1, n :: v.rd, s.g⟩ oa s.z.length s.c (seV z') x (decide (strOf l = (⟨#[35, 101, 108, 115, 101]⟩ : ByteArray))) [] w9 hP h9 ho9 (by rw [hoA]; exact htA) (by rw [hpl]; omega) hxy (fun x hx => by cases hx) (by decide) hb0) ?_ ?_
          rotate_left
          · rintro ch w10 ⟨e, he, rfl, hm10⟩
            refine pan ⟨e, n, ((s.ln + 1 : Nat) : Int)⟩ _ w10 ?_ rfl (hm10.mono (fun i hi => .inl (.inr (.inl (by rw [← hoA]; exact hi)))))
            rw [hoth] at he
            rw [← hrs, rdL_els hdir, hrev]
            rcases he with ⟨h1, rfl⟩ | ⟨_, h2, _⟩
            · simp only [h1, if_true]
            · cases h2
          rintro u w10 ⟨hot, hm10, hres⟩
          rw [hoth, if_pos rfl] at hres
          obtain ⟨rfl, ho10⟩ := hres
          let zn : SeV := ⟨{ x.s with ot := true }, x.x, x.y⟩
          let nk : DV := x.y
          let no : BF := x.s.re
          rw [hoA] at hm10
          have hkb10 := hkb9.mod hm10 nbA
          have h10 : Rr w0 w10 base p s.m ⟨v.d + s.z.length, n, s.ln + 1, n :: v.rd, s.g⟩ := h9.modT hm10 htA hoffA hloA (fun i hi => .inl hi) (fun i hi => Nat.lt_of_lt_of_le (h9.tt i hi) hm10.size)
          refine storeN_blk0 hkb10 rfl (sc rfl) (fun w11 hg11 _ hB11 => ?_)
          have hM11 : Mod (· = w.heap.size) w10 w11 := Mod.of_grown hg11 rfl
          have h11 : Rr w0 w11 base p s.m ⟨v.d + s.z.length, n, s.ln + 1, n :: v.rd, s.g⟩ := h10.modT hM11 (fun i hi => by rw [hI.tt]; exact .inr (.inr hi)) (fun i hi => by subst hi; exact nbk) (fun i hi => by have := h.e0.size; omega) (fun i hi => .inl hi) (fun i hi => Nat.lt_of_lt_of_le (h10.tt i hi) hM11.size)
          refine store_mod h11.blk (show 8 < 11 by decide) (fun w12 hm12 hB12 => ?_)
          have h12 : Rr w0 w12 base p s.m ⟨v.d + s.z.length, n, s.ln + 1, n :: v.rd, { s.g with fr := true }⟩ := h11.put hm12 hB12 rfl rfl rfl (fun e => by cases e)
          have hm10_12 : Mod (WrS p s.m s.A w.heap.size) w10 w12 := (hM11.mono (S' := WrS p s.m s.A w.heap.size) (fun i hi => .inl (.inr (.inr hi)))).trans hm12 (fun i hi => .inl (.inl (.inl hi)))
          have hm9_12 : Mod (WrS p s.m s.A w.heap.size) w9 w12 := (hm10.mono (S' := WrS p s.m s.A w.heap.size) (fun i hi => .inl (.inr (.inl hi)))).trans hm10_12 (fun i hi => .inl hi)
          have hm7_12 : Mod (WrS p s.m s.A w.heap.size) w7 w12 := hm79.trans hm9_12 (fun i hi => .inl hi)
          have hzn : (z' ++ [zn]).length = s.z.length := by rw [hzl]; simp
          let s' : LS := ⟨nk, no, z' ++ [zn], s.m, { s.g with fr := true }, s.ln + 1, s.at_ + l.length + 1, ls, s.A, s.c⟩
          have kp : ∀ {x : DV} {o : BF}, DgO w7 (TS p s.m) p.nm.length x o → DgO w12 (TS p s'.m) p.nm.length x o := fun hx => hI.kp (s' := s') hm7_12 hI.tt (Moved.refl _ _) (Moved.refl _ _) (Moved.refl _ _) hx
          have fresh : ∀ (x : DV) (ox : BF), (∀ i, rowS x.A i → w9.heap.size ≤ i) → SB w10 x.A x.n x.c x.nd → Set1 p.nm.length x.nd x.r ox → DgO w12 (TS p s'.m) p.nm.length x ox := fun x ox hr hx hs => by
            have e1 : DgO w10 (TS p s.m) p.nm.length x ox := ⟨hx, hs, fun ad e _ hh => by have := hr _ ⟨ad, e, rfl⟩; have := htT _ hh; omega⟩
            exact e1.step (hm10_12.mono (fun i hi => .inl (hI.sub i hi))) (fun i hi => .inl hi)
          refine ⟨s', ?_, ?_, ?_⟩
          · show Has _ _
            simp only [s', hzn]
            rw [hoa]
            rfl
          · refine hI.go (s' := s') hbkk hm7_12 ?_ hI.tt (Moved.refl _ _) (Moved.refl _ _) (Moved.refl _ _) ?_ ?_ ?_ ?_ ?_ hls rfl ?_ ?_ rfl
            · show Rr w0 w12 base p _ ⟨v.d + (z' ++ [zn]).length, n, s.ln + 1, n :: v.rd, { s.g with fr := true }⟩
              rw [hzn]; exact h12
            · exact hB11.mod hm12 npr
            · exact kp (hI.zy x hxz)
            · show Own w12 base seT 6 s.A (z' ++ [zn]).length s.c (seV (z' ++ [zn]))
              rw [hzn, seV_snoc]
              have ho10' : Own w10 base seT 6 s.A s.z.length s.c (seV z' ++ zn.cells) := by rw [hoa]; exact ho10
              exact (ho10'.mod hM11 (fun i hi e => by subst e; exact nbA hi)).mod hm12 nopr
            · intro z hz
              simp only [s', List.mem_append, List.mem_singleton] at hz
              rcases hz with hz | rfl
              · exact kp (hI.zx z (by rw [hzz]; simp [hz]))
              · exact kp (hI.zx x hxz)
            · intro z hz
              simp only [s', List.mem_append, List.mem_singleton] at hz
              rcases hz with hz | rfl
              · exact kp (hI.zy z (by rw [hzz]; simp [hz]))
              · exact kp (hI.zy x hxz)
            · rw [rdL_els hdir, hrev] at hrs
              simp only [hot] at hrs
              rw [← hrs]
              simp [s', zn, no]
            · show v.d + (z' ++ [zn]).length ≤ 64
              rw [hzn]; omega
          · show ls.length < (l :: ls).length
            simp
        by_cases hl5 : l = lEnd
        · have hdir : dirOf l = .en := by rw [hl5]; rfl
          have hno : 32 ∉ l := by rw [hl5]; decide
          have hch : cutH l = lEnd := by rw [cutH_no hno, hl5]
          refine wif_df (by rw [hch]; decide) ?_
          refine wif_df (by rw [hch]; decide) ?_
          refine wif_df (by rw [hch]; decide) ?_
          refine wif_df (by rw [hl5]; decide) ?_
          refine wif_dt (by rw [hl5]; rfl) ?_
          refine wif_eq (fun hz => ?_) (fun hz => ?_)
          · have hz0 : s.z = [] := List.eq_nil_of_length_eq_zero (by omega)
            refine callP (fail_fn 72 w9 h9) (fun _ _ hf => hf.elim) ?_
            rintro ch w10 ⟨rfl, hE10⟩
            refine pan ⟨72, n, ((s.ln + 1 : Nat) : Int)⟩ _ w10 ?_ rfl (Mod.of_ext _ hE10)
            rw [← hrs, rdL_en hdir, hz0]; rfl
          obtain ⟨z', x, hzz⟩ : ∃ z' x, s.z = z' ++ [x] := by
            rcases List.eq_nil_or_concat s.z with h0 | ⟨z', x, h0⟩
            · exact absurd (by rw [h0]; rfl) hz
            · exact ⟨z', x, by rw [h0]; simp⟩
          have hzl : s.z.length = z'.length + 1 := by rw [hzz]; simp
          have hrev : s.z.reverse.map (·.s) = x.s :: z'.reverse.map (·.s) := by rw [hzz]; simp
          obtain ⟨oa, hoa, _⟩ := how9.sl.at_ (by omega : 0 < s.z.length)
          have hoA : rowS (some oa) = rowS s.A := by rw [hoa]
          have ho9 : Own w9 base seT 6 (some oa) s.z.length s.c (seV z' ++ x.cells) := by rw [← hoa, ← seV_snoc, ← hzz]; exact how9
          have hxz : x ∈ s.z := by rw [hzz]; simp
          have hxx := kp9 (hI.zx x hxz)
          have hxy := kp9 (hI.zy x hxz)
          have hpl := seV_len z'
          have htT : ∀ i, TS p s.m i → i < w9.heap.size := h9.hiT
          refine norm_i64_to ((z'.length : Nat) : Int) (by omega) (by omega) ?_
          rw [hoa]
          refine index_n (j := z'.length) (by omega) ?_
          rw [show z'.length * 6 = (seV z').length from hpl.symm]
          refine wif_dt (by rw [hl5]; rfl) ?_
          refine loadN_at (vs := x.x.cells) rfl (fun i u hi => ?_) ?_
          · show w9.cell? (((oa.add (seV z').length).add 0).add i) = some u
            rw [add_add]
            refine cell_own ho9 (by omega) (pre_get ?_)
            match i, hi with
            | 0, hi => exact hi
            | 1, hi => exact hi
            | _ + 2, hi => exact nomatch hi
          refine storeN_blk0 hkb9 rfl (sc rfl) (fun w10 hg10 _ hB10 => ?_)
          have hM10 : Mod (· = w.heap.size) w9 w10 := Mod.of_grown hg10 rfl
          have h10 : Rr w0 w10 base p s.m ⟨v.d + s.z.length, n, s.ln + 1, n :: v.rd, s.g⟩ := h9.modT hM10 (fun i hi => by rw [hI.tt]; exact .inr (.inr hi)) (fun i hi => by subst hi; exact nbk) (fun i hi => by have := h.e0.size; omega) (fun i hi => .inl hi) (fun i hi => Nat.lt_of_lt_of_le (h9.tt i hi) hM10.size)
          refine norm_i64_to ((z'.length : Nat) : Int) (by omega) (by omega) ?_
          refine at_slice_h (h := z'.length) gx_ok rfl rfl rfl rfl rfl rfl (by have := how9.sl.le; omega) ?_
          refine load_blk h10.blk rfl ?_
          refine norm_i64_to ((v.d + z'.length : Nat) : Int) (by show ((v.d + s.z.length : Nat) : Int) - 1 = _; omega) (by omega) ?_
          refine store_mod h10.blk (show 4 < 11 by decide) (fun w11 hm11 hB11 => ?_)
          have h11 : Rr w0 w11 base p s.m ⟨v.d + z'.length, n, s.ln + 1, n :: v.rd, s.g⟩ := h10.put hm11 hB11 rfl rfl rfl h10.nf
          refine store_mod h11.blk (show 8 < 11 by decide) (fun w12 hm12 hB12 => ?_)
          have h12 : Rr w0 w12 base p s.m ⟨v.d + z'.length, n, s.ln + 1, n :: v.rd, { s.g with fr := true }⟩ := h11.put hm12 hB12 rfl rfl rfl (fun e => by cases e)
          have hm1012 : Mod (· = p.r) w10 w12 := hm11.trans hm12 (fun i hi => .inl hi)
          have hm9_12 : Mod (WrS p s.m s.A w.heap.size) w9 w12 := (hM10.mono (S' := WrS p s.m s.A w.heap.size) (fun i hi => .inl (.inr (.inr hi)))).trans hm1012 (fun i hi => .inl (.inl (.inl hi)))
          have hm7_12 : Mod (WrS p s.m s.A w.heap.size) w7 w12 := hm79.trans hm9_12 (fun i hi => .inl hi)
          let s' : LS := ⟨x.x, x.s.ou, z', s.m, { s.g with fr := true }, s.ln + 1, s.at_ + l.length + 1, ls, s.A, s.c⟩
          have kp : ∀ {x : DV} {o : BF}, DgO w7 (TS p s.m) p.nm.length x o → DgO w12 (TS p s'.m) p.nm.length x o := fun hx => hI.kp (s' := s') hm7_12 hI.tt (Moved.refl _ _) (Moved.refl _ _) (Moved.refl _ _) hx
          refine ⟨s', ?_, ?_, ?_⟩
          · show Has _ _
            simp only [s']
            rw [hoa]
            rfl
          · refine hI.go (s' := s') hbkk hm7_12 h12 hI.tt (Moved.refl _ _) (Moved.refl _ _) (Moved.refl _ _) (hB10.mod hm1012 npr) (kp (hI.zx x hxz)) ?_ (fun z hz => kp (hI.zx z (by rw [hzz]; simp [show z ∈ z' from hz]))) (fun z hz => kp (hI.zy z (by rw [hzz]; simp [show z ∈ z' from hz]))) hls rfl ?_ ?_ rfl
            · have ht := how9.take (k := z'.length) (by omega)
              rw [hzz, seV_snoc, List.take_left' (by rw [hpl])] at ht
              exact (ht.mod hM10 (fun i hi e => by subst e; exact nbA hi)).mod hm1012 nopr
            · rw [rdL_en hdir, hrev] at hrs
              rw [← hrs]
            · show v.d + z'.length ≤ 64
              omega
          · show ls.length < (l :: ls).length
            simp
        have hdir : dirOf l = .txt := by rw [hdno, if_neg hl4, if_neg hl5]
        have nl4 : ¬ strOf l = (⟨#[35, 101, 108, 115, 101]⟩ : ByteArray) := fun e => hl4 (strOf_inj hl8 (by decide) e)
        have nl5 : ¬ strOf l = (⟨#[35, 101, 110, 100]⟩ : ByteArray) := fun e => hl5 (strOf_inj hl8 (by decide) e)
        have hc8 : ∀ x ∈ cutH l, x < 256 := fun x hx => hl8 x ((List.takeWhile_sublist _).subset hx)
        by_cases q1 : cutH l = kIf
        · refine wif_dt (by rw [q1]; rfl) ?_
          refine wif_df (fun e => P1 ⟨q1, hsp.1 e⟩) ?_
          refine wif_df (by rw [q1]; decide) ?_
          refine wif_df (by rw [q1]; decide) ?_
          refine wif_df nl4 ?_
          refine wif_df nl5 ?_
          have hd9 := Ext.drew w9
          refine draw_tail gx_ok 7 (by kernel_rfl) ?_
          refine need_to (v' := .string (strOf (l ++ [10]))) ⟨by omega, by omega, by rw [hsz]; omega⟩ ?_ ?_
          · rw [strOf_extract]
            simp only [Int.toNat_natCast]
            rw [List.drop_take, show s.at_ + l.length + 1 - s.at_ = l.length + 1 by omega, l5]
          refine qloadN (vs := s.k.cells) rfl (fun w' hw' j u hj => by subst hw'; rw [(hkb9.ext hd9).cell]; exact hj) ?_
          have h9d := h9.ext hd9
          have hkdd : DgO w9.drew (RS p s.m) p.nm.length s.k s.o := ⟨hkd9.sb.ext hd9, hkd9.st, fun ad e h0 hh => hkd9.off ad e h0 (.inl hh)⟩
          refine callP (add_fn s.m ⟨v.d + s.z.length, n, s.ln + 1, n :: v.rd, s.g⟩ (l ++ [10]) s.at_ s.k s.o w9.drew hP h9d hkdd (fun x hx => by
            rcases List.mem_append.1 hx with hx | hx
            · exact hl8 x hx
            · simp only [List.mem_singleton] at hx; omega) (by rw [List.length_append]; simp; omega) (List.cons_ne_nil _ _)) ?_ ?_
          rotate_left
          · rintro ch w10 ⟨hg, rfl, hE10⟩
            refine pan ⟨2, n, ((s.ln + 1 : Nat) : Int)⟩ _ w10 ?_ rfl (Mod.of_ext _ (hd9.trans hE10))
            rw [← hrs, rdL_txt hdir, show addG (l ++ [10]) n s.at_ s.o s.g = none from hg]
          rintro _ w10 ⟨g', hg', m', hT', h10, hm10, hv10, hu10⟩
          have hm9_10 : Mod (WrS p s.m s.A w.heap.size) w9 w10 := (Mod.of_ext _ hd9).trans hm10 (fun i hi => .inl (.inl hi))
          have hm7_10 : Mod (WrS p s.m s.A w.heap.size) w7 w10 := hm79.trans hm9_10 (fun i hi => .inl hi)
          have hzd := hd9.size
          have hv7 : Moved w7 s.m.OA m'.OA := hv10.back (by omega)
          have hu7 : Moved w7 s.m.BA m'.BA := hu10.back (by omega)
          let s' : LS := ⟨s.k, s.o, s.z, m', g', s.ln + 1, s.at_ + l.length + 1, ls, s.A, s.c⟩
          have hT2 : s'.m.T = fun i => m.T i ∨ rowS s'.A i ∨ i = w.heap.size := by show m'.T = _; rw [hT', hI.tt]
          have kp : ∀ {x : DV} {o : BF}, DgO w7 (TS p s.m) p.nm.length x o → DgO w10 (TS p s'.m) p.nm.length x o := fun hx => hI.kp (s' := s') hm7_10 hT2 (Moved.refl _ _) hv7 hu7 hx
          refine ⟨s', rfl, ?_, ?_⟩
          · refine hI.go (s' := s') hbkk hm7_10 h10 hT2 (Moved.refl _ _) hv7 hu7 ((hkb9.ext hd9).mod hm10 nbk) (kp hI.kd) ((how9.ext hd9).mod hm10 hoffA) (fun z hz => kp (hI.zx z hz)) (fun z hz => kp (hI.zy z hz)) hls rfl ?_ hdl rfl
            rw [rdL_txt hdir, show addG (l ++ [10]) n s.at_ s.o s.g = some g' from hg'] at hrs
            exact hrs
          · show ls.length < (l :: ls).length
            simp
        refine wif_df (fun e => q1 (strOf_inj hc8 (by decide) e)) ?_
        by_cases q2 : cutH l = kInc
        · refine wif_dt (by rw [q2]; rfl) ?_
          refine wif_df (fun e => P2 ⟨q2, hsp.1 e⟩) ?_
          refine wif_df (by rw [q2]; decide) ?_
          refine wif_df nl4 ?_
          refine wif_df nl5 ?_
          have hd9 := Ext.drew w9
          refine draw_tail gx_ok 7 (by kernel_rfl) ?_
          refine need_to (v' := .string (strOf (l ++ [10]))) ⟨by omega, by omega, by rw [hsz]; omega⟩ ?_ ?_
          · rw [strOf_extract]
            simp only [Int.toNat_natCast]
            rw [List.drop_take, show s.at_ + l.length + 1 - s.at_ = l.length + 1 by omega, l5]
          refine qloadN (vs := s.k.cells) rfl (fun w' hw' j u hj => by subst hw'; rw [(hkb9.ext hd9).cell]; exact hj) ?_
          have h9d := h9.ext hd9
          have hkdd : DgO w9.drew (RS p s.m) p.nm.length s.k s.o := ⟨hkd9.sb.ext hd9, hkd9.st, fun ad e h0 hh => hkd9.off ad e h0 (.inl hh)⟩
          refine callP (add_fn s.m ⟨v.d + s.z.length, n, s.ln + 1, n :: v.rd, s.g⟩ (l ++ [10]) s.at_ s.k s.o w9.drew hP h9d hkdd (fun x hx => by
            rcases List.mem_append.1 hx with hx | hx
            · exact hl8 x hx
            · simp only [List.mem_singleton] at hx; omega) (by rw [List.length_append]; simp; omega) (List.cons_ne_nil _ _)) ?_ ?_
          rotate_left
          · rintro ch w10 ⟨hg, rfl, hE10⟩
            refine pan ⟨2, n, ((s.ln + 1 : Nat) : Int)⟩ _ w10 ?_ rfl (Mod.of_ext _ (hd9.trans hE10))
            rw [← hrs, rdL_txt hdir, show addG (l ++ [10]) n s.at_ s.o s.g = none from hg]
          rintro _ w10 ⟨g', hg', m', hT', h10, hm10, hv10, hu10⟩
          have hm9_10 : Mod (WrS p s.m s.A w.heap.size) w9 w10 := (Mod.of_ext _ hd9).trans hm10 (fun i hi => .inl (.inl hi))
          have hm7_10 : Mod (WrS p s.m s.A w.heap.size) w7 w10 := hm79.trans hm9_10 (fun i hi => .inl hi)
          have hzd := hd9.size
          have hv7 : Moved w7 s.m.OA m'.OA := hv10.back (by omega)
          have hu7 : Moved w7 s.m.BA m'.BA := hu10.back (by omega)
          let s' : LS := ⟨s.k, s.o, s.z, m', g', s.ln + 1, s.at_ + l.length + 1, ls, s.A, s.c⟩
          have hT2 : s'.m.T = fun i => m.T i ∨ rowS s'.A i ∨ i = w.heap.size := by show m'.T = _; rw [hT', hI.tt]
          have kp : ∀ {x : DV} {o : BF}, DgO w7 (TS p s.m) p.nm.length x o → DgO w10 (TS p s'.m) p.nm.length x o := fun hx => hI.kp (s' := s') hm7_10 hT2 (Moved.refl _ _) hv7 hu7 hx
          refine ⟨s', rfl, ?_, ?_⟩
          · refine hI.go (s' := s') hbkk hm7_10 h10 hT2 (Moved.refl _ _) hv7 hu7 ((hkb9.ext hd9).mod hm10 nbk) (kp hI.kd) ((how9.ext hd9).mod hm10 hoffA) (fun z hz => kp (hI.zx z hz)) (fun z hz => kp (hI.zy z hz)) hls rfl ?_ hdl rfl
            rw [rdL_txt hdir, show addG (l ++ [10]) n s.at_ s.o s.g = some g' from hg'] at hrs
            exact hrs
          · show ls.length < (l :: ls).length
            simp
        refine wif_df (fun e => q2 (strOf_inj hc8 (by decide) e)) ?_
        by_cases q3 : cutH l = kElif
        · refine wif_dt (by rw [q3]; rfl) ?_
          refine wif_df (fun e => P3 ⟨q3, hsp.1 e⟩) ?_
          refine wif_df nl4 ?_
          refine wif_df nl5 ?_
          have hd9 := Ext.drew w9
          refine draw_tail gx_ok 7 (by kernel_rfl) ?_
          refine need_to (v' := .string (strOf (l ++ [10]))) ⟨by omega, by omega, by rw [hsz]; omega⟩ ?_ ?_
          · rw [strOf_extract]
            simp only [Int.toNat_natCast]
            rw [List.drop_take, show s.at_ + l.length + 1 - s.at_ = l.length + 1 by omega, l5]
          refine qloadN (vs := s.k.cells) rfl (fun w' hw' j u hj => by subst hw'; rw [(hkb9.ext hd9).cell]; exact hj) ?_
          have h9d := h9.ext hd9
          have hkdd : DgO w9.drew (RS p s.m) p.nm.length s.k s.o := ⟨hkd9.sb.ext hd9, hkd9.st, fun ad e h0 hh => hkd9.off ad e h0 (.inl hh)⟩
          refine callP (add_fn s.m ⟨v.d + s.z.length, n, s.ln + 1, n :: v.rd, s.g⟩ (l ++ [10]) s.at_ s.k s.o w9.drew hP h9d hkdd (fun x hx => by
            rcases List.mem_append.1 hx with hx | hx
            · exact hl8 x hx
            · simp only [List.mem_singleton] at hx; omega) (by rw [List.length_append]; simp; omega) (List.cons_ne_nil _ _)) ?_ ?_
          rotate_left
          · rintro ch w10 ⟨hg, rfl, hE10⟩
            refine pan ⟨2, n, ((s.ln + 1 : Nat) : Int)⟩ _ w10 ?_ rfl (Mod.of_ext _ (hd9.trans hE10))
            rw [← hrs, rdL_txt hdir, show addG (l ++ [10]) n s.at_ s.o s.g = none from hg]
          rintro _ w10 ⟨g', hg', m', hT', h10, hm10, hv10, hu10⟩
          have hm9_10 : Mod (WrS p s.m s.A w.heap.size) w9 w10 := (Mod.of_ext _ hd9).trans hm10 (fun i hi => .inl (.inl hi))
          have hm7_10 : Mod (WrS p s.m s.A w.heap.size) w7 w10 := hm79.trans hm9_10 (fun i hi => .inl hi)
          have hzd := hd9.size
          have hv7 : Moved w7 s.m.OA m'.OA := hv10.back (by omega)
          have hu7 : Moved w7 s.m.BA m'.BA := hu10.back (by omega)
          let s' : LS := ⟨s.k, s.o, s.z, m', g', s.ln + 1, s.at_ + l.length + 1, ls, s.A, s.c⟩
          have hT2 : s'.m.T = fun i => m.T i ∨ rowS s'.A i ∨ i = w.heap.size := by show m'.T = _; rw [hT', hI.tt]
          have kp : ∀ {x : DV} {o : BF}, DgO w7 (TS p s.m) p.nm.length x o → DgO w10 (TS p s'.m) p.nm.length x o := fun hx => hI.kp (s' := s') hm7_10 hT2 (Moved.refl _ _) hv7 hu7 hx
          refine ⟨s', rfl, ?_, ?_⟩
          · refine hI.go (s' := s') hbkk hm7_10 h10 hT2 (Moved.refl _ _) hv7 hu7 ((hkb9.ext hd9).mod hm10 nbk) (kp hI.kd) ((how9.ext hd9).mod hm10 hoffA) (fun z hz => kp (hI.zx z hz)) (fun z hz => kp (hI.zy z hz)) hls rfl ?_ hdl rfl
            rw [rdL_txt hdir, show addG (l ++ [10]) n s.at_ s.o s.g = some g' from hg'] at hrs
            exact hrs
          · show ls.length < (l :: ls).length
            simp
        · refine wif_df (fun e => q3 (strOf_inj hc8 (by decide) e)) ?_
          refine wif_df nl4 ?_
          refine wif_df nl5 ?_
          have hd9 := Ext.drew w9
          refine draw_tail gx_ok 7 (by kernel_rfl) ?_
          refine need_to (v' := .string (strOf (l ++ [10]))) ⟨by omega, by omega, by rw [hsz]; omega⟩ ?_ ?_
          · rw [strOf_extract]
            simp only [Int.toNat_natCast]
            rw [List.drop_take, show s.at_ + l.length + 1 - s.at_ = l.length + 1 by omega, l5]
          refine qloadN (vs := s.k.cells) rfl (fun w' hw' j u hj => by subst hw'; rw [(hkb9.ext hd9).cell]; exact hj) ?_
          have h9d := h9.ext hd9
          have hkdd : DgO w9.drew (RS p s.m) p.nm.length s.k s.o := ⟨hkd9.sb.ext hd9, hkd9.st, fun ad e h0 hh => hkd9.off ad e h0 (.inl hh)⟩
          refine callP (add_fn s.m ⟨v.d + s.z.length, n, s.ln + 1, n :: v.rd, s.g⟩ (l ++ [10]) s.at_ s.k s.o w9.drew hP h9d hkdd (fun x hx => by
            rcases List.mem_append.1 hx with hx | hx
            · exact hl8 x hx
            · simp only [List.mem_singleton] at hx; omega) (by rw [List.length_append]; simp; omega) (List.cons_ne_nil _ _)) ?_ ?_
          rotate_left
          · rintro ch w10 ⟨hg, rfl, hE10⟩
            refine pan ⟨2, n, ((s.ln + 1 : Nat) : Int)⟩ _ w10 ?_ rfl (Mod.of_ext _ (hd9.trans hE10))
            rw [← hrs, rdL_txt hdir, show addG (l ++ [10]) n s.at_ s.o s.g = none from hg]
          rintro _ w10 ⟨g', hg', m', hT', h10, hm10, hv10, hu10⟩
          have hm9_10 : Mod (WrS p s.m s.A w.heap.size) w9 w10 := (Mod.of_ext _ hd9).trans hm10 (fun i hi => .inl (.inl hi))
          have hm7_10 : Mod (WrS p s.m s.A w.heap.size) w7 w10 := hm79.trans hm9_10 (fun i hi => .inl hi)
          have hzd := hd9.size
          have hv7 : Moved w7 s.m.OA m'.OA := hv10.back (by omega)
          have hu7 : Moved w7 s.m.BA m'.BA := hu10.back (by omega)
          let s' : LS := ⟨s.k, s.o, s.z, m', g', s.ln + 1, s.at_ + l.length + 1, ls, s.A, s.c⟩
          have hT2 : s'.m.T = fun i => m.T i ∨ rowS s'.A i ∨ i = w.heap.size := by show m'.T = _; rw [hT', hI.tt]
          have kp : ∀ {x : DV} {o : BF}, DgO w7 (TS p s.m) p.nm.length x o → DgO w10 (TS p s'.m) p.nm.length x o := fun hx => hI.kp (s' := s') hm7_10 hT2 (Moved.refl _ _) hv7 hu7 hx
          refine ⟨s', rfl, ?_, ?_⟩
          · refine hI.go (s' := s') hbkk hm7_10 h10 hT2 (Moved.refl _ _) hv7 hu7 ((hkb9.ext hd9).mod hm10 nbk) (kp hI.kd) ((how9.ext hd9).mod hm10 hoffA) (fun z hz => kp (hI.zx z hz)) (fun z hz => kp (hI.zy z hz)) hls rfl ?_ hdl rfl
            rw [rdL_txt hdir, show addG (l ++ [10]) n s.at_ s.o s.g = some g' from hg'] at hrs
            exact hrs
          · show ls.length < (l :: ls).length
            simp
end
end
end Go.Proofs.YtedopgkbajhanaaGreatDoor

namespace Go.Proofs.YtedopgkbajhanaaGreatDoor
section
section
open Go Go.RowKit

/-! ### The files' first error -/
structure FileB (x : List Nat × List Nat) : Prop where
  n8 : ∀ b ∈ x.1, b < 256
  t8 : ∀ b ∈ x.2, b < 256
  nl : x.1.length ≤ 9223372036854775807
  tl : x.2.length ≤ 9223372036854775807
def plC (q : Pl) : List Value := [.int .i64 q.e, .int .i64 q.f, .int .i64 q.l]
def plO (o : Option Pl) : Pl := o.getD ⟨0, 0, 0⟩
def badB (b : Nat) : Bool := decide (b < 32) || b == 34 || b == 127
theorem fnameOk_eq (s : List Nat) : fnameOk s = (decide (s ≠ []) && !(s.any badB)) := by
  unfold fnameOk
  congr 1
  rw [List.any_eq_not_all_not, Bool.not_not]
  congr 1
  funext b
  unfold badB
  have e : decide (32 ≤ b) = !decide (b < 32) := by by_cases h : b < 32 <;> simp [h] <;> omega
  rw [e]
  by_cases h1 : b = 34 <;> by_cases h2 : b = 127 <;> by_cases h3 : b < 32 <;> simp [h1, h2, h3, bne]
def bad0 (x : List Nat × List Nat) (seen : List (List Nat)) : Bool := decide (x.1 = []) || decide (x.1 ∈ seen) || (decide (x.2 ≠ []) && x.2.getLast? != some 10)
theorem bad_all (x : List Nat × List Nat) (seen : List (List Nat)) : (bad0 x seen || x.1.any badB) = true ↔ ¬ (fnameOk x.1 = true ∧ x.1 ∉ seen ∧ textB x.2 = true) := by
  rw [fnameOk_eq]
  unfold bad0 textB
  by_cases h1 : x.1 = [] <;> by_cases h2 : x.1 ∈ seen <;> by_cases h3 : x.2 = [] <;> by_cases h4 : x.2.getLast? = some 10 <;> simp [h1, h2, h3, h4]
structure CkI (w0 : World) (q : Nat) (fs : List (List Nat × List Nat)) (res : Option Pl) (i : Nat) (w : World) : Prop where
  e : Ext w0 w
  mp : ∃ m, MapAt strK w q m ∧ ∀ s : List Nat, (∀ x ∈ s, x < 256) → assoc (strOf s) m = if s ∈ (fs.take i).map (·.1) then some (.bool true) else none
  rs : chkFs (fs.drop i) ((fs.take i).map (·.1)) i = res
  le : i ≤ fs.length
  qo : w0.heap.size ≤ q
theorem CkI.ext {w0 w w' : World} {q : Nat} {fs : List (List Nat × List Nat)} {res : Option Pl} {i : Nat} (h : CkI w0 q fs res i w) (k : Ext w w') : CkI w0 q fs res i w' := ⟨h.e.trans k, let ⟨m, h1, h2⟩ := h.mp; ⟨m, h1.ext k, h2⟩, h.rs, h.le, h.qo⟩

set_option maxHeartbeats 800000 in
theorem checkfiles_fn (fs : List (List Nat × List Nat)) (FA : Option Addr) (nf cf : Nat) (w : World) (h : SlS fileC 2 w FA nf cf fs) (hb : ∀ x ∈ fs, FileB x) (hnf : nf ≤ 1000000000000) :
    Fn Tryz.prog 44 [.slice FA nf cf] w (fun u w' => u = .agg (plC (plO (filesE fs))).toArray ∧ Ext w w') := by
  have hlen := h.2
  refine fn_of_exec (c := { c44 with cuts := [] }) gx_ok Tryz.func44 rfl rfl rfl ?_
  refine new (fun w1 hE1 hz1 hB1 => ?_)
  refine wif_d (fun c1 => ?_) (fun c1 => ?_)
  · refine storeN_blk0 hB1 rfl (sc rfl) (fun w2 hg2 _ hB2 => ?_)
    refine loadN_blk0 hB2 rfl ?_
    refine ⟨?_, newBox hE1 hB1 hg2⟩
    unfold filesE
    rw [if_pos (by omega)]; rfl
  have hfe : filesE fs = chkFs fs [] 0 := by unfold filesE; rw [if_neg (by omega)]
  refine at_makeMap gx_ok strK rfl (fun w2 hE2 hz2 hm2 => ?_)
  have hE02 := hE1.trans hE2
  refine loop gx_ok [15] (fun i : Nat => [.int .i64 i]) (fun i w' => CkI w1 w1.heap.size fs (filesE fs) i w') (fun i _ => fs.length - i) 0 rfl ⟨hE2, ⟨[], hm2, fun s _ => by simp [assoc]⟩, by rw [hfe]; rfl, Nat.zero_le _, Nat.le_refl _⟩ ?_
  rintro i w3 hI
  have hE03 : Ext w w3 := hE1.trans hI.e
  refine wif_d (fun c2 => ?_) (fun c2 => ?_)
  · have hi : i < nf := by omega
    refine index_sls file_len (h.ext hE03) rfl hi (fun pp x hx hc => ?_)
    refine loadN_at (vs := fileC x) rfl hc ?_
    refine new (fun w4 hE4 hz4 hB4 => ?_)
    refine storeN_blk0 hB4 rfl (sc rfl) (fun w5 hg5 _ hB5 => ?_)
    have hE35 : Ext w3 w5 := newBox hE4 hB4 hg5
    have hI5 := hI.ext hE35
    obtain ⟨m, hm5, hlk⟩ := hI5.mp
    have hxb := hb x (List.mem_of_getElem? hx)
    have hns := strOf_size x.1
    have hts := strOf_size x.2
    have hnl := hxb.nl
    refine load_blk hB5 rfl ?_
    by_cases p1 : x.1 = []
    · refine wif_dt (by rw [p1]; rfl) ?_
      refine load_blk hB5 rfl ?_
      have e0 : bad0 x ((fs.take i).map (·.1)) = true := by simp [bad0, p1]
      refine loop gx_ok [47, 6] (fun s : Nat × Bool => [.int .i64 s.1, .bool s.2]) (fun s w' => Ext w5 w' ∧ s.1 ≤ x.1.length ∧ s.2 = (bad0 x ((fs.take i).map (·.1)) || (x.1.take s.1).any badB)) (fun s _ => x.1.length - s.1) (0, true) rfl ⟨Ext.refl _, Nat.zero_le _, by rw [e0]; simp⟩ ?_
      rintro ⟨k, b⟩ w6 ⟨hE56, hk, hbv⟩
      simp only at hk hbv
      have hI6 := hI5.ext hE56
      have hB6 := hB5.ext hE56
      refine wif_d (fun c3 => ?_) (fun c3 => ?_)
      · have hkl : k < x.1.length := by rw [hns] at c3; simp only at c3; omega
        obtain ⟨y, hy⟩ : ∃ y, x.1[k]? = some y := ⟨_, List.getElem?_eq_getElem hkl⟩
        have hstep : (x.1.take (k + 1)).any badB = ((x.1.take k).any badB || badB y) := by
          rw [List.take_add_one, hy]; simp
        have fin : ∀ b', b' = (b || badB y) → b' = (bad0 x ((fs.take i).map (·.1)) || (x.1.take (k + 1)).any badB) := fun b' e => by rw [e, hbv, hstep, Bool.or_assoc]
        cases b with
        | true =>
          refine wif_t rfl ?_
          refine norm_i64_to ((k + 1 : Nat) : Int) (by show ((k : Nat) : Int) + 1 = _; omega) (by omega) ?_
          exact ⟨(k + 1, true), rfl, ⟨hE56, hkl, fin true rfl⟩, by show x.1.length - (k + 1) < x.1.length - k; omega⟩
        | false =>
          have idx : ∀ K : Int → Prop, K (y : Int) → SIndex (strOf x.1) ((k : Nat) : Int) K := fun K hK => by
            refine sindex' (by rw [hns]; exact hkl) (fun z hz _ => ?_)
            rw [bytesOf_strOf hxb.n8, hy] at hz
            cases hz; exact hK
          refine wif_f rfl ?_
          refine load_blk hB6 rfl ?_
          refine idx _ ?_
          refine wif_d (fun d1 => ?_) (fun d1 => ?_)
          · refine norm_i64_to ((k + 1 : Nat) : Int) (by show ((k : Nat) : Int) + 1 = _; omega) (by omega) ?_
            exact ⟨(k + 1, true), rfl, ⟨hE56, hkl, fin true (by have : y < 32 := by omega
                                                                simp [badB, this])⟩, by show x.1.length - (k + 1) < x.1.length - k; omega⟩
          refine load_blk hB6 rfl ?_
          refine idx _ ?_
          refine wif_eq (fun d2 => ?_) (fun d2 => ?_)
          · refine norm_i64_to ((k + 1 : Nat) : Int) (by show ((k : Nat) : Int) + 1 = _; omega) (by omega) ?_
            exact ⟨(k + 1, true), rfl, ⟨hE56, hkl, fin true (by have : y = 34 := by omega
                                                                simp [badB, this])⟩, by show x.1.length - (k + 1) < x.1.length - k; omega⟩
          refine load_blk hB6 rfl ?_
          refine idx _ ?_
          refine norm_i64_to ((k + 1 : Nat) : Int) (by show ((k : Nat) : Int) + 1 = _; omega) (by omega) ?_
          refine ⟨(k + 1, ((y : Int) == 127)), rfl, ⟨hE56, hkl, fin _ ?_⟩, by show x.1.length - (k + 1) < x.1.length - k; omega⟩
          have n1 : ¬ y < 32 := by omega
          have n2 : ¬ y = 34 := by omega
          by_cases n3 : y = 127
          · subst n3; rfl
          · have : ((y : Int) == 127) = false := by simp; omega
            rw [this]; simp [badB, n1, n2, n3]
      · have hkl : k = x.1.length := by rw [hns] at c3; simp only at c3; omega
        subst hkl
        rw [List.take_length] at hbv
        have hall := bad_all x ((fs.take i).map (·.1))
        have hdrop : fs.drop i = x :: fs.drop (i + 1) := by
          rw [List.drop_eq_getElem_cons (by omega)]
          congr 1
          exact Option.some.inj ((List.getElem?_eq_getElem (by omega)).symm.trans hx)
        have hrs := hI6.rs
        rw [hdrop, chkFs] at hrs
        have hB16 := ((hB1.ext hI.e).ext hE35).ext hE56
        refine wif (fun d1 => ?_) (fun d1 => ?_)
        · have d1 : b = true := d1
          rw [if_pos (hall.1 (by rw [← hbv, d1]))] at hrs
          refine storeN_blk0 hB16 rfl (sc rfl) (fun w7 hg7 _ hB7 => ?_)
          refine loadN_blk0 hB7 rfl ?_
          have hM7 : Mod (· = w.heap.size) w6 w7 := Mod.of_grown hg7 rfl
          exact ⟨by rw [← hrs]; rfl, hM7.ext (hE1.trans hI6.e) (fun i hi => by omega)⟩
        have d1 : b = false := d1
        have hok := fun hh => (hall.2 hh).symm.trans (hbv.symm.trans d1)
        rw [if_neg (fun hh => by have := hok hh; cases this)] at hrs
        refine load_blk hB6 rfl ?_
        refine wif_d (fun d2 => ?_) (fun d2 => ?_)
        · rw [if_pos (by omega)] at hrs
          refine storeN_blk0 hB16 rfl (sc rfl) (fun w7 hg7 _ hB7 => ?_)
          refine loadN_blk0 hB7 rfl ?_
          have hM7 : Mod (· = w.heap.size) w6 w7 := Mod.of_grown hg7 rfl
          exact ⟨by rw [← hrs]; rfl, hM7.ext (hE1.trans hI6.e) (fun i hi => by omega)⟩
        rw [if_neg (by omega)] at hrs
        refine load_blk hB6 rfl ?_
        have hm6 := hm5.ext hE56
        refine at_mapUpdate (kv := strK) (a := strOf x.1) gx_ok rfl rfl rfl rfl rfl KeyV.str rfl rfl rfl hm6 (fun w7 hg7 hz7 hm7 => ?_)
        have hM7 : Mod (· = w1.heap.size) w6 w7 := Mod.of_grown hg7 rfl
        refine norm_i64_to ((i + 1 : Nat) : Int) (by show ((i : Nat) : Int) + 1 = _; omega) (by omega) ?_
        have htk : (fs.take (i + 1)).map (·.1) = (fs.take i).map (·.1) ++ [x.1] := by rw [List.take_add_one, hx]; simp
        refine ⟨i + 1, rfl, ⟨hM7.ext hI6.e (fun i hi => by omega), ⟨_, hm7, fun s hs => ?_⟩, by rw [htk]; exact hrs, by omega, Nat.le_refl _⟩, by show fs.length - (i + 1) < fs.length - i; omega⟩
        rw [assoc_set, htk]
        by_cases hsx : s = x.1
        · subst hsx; simp
        · rw [if_neg (fun e => hsx (strOf_inj hs hxb.n8 e)), hlk s hs]
          simp [hsx]
    refine wif_df (fun e => p1 (strOf_inj hxb.n8 (by simp) e)) ?_
    refine load_blk hB5 rfl ?_
    refine at_lookup' (kv := strK) (a := strOf x.1) (v := .bool (decide (x.1 ∈ (fs.take i).map (·.1)))) gx_ok rfl rfl rfl rfl rfl KeyV.str rfl rfl hm5 (by
      rw [hlk x.1 hxb.n8]
      by_cases hm : x.1 ∈ (fs.take i).map (·.1)
      · rw [if_pos hm, decide_eq_true hm]; rfl
      · rw [if_neg hm, decide_eq_false hm]; rfl) ?_
    by_cases p2 : x.1 ∈ (fs.take i).map (·.1)
    · refine wif_dt p2 ?_
      refine load_blk hB5 rfl ?_
      have e0 : bad0 x ((fs.take i).map (·.1)) = true := by unfold bad0; rw [decide_eq_true p2]; simp
      refine loop gx_ok [47, 6] (fun s : Nat × Bool => [.int .i64 s.1, .bool s.2]) (fun s w' => Ext w5 w' ∧ s.1 ≤ x.1.length ∧ s.2 = (bad0 x ((fs.take i).map (·.1)) || (x.1.take s.1).any badB)) (fun s _ => x.1.length - s.1) (0, true) rfl ⟨Ext.refl _, Nat.zero_le _, by rw [e0]; simp⟩ ?_
      rintro ⟨k, b⟩ w6 ⟨hE56, hk, hbv⟩
      simp only at hk hbv
      have hI6 := hI5.ext hE56
      have hB6 := hB5.ext hE56
      refine wif_d (fun c3 => ?_) (fun c3 => ?_)
      · have hkl : k < x.1.length := by rw [hns] at c3; simp only at c3; omega
        obtain ⟨y, hy⟩ : ∃ y, x.1[k]? = some y := ⟨_, List.getElem?_eq_getElem hkl⟩
        have hstep : (x.1.take (k + 1)).any badB = ((x.1.take k).any badB || badB y) := by
          rw [List.take_add_one, hy]; simp
        have fin : ∀ b', b' = (b || badB y) → b' = (bad0 x ((fs.take i).map (·.1)) || (x.1.take (k + 1)).any badB) := fun b' e => by rw [e, hbv, hstep, Bool.or_assoc]
        cases b with
        | true =>
          refine wif_t rfl ?_
          refine norm_i64_to ((k + 1 : Nat) : Int) (by show ((k : Nat) : Int) + 1 = _; omega) (by omega) ?_
          exact ⟨(k + 1, true), rfl, ⟨hE56, hkl, fin true rfl⟩, by show x.1.length - (k + 1) < x.1.length - k; omega⟩
        | false =>
          have idx : ∀ K : Int → Prop, K (y : Int) → SIndex (strOf x.1) ((k : Nat) : Int) K := fun K hK => by
            refine sindex' (by rw [hns]; exact hkl) (fun z hz _ => ?_)
            rw [bytesOf_strOf hxb.n8, hy] at hz
            cases hz; exact hK
          refine wif_f rfl ?_
          refine load_blk hB6 rfl ?_
          refine idx _ ?_
          refine wif_d (fun d1 => ?_) (fun d1 => ?_)
          · refine norm_i64_to ((k + 1 : Nat) : Int) (by show ((k : Nat) : Int) + 1 = _; omega) (by omega) ?_
            exact ⟨(k + 1, true), rfl, ⟨hE56, hkl, fin true (by have : y < 32 := by omega
                                                                simp [badB, this])⟩, by show x.1.length - (k + 1) < x.1.length - k; omega⟩
          refine load_blk hB6 rfl ?_
          refine idx _ ?_
          refine wif_eq (fun d2 => ?_) (fun d2 => ?_)
          · refine norm_i64_to ((k + 1 : Nat) : Int) (by show ((k : Nat) : Int) + 1 = _; omega) (by omega) ?_
            exact ⟨(k + 1, true), rfl, ⟨hE56, hkl, fin true (by have : y = 34 := by omega
                                                                simp [badB, this])⟩, by show x.1.length - (k + 1) < x.1.length - k; omega⟩
          refine load_blk hB6 rfl ?_
          refine idx _ ?_
          refine norm_i64_to ((k + 1 : Nat) : Int) (by show ((k : Nat) : Int) + 1 = _; omega) (by omega) ?_
          refine ⟨(k + 1, ((y : Int) == 127)), rfl, ⟨hE56, hkl, fin _ ?_⟩, by show x.1.length - (k + 1) < x.1.length - k; omega⟩
          have n1 : ¬ y < 32 := by omega
          have n2 : ¬ y = 34 := by omega
          by_cases n3 : y = 127
          · subst n3; rfl
          · have : ((y : Int) == 127) = false := by simp; omega
            rw [this]; simp [badB, n1, n2, n3]
      · have hkl : k = x.1.length := by rw [hns] at c3; simp only at c3; omega
        subst hkl
        rw [List.take_length] at hbv
        have hall := bad_all x ((fs.take i).map (·.1))
        have hdrop : fs.drop i = x :: fs.drop (i + 1) := by
          rw [List.drop_eq_getElem_cons (by omega)]
          congr 1
          exact Option.some.inj ((List.getElem?_eq_getElem (by omega)).symm.trans hx)
        have hrs := hI6.rs
        rw [hdrop, chkFs] at hrs
        have hB16 := ((hB1.ext hI.e).ext hE35).ext hE56
        refine wif (fun d1 => ?_) (fun d1 => ?_)
        · have d1 : b = true := d1
          rw [if_pos (hall.1 (by rw [← hbv, d1]))] at hrs
          refine storeN_blk0 hB16 rfl (sc rfl) (fun w7 hg7 _ hB7 => ?_)
          refine loadN_blk0 hB7 rfl ?_
          have hM7 : Mod (· = w.heap.size) w6 w7 := Mod.of_grown hg7 rfl
          exact ⟨by rw [← hrs]; rfl, hM7.ext (hE1.trans hI6.e) (fun i hi => by omega)⟩
        have d1 : b = false := d1
        have hok := fun hh => (hall.2 hh).symm.trans (hbv.symm.trans d1)
        rw [if_neg (fun hh => by have := hok hh; cases this)] at hrs
        refine load_blk hB6 rfl ?_
        refine wif_d (fun d2 => ?_) (fun d2 => ?_)
        · rw [if_pos (by omega)] at hrs
          refine storeN_blk0 hB16 rfl (sc rfl) (fun w7 hg7 _ hB7 => ?_)
          refine loadN_blk0 hB7 rfl ?_
          have hM7 : Mod (· = w.heap.size) w6 w7 := Mod.of_grown hg7 rfl
          exact ⟨by rw [← hrs]; rfl, hM7.ext (hE1.trans hI6.e) (fun i hi => by omega)⟩
        rw [if_neg (by omega)] at hrs
        refine load_blk hB6 rfl ?_
        have hm6 := hm5.ext hE56
        refine at_mapUpdate (kv := strK) (a := strOf x.1) gx_ok rfl rfl rfl rfl rfl KeyV.str rfl rfl rfl hm6 (fun w7 hg7 hz7 hm7 => ?_)
        have hM7 : Mod (· = w1.heap.size) w6 w7 := Mod.of_grown hg7 rfl
        refine norm_i64_to ((i + 1 : Nat) : Int) (by show ((i : Nat) : Int) + 1 = _; omega) (by omega) ?_
        have htk : (fs.take (i + 1)).map (·.1) = (fs.take i).map (·.1) ++ [x.1] := by rw [List.take_add_one, hx]; simp
        refine ⟨i + 1, rfl, ⟨hM7.ext hI6.e (fun i hi => by omega), ⟨_, hm7, fun s hs => ?_⟩, by rw [htk]; exact hrs, by omega, Nat.le_refl _⟩, by show fs.length - (i + 1) < fs.length - i; omega⟩
        rw [assoc_set, htk]
        by_cases hsx : s = x.1
        · subst hsx; simp
        · rw [if_neg (fun e => hsx (strOf_inj hs hxb.n8 e)), hlk s hs]
          simp [hsx]
    refine wif_df p2 ?_
    refine load_blk hB5 rfl ?_
    by_cases p3 : x.2 = []
    · refine wif_f (by rw [p3]; rfl) ?_
      refine load_blk hB5 rfl ?_
      have e0 : bad0 x ((fs.take i).map (·.1)) = false := by unfold bad0; rw [decide_eq_false p1, decide_eq_false p2, p3]; rfl
      refine loop gx_ok [47, 6] (fun s : Nat × Bool => [.int .i64 s.1, .bool s.2]) (fun s w' => Ext w5 w' ∧ s.1 ≤ x.1.length ∧ s.2 = (bad0 x ((fs.take i).map (·.1)) || (x.1.take s.1).any badB)) (fun s _ => x.1.length - s.1) (0, false) rfl ⟨Ext.refl _, Nat.zero_le _, by rw [e0]; simp⟩ ?_
      rintro ⟨k, b⟩ w6 ⟨hE56, hk, hbv⟩
      simp only at hk hbv
      have hI6 := hI5.ext hE56
      have hB6 := hB5.ext hE56
      refine wif_d (fun c3 => ?_) (fun c3 => ?_)
      · have hkl : k < x.1.length := by rw [hns] at c3; simp only at c3; omega
        obtain ⟨y, hy⟩ : ∃ y, x.1[k]? = some y := ⟨_, List.getElem?_eq_getElem hkl⟩
        have hstep : (x.1.take (k + 1)).any badB = ((x.1.take k).any badB || badB y) := by
          rw [List.take_add_one, hy]; simp
        have fin : ∀ b', b' = (b || badB y) → b' = (bad0 x ((fs.take i).map (·.1)) || (x.1.take (k + 1)).any badB) := fun b' e => by rw [e, hbv, hstep, Bool.or_assoc]
        cases b with
        | true =>
          refine wif_t rfl ?_
          refine norm_i64_to ((k + 1 : Nat) : Int) (by show ((k : Nat) : Int) + 1 = _; omega) (by omega) ?_
          exact ⟨(k + 1, true), rfl, ⟨hE56, hkl, fin true rfl⟩, by show x.1.length - (k + 1) < x.1.length - k; omega⟩
        | false =>
          have idx : ∀ K : Int → Prop, K (y : Int) → SIndex (strOf x.1) ((k : Nat) : Int) K := fun K hK => by
            refine sindex' (by rw [hns]; exact hkl) (fun z hz _ => ?_)
            rw [bytesOf_strOf hxb.n8, hy] at hz
            cases hz; exact hK
          refine wif_f rfl ?_
          refine load_blk hB6 rfl ?_
          refine idx _ ?_
          refine wif_d (fun d1 => ?_) (fun d1 => ?_)
          · refine norm_i64_to ((k + 1 : Nat) : Int) (by show ((k : Nat) : Int) + 1 = _; omega) (by omega) ?_
            exact ⟨(k + 1, true), rfl, ⟨hE56, hkl, fin true (by have : y < 32 := by omega
                                                                simp [badB, this])⟩, by show x.1.length - (k + 1) < x.1.length - k; omega⟩
          refine load_blk hB6 rfl ?_
          refine idx _ ?_
          refine wif_eq (fun d2 => ?_) (fun d2 => ?_)
          · refine norm_i64_to ((k + 1 : Nat) : Int) (by show ((k : Nat) : Int) + 1 = _; omega) (by omega) ?_
            exact ⟨(k + 1, true), rfl, ⟨hE56, hkl, fin true (by have : y = 34 := by omega
                                                                simp [badB, this])⟩, by show x.1.length - (k + 1) < x.1.length - k; omega⟩
          refine load_blk hB6 rfl ?_
          refine idx _ ?_
          refine norm_i64_to ((k + 1 : Nat) : Int) (by show ((k : Nat) : Int) + 1 = _; omega) (by omega) ?_
          refine ⟨(k + 1, ((y : Int) == 127)), rfl, ⟨hE56, hkl, fin _ ?_⟩, by show x.1.length - (k + 1) < x.1.length - k; omega⟩
          have n1 : ¬ y < 32 := by omega
          have n2 : ¬ y = 34 := by omega
          by_cases n3 : y = 127
          · subst n3; rfl
          · have : ((y : Int) == 127) = false := by simp; omega
            rw [this]; simp [badB, n1, n2, n3]
      · have hkl : k = x.1.length := by rw [hns] at c3; simp only at c3; omega
        subst hkl
        rw [List.take_length] at hbv
        have hall := bad_all x ((fs.take i).map (·.1))
        have hdrop : fs.drop i = x :: fs.drop (i + 1) := by
          rw [List.drop_eq_getElem_cons (by omega)]
          congr 1
          exact Option.some.inj ((List.getElem?_eq_getElem (by omega)).symm.trans hx)
        have hrs := hI6.rs
        rw [hdrop, chkFs] at hrs
        have hB16 := ((hB1.ext hI.e).ext hE35).ext hE56
        refine wif (fun d1 => ?_) (fun d1 => ?_)
        · have d1 : b = true := d1
          rw [if_pos (hall.1 (by rw [← hbv, d1]))] at hrs
          refine storeN_blk0 hB16 rfl (sc rfl) (fun w7 hg7 _ hB7 => ?_)
          refine loadN_blk0 hB7 rfl ?_
          have hM7 : Mod (· = w.heap.size) w6 w7 := Mod.of_grown hg7 rfl
          exact ⟨by rw [← hrs]; rfl, hM7.ext (hE1.trans hI6.e) (fun i hi => by omega)⟩
        have d1 : b = false := d1
        have hok := fun hh => (hall.2 hh).symm.trans (hbv.symm.trans d1)
        rw [if_neg (fun hh => by have := hok hh; cases this)] at hrs
        refine load_blk hB6 rfl ?_
        refine wif_d (fun d2 => ?_) (fun d2 => ?_)
        · rw [if_pos (by omega)] at hrs
          refine storeN_blk0 hB16 rfl (sc rfl) (fun w7 hg7 _ hB7 => ?_)
          refine loadN_blk0 hB7 rfl ?_
          have hM7 : Mod (· = w.heap.size) w6 w7 := Mod.of_grown hg7 rfl
          exact ⟨by rw [← hrs]; rfl, hM7.ext (hE1.trans hI6.e) (fun i hi => by omega)⟩
        rw [if_neg (by omega)] at hrs
        refine load_blk hB6 rfl ?_
        have hm6 := hm5.ext hE56
        refine at_mapUpdate (kv := strK) (a := strOf x.1) gx_ok rfl rfl rfl rfl rfl KeyV.str rfl rfl rfl hm6 (fun w7 hg7 hz7 hm7 => ?_)
        have hM7 : Mod (· = w1.heap.size) w6 w7 := Mod.of_grown hg7 rfl
        refine norm_i64_to ((i + 1 : Nat) : Int) (by show ((i : Nat) : Int) + 1 = _; omega) (by omega) ?_
        have htk : (fs.take (i + 1)).map (·.1) = (fs.take i).map (·.1) ++ [x.1] := by rw [List.take_add_one, hx]; simp
        refine ⟨i + 1, rfl, ⟨hM7.ext hI6.e (fun i hi => by omega), ⟨_, hm7, fun s hs => ?_⟩, by rw [htk]; exact hrs, by omega, Nat.le_refl _⟩, by show fs.length - (i + 1) < fs.length - i; omega⟩
        rw [assoc_set, htk]
        by_cases hsx : s = x.1
        · subst hsx; simp
        · rw [if_neg (fun e => hsx (strOf_inj hs hxb.n8 e)), hlk s hs]
          simp [hsx]
    · have n3 : ¬ strOf x.2 = (⟨#[]⟩ : ByteArray) := fun e => p3 (strOf_inj hxb.t8 (by simp) e)
      refine wif_t (by simp [n3]) ?_
      refine load_blk hB5 rfl ?_
      refine load_blk hB5 rfl ?_
      have htl := hxb.tl
      have hpos : 0 < x.2.length := List.length_pos_iff.2 p3
      refine norm_i64_to ((x.2.length - 1 : Nat) : Int) (by rw [hts]; omega) (by omega) ?_
      refine sindex' (j := x.2.length - 1) (by omega) (fun z hz hz8 => ?_)
      rw [bytesOf_strOf hxb.t8] at hz
      have hlast : x.2.getLast? = some z := by rw [List.getLast?_eq_getElem?]; exact hz
      refine load_blk hB5 rfl ?_
      have e0 : bad0 x ((fs.take i).map (·.1)) = ((z : Int) != 10) := by
        unfold bad0
        rw [decide_eq_false p1, decide_eq_false p2, decide_eq_true p3, hlast]
        by_cases h10 : z = 10
        · subst h10; decide
        · have e1 : ((z : Int) != 10) = true := by simp; omega
          rw [e1]; simp [h10]
      refine loop gx_ok [47, 6] (fun s : Nat × Bool => [.int .i64 s.1, .bool s.2]) (fun s w' => Ext w5 w' ∧ s.1 ≤ x.1.length ∧ s.2 = (bad0 x ((fs.take i).map (·.1)) || (x.1.take s.1).any badB)) (fun s _ => x.1.length - s.1) (0, ((z : Int) != 10)) rfl ⟨Ext.refl _, Nat.zero_le _, by rw [e0]; simp⟩ ?_
      rintro ⟨k, b⟩ w6 ⟨hE56, hk, hbv⟩
      simp only at hk hbv
      have hI6 := hI5.ext hE56
      have hB6 := hB5.ext hE56
      refine wif_d (fun c3 => ?_) (fun c3 => ?_)
      · have hkl : k < x.1.length := by rw [hns] at c3; simp only at c3; omega
        obtain ⟨y, hy⟩ : ∃ y, x.1[k]? = some y := ⟨_, List.getElem?_eq_getElem hkl⟩
        have hstep : (x.1.take (k + 1)).any badB = ((x.1.take k).any badB || badB y) := by
          rw [List.take_add_one, hy]; simp
        have fin : ∀ b', b' = (b || badB y) → b' = (bad0 x ((fs.take i).map (·.1)) || (x.1.take (k + 1)).any badB) := fun b' e => by rw [e, hbv, hstep, Bool.or_assoc]
        cases b with
        | true =>
          refine wif_t rfl ?_
          refine norm_i64_to ((k + 1 : Nat) : Int) (by show ((k : Nat) : Int) + 1 = _; omega) (by omega) ?_
          exact ⟨(k + 1, true), rfl, ⟨hE56, hkl, fin true rfl⟩, by show x.1.length - (k + 1) < x.1.length - k; omega⟩
        | false =>
          have idx : ∀ K : Int → Prop, K (y : Int) → SIndex (strOf x.1) ((k : Nat) : Int) K := fun K hK => by
            refine sindex' (by rw [hns]; exact hkl) (fun z hz _ => ?_)
            rw [bytesOf_strOf hxb.n8, hy] at hz
            cases hz; exact hK
          refine wif_f rfl ?_
          refine load_blk hB6 rfl ?_
          refine idx _ ?_
          refine wif_d (fun d1 => ?_) (fun d1 => ?_)
          · refine norm_i64_to ((k + 1 : Nat) : Int) (by show ((k : Nat) : Int) + 1 = _; omega) (by omega) ?_
            exact ⟨(k + 1, true), rfl, ⟨hE56, hkl, fin true (by have : y < 32 := by omega
                                                                simp [badB, this])⟩, by show x.1.length - (k + 1) < x.1.length - k; omega⟩
          refine load_blk hB6 rfl ?_
          refine idx _ ?_
          refine wif_eq (fun d2 => ?_) (fun d2 => ?_)
          · refine norm_i64_to ((k + 1 : Nat) : Int) (by show ((k : Nat) : Int) + 1 = _; omega) (by omega) ?_
            exact ⟨(k + 1, true), rfl, ⟨hE56, hkl, fin true (by have : y = 34 := by omega
                                                                simp [badB, this])⟩, by show x.1.length - (k + 1) < x.1.length - k; omega⟩
          refine load_blk hB6 rfl ?_
          refine idx _ ?_
          refine norm_i64_to ((k + 1 : Nat) : Int) (by show ((k : Nat) : Int) + 1 = _; omega) (by omega) ?_
          refine ⟨(k + 1, ((y : Int) == 127)), rfl, ⟨hE56, hkl, fin _ ?_⟩, by show x.1.length - (k + 1) < x.1.length - k; omega⟩
          have n1 : ¬ y < 32 := by omega
          have n2 : ¬ y = 34 := by omega
          by_cases n3 : y = 127
          · subst n3; rfl
          · have : ((y : Int) == 127) = false := by simp; omega
            rw [this]; simp [badB, n1, n2, n3]
      · have hkl : k = x.1.length := by rw [hns] at c3; simp only at c3; omega
        subst hkl
        rw [List.take_length] at hbv
        have hall := bad_all x ((fs.take i).map (·.1))
        have hdrop : fs.drop i = x :: fs.drop (i + 1) := by
          rw [List.drop_eq_getElem_cons (by omega)]
          congr 1
          exact Option.some.inj ((List.getElem?_eq_getElem (by omega)).symm.trans hx)
        have hrs := hI6.rs
        rw [hdrop, chkFs] at hrs
        have hB16 := ((hB1.ext hI.e).ext hE35).ext hE56
        refine wif (fun d1 => ?_) (fun d1 => ?_)
        · have d1 : b = true := d1
          rw [if_pos (hall.1 (by rw [← hbv, d1]))] at hrs
          refine storeN_blk0 hB16 rfl (sc rfl) (fun w7 hg7 _ hB7 => ?_)
          refine loadN_blk0 hB7 rfl ?_
          have hM7 : Mod (· = w.heap.size) w6 w7 := Mod.of_grown hg7 rfl
          exact ⟨by rw [← hrs]; rfl, hM7.ext (hE1.trans hI6.e) (fun i hi => by omega)⟩
        have d1 : b = false := d1
        have hok := fun hh => (hall.2 hh).symm.trans (hbv.symm.trans d1)
        rw [if_neg (fun hh => by have := hok hh; cases this)] at hrs
        refine load_blk hB6 rfl ?_
        refine wif_d (fun d2 => ?_) (fun d2 => ?_)
        · rw [if_pos (by omega)] at hrs
          refine storeN_blk0 hB16 rfl (sc rfl) (fun w7 hg7 _ hB7 => ?_)
          refine loadN_blk0 hB7 rfl ?_
          have hM7 : Mod (· = w.heap.size) w6 w7 := Mod.of_grown hg7 rfl
          exact ⟨by rw [← hrs]; rfl, hM7.ext (hE1.trans hI6.e) (fun i hi => by omega)⟩
        rw [if_neg (by omega)] at hrs
        refine load_blk hB6 rfl ?_
        have hm6 := hm5.ext hE56
        refine at_mapUpdate (kv := strK) (a := strOf x.1) gx_ok rfl rfl rfl rfl rfl KeyV.str rfl rfl rfl hm6 (fun w7 hg7 hz7 hm7 => ?_)
        have hM7 : Mod (· = w1.heap.size) w6 w7 := Mod.of_grown hg7 rfl
        refine norm_i64_to ((i + 1 : Nat) : Int) (by show ((i : Nat) : Int) + 1 = _; omega) (by omega) ?_
        have htk : (fs.take (i + 1)).map (·.1) = (fs.take i).map (·.1) ++ [x.1] := by rw [List.take_add_one, hx]; simp
        refine ⟨i + 1, rfl, ⟨hM7.ext hI6.e (fun i hi => by omega), ⟨_, hm7, fun s hs => ?_⟩, by rw [htk]; exact hrs, by omega, Nat.le_refl _⟩, by show fs.length - (i + 1) < fs.length - i; omega⟩
        rw [assoc_set, htk]
        by_cases hsx : s = x.1
        · subst hsx; simp
        · rw [if_neg (fun e => hsx (strOf_inj hs hxb.n8 e)), hlk s hs]
          simp [hsx]
  · have hi : i = fs.length := by have := hI.le; omega
    have hrs := hI.rs
    rw [hi, List.drop_length, chkFs] at hrs
    refine storeN_blk0 (hB1.ext hI.e) rfl (sc rfl) (fun w4 hg4 _ hB4 => ?_)
    refine loadN_blk0 hB4 rfl ?_
    have hM4 : Mod (· = w.heap.size) w3 w4 := Mod.of_grown hg4 rfl
    exact ⟨by rw [← hrs]; rfl, hM4.ext hE03 (fun i hi => by omega)⟩
end

section
open Go Go.RowKit

theorem wpOpsS_recover {P : Program} {ops : Array Oper} {rest : List Nat} {i : Nat} {o : Oper} {Q : Exit → Act → List Frame → World → Prop} {a : Act} {cs cs' : List Frame} {w : World} {v : Value} {d : Nat} (hi : ops[i]? = some o) (h1 : o.op = .call ⟨.builtin .recover, #[], #[]⟩) (hd : o.dst = some d) (hg : o.guard = none)
    (hrec : recoverD cs = some (v, cs') ∨ (recoverD cs = none ∧ v = .nilIface ∧ cs' = cs)) (h : wpOpsS P ops Q rest (a.put (some d) v) cs' w) : wpOpsS P ops Q (i :: rest) a cs w := by
  have e1 : (execOp a.eval o).run P w = .ok .recover w := by
    simp only [execOp, h1, resolve, invoke, builtin]
    simp
  unfold wpOpsS
  rw [hi]
  simp only
  rw [if_pos (by simp [Region.wanted, hg]), e1, hd]
  rcases hrec with hr | ⟨hr, rfl, rfl⟩
  · simp only [hr]; exact h
  · simp only [hr]; exact h
theorem wpOpsS_exec {c : Cx} (hg : c.g.Ok) {P : Program} (hP : c.g.P = P) {ops : Array Oper} {rest : List Nat} {i : Nat} {o : Oper} {Q : Exit → Act → List Frame → World → Prop} {a : Act} {cs : List Frame} {w : World} {S : Env} {K : Env → World → Prop} (hi : ops[i]? = some o) (hgd : o.guard = none) (hf : Fits c.N S a)
    (h : execO c o S w K (fun _ _ _ => False)) (hk : ∀ S' a' w', Fits c.N S' a' → K S' w' → wpOpsS P ops Q rest a' cs w') : wpOpsS P ops Q (i :: rest) a cs w := by
  subst hP
  have h1 := execO_sound hg h hf
  unfold wpOpsS
  rw [hi]
  simp only
  rw [if_pos (by simp [Region.wanted, hgd])]
  have h2 := Oper.wp_mono (K' := fun a' w' => wpOpsS c.g.P ops Q rest a' cs w') (fun a' w' ⟨S', hf', hK⟩ => hk _ _ _ hf' hK) h1
  unfold Oper.wp at h2
  generalize (execOp a.eval o).run c.g.P w = r at *
  cases r with
  | ok n w' =>
    cases n <;> simp only [Oper.upon] at h2 ⊢ <;> first | exact h2 | exact h2.elim | skip
    exact h2.mono fun e w'' he => by
      cases e with
      | returned v => exact he
      | panicked ch => obtain ⟨_, _, he⟩ := he; exact he.elim
      | outgrown => obtain ⟨_, _, _, _, he⟩ := he; exact he.elim
  | halt x w' => cases x <;> simp only [Oper.upon] at h2 ⊢ <;> first | exact h2 | (obtain ⟨_, _, h2⟩ := h2; exact h2.elim) | (obtain ⟨_, _, _, _, h2⟩ := h2; exact h2.elim)

theorem at_assert_st {c : Cx} {o : Oper} {S : Env} {w : World} {K : Env → World → Prop} {Q : Post} {x : Operand} {tx t : Nat} {fs : Array Field} {v : Value} {r : TyRow} (hg : c.g.Ok) (ho : o.op = .typeAssert x tx t true) (hr : rowOf c.g.tys t = some r) (hd : r.d = .struct fs) (hx : S.ev x = some (.iface t v))
    (kk : putK c S o.dst (.v (.tuple #[v, .bool true])) (fun S => K S w)) : AtOp c o S w K Q := by
  have hr' := (hg.row hr).1
  rw [hd] at hr'
  refine at_run (w' := w) (v := .tuple #[v, .bool true]) (fun a hf => ?_) kk
  have e1 := hf.ev hx
  simp only [execOp, ho, e1]
  simp [Instr.typeAssert, run_underlying hr']
theorem at_assert_nil {c : Cx} {o : Oper} {S : Env} {w : World} {K : Env → World → Prop} {Q : Post} {x : Operand} {tx t : Nat} {fs : Array Field} {r : TyRow} (hg : c.g.Ok) (ho : o.op = .typeAssert x tx t true) (hr : rowOf c.g.tys t = some r) (hd : r.d = .struct fs) (hx : S.ev x = some .nilIface)
    (kk : putK c S o.dst (.v (.tuple #[r.z, .bool false])) (fun S => K S w)) : AtOp c o S w K Q := by
  obtain ⟨hr', i, hi, _, _, hz⟩ := hg.row hr
  rw [hd] at hr'
  refine at_run (w' := w) (v := .tuple #[r.z, .bool false]) (fun a hf => ?_) kk
  have e1 := hf.ev hx
  simp only [execOp, ho, e1]
  simp [Instr.typeAssert, run_underlying hr', zeroValue, typeInfo, hi, hz]

/-- Behind a panic of the reader's. -/
def RecPl (f e : Nat) (q : Pl) (w w' : World) : Prop := Blk w' f 29 [.string (strOf []), .slice none 0 0] ∧ Blk w' e 32 (plC q) ∧ Mod (fun i => i = f ∨ i = e) w w'
theorem srec_fn (f e : Nat) (q : Pl) (w : World) (cs1 cs2 : List Value) (hl1 : cs1.length = 2) (hl2 : cs2.length = 3) (hne : f ≠ e) (hf : Blk w f 29 cs1) (he : Blk w e 32 cs2) :
    CallsD Tryz.prog 45 #[.pointer (some ⟨f, 0, none⟩), .pointer (some ⟨e, 0, none⟩)] (.panicking (failPan q.e q.f q.l)) w
      (fun en u' w' => ∃ v, en = .returned v ∧ settle u' = .returning ∧ RecPl f e q w w') := by
  refine callsD_of_wpS Tryz.func45 rfl fun c₀ cs hu => ?_
  have hfit := fits_args (N := Tryz.f45.ntmps) [.pointer (some ⟨f, 0, none⟩), .pointer (some ⟨e, 0, none⟩)] (Nat.le_of_ble_eq_true rfl) [(0, .v (.pointer (some ⟨f, 0, none⟩))), (1, .v (.pointer (some ⟨e, 0, none⟩)))] (by
    intro k x hk
    match k, hk with
    | 0, hk => cases hk; rfl
    | 1, hk => cases hk; rfl
    | k + 2, hk => exact nomatch (show (none : Option Ent) = some x from hk))
  have hf5 := hfit.put (d := 5) (by decide) (.v (.iface 90 (.agg #[.int .i64 q.e, .int .i64 q.f, .int .i64 q.l])))
  refine wpS_seq (wpS_region ?_)
  show wpOpsS _ _ _ [0, 1, 2, 3, 4, 5, 6, 7] _ _ _
  refine wpOpsS_recover (o := _) (cs' := { c₀ with mode := .panicking [{ v := .iface 90 (.agg #[.int .i64 q.e, .int .i64 q.f, .int .i64 q.l]), recovered := true }] } :: cs) (v := .iface 90 (.agg #[.int .i64 q.e, .int .i64 q.f, .int .i64 q.l])) (d := 5) rfl rfl rfl rfl (.inl (by simp [recoverD, hu, failPan])) ?_
  generalize hact : Act.put _ (some 5) _ = act
  have hf5' : Fits c45.N [(5, .v (.iface 90 (.agg #[.int .i64 q.e, .int .i64 q.f, .int .i64 q.l]))), (0, .v (.pointer (some ⟨f, 0, none⟩))), (1, .v (.pointer (some ⟨e, 0, none⟩)))] act := by rw [← hact]; exact hf5
  clear hact hf5 hfit
  generalize hops : #[_, _, _, _, _, _, _, _] = ops0
  have h1 := (congrArg (fun (x : Array Oper) => x[1]?) hops).symm
  have h2 := (congrArg (fun (x : Array Oper) => x[2]?) hops).symm
  have h3 := (congrArg (fun (x : Array Oper) => x[3]?) hops).symm
  have h4 := (congrArg (fun (x : Array Oper) => x[4]?) hops).symm
  have h5 := (congrArg (fun (x : Array Oper) => x[5]?) hops).symm
  have h6 := (congrArg (fun (x : Array Oper) => x[6]?) hops).symm
  have h7 := (congrArg (fun (x : Array Oper) => x[7]?) hops).symm
  clear hops
  refine wpOpsS_exec (c := c45) gx_ok rfl h1 rfl hf5' (K := fun S' w' => S' = [(6, Ent.v (.tuple #[.agg #[.int .i64 q.e, .int .i64 q.f, .int .i64 q.l], .bool true])), (5, .v (.iface 90 (.agg #[.int .i64 q.e, .int .i64 q.f, .int .i64 q.l]))), (0, .v (.pointer (some ⟨f, 0, none⟩))), (1, .v (.pointer (some ⟨e, 0, none⟩)))] ∧ w = w') (at_assert_st gx_ok rfl rfl rfl rfl ⟨rfl, rfl⟩) ?_
  rintro _ a1 _ hf1 ⟨rfl, rfl⟩
  refine wpOpsS_exec (c := c45) gx_ok rfl h2 rfl hf1 (K := fun S' w' => S' = _ ∧ w = w') ⟨rfl, rfl⟩ ?_
  rintro _ a2 _ hf2 ⟨rfl, rfl⟩
  refine wpOpsS_exec (c := c45) gx_ok rfl h3 rfl hf2 (K := fun S' w' => S' = _ ∧ w = w') ⟨rfl, rfl⟩ ?_
  rintro _ a3 _ hf3 ⟨rfl, rfl⟩
  refine wpOpsS_exec (c := c45) gx_ok rfl h4 rfl hf3 (K := fun S' w' => S' = _ ∧ w = w') ⟨rfl, rfl⟩ ?_
  rintro _ a4 _ hf4 ⟨rfl, rfl⟩
  refine wpOpsS_exec (c := c45) gx_ok rfl h5 rfl hf4 (K := fun S' w' => S' = (2, .v (.pointer (some ⟨w.heap.size, 0, none⟩))) :: _ ∧ Ext w w' ∧ w'.heap.size = w.heap.size + 1 ∧ ∃ ps : List Value, Blk w' w.heap.size 90 ps ∧ ps.length = 3) (new (fun w1 hE1 hz1 hB1 => ⟨rfl, hE1, hz1, _, hB1, rfl⟩)) ?_
  rintro _ a5 w5 hf5 ⟨rfl, hE5, hz5, ps, hB5, hps⟩
  refine wpOpsS_exec (c := c45) gx_ok rfl h6 rfl hf5 (K := fun S' w' => S' = _ ∧ Ext w w' ∧ w.heap.size + 1 ≤ w'.heap.size ∧ Blk w' w.heap.size 90 (plC q)) (storeN_blk0 hB5 (by rw [hps]; rfl) (sc rfl) (fun w6 hg6 hz6 hB6 => ⟨rfl, newBox hE5 hB5 hg6, by omega, hB6⟩)) ?_
  rintro _ a6 w6 hf6 ⟨rfl, hE6, hz6, hB6⟩
  refine wpOpsS_exec (c := c45) gx_ok rfl h7 rfl hf6 (K := fun S' w' => S' = _ ∧ w6 = w') ⟨rfl, rfl⟩ ?_
  rintro _ a7 _ hf7 ⟨rfl, rfl⟩
  unfold wpOpsS
  refine wpS_rest (c := c45) gx_ok rfl hf7 ?_
  refine wif_t rfl ?_
  have nf : f ≠ w.heap.size := fun e => by have := hf.lt; omega
  have ne : e ≠ w.heap.size := fun e => by have := he.lt; omega
  have hf6' := hf.ext hE6
  have he6' := he.ext hE6
  refine draw_plan gx_ok (fun w' => Mod (fun i => i = f ∨ i = e) w6 w') 5 [(true, 0), (true, 1), (true, 2), (false, 3), (false, 4)] (by kernel_rfl) (Mod.of_ext _ (Ext.drew w6)) ?_
  refine qloadN (vs := plC q) rfl (fun w' hw' j u hj => by rw [add_add, (hB6.mod hw' (fun hh => hh.elim (fun e => nf e.symm) (fun e => ne e.symm))).cell]; simpa using hj) ?_
  have hd := Ext.drew w6
  refine storeN_blk0 (hf6'.ext hd) (by rw [hl1]; rfl) (sc rfl) (fun w8 hg8 _ hB8 => ?_)
  have hM8 : Mod (· = f) w6.drew w8 := Mod.of_grown hg8 rfl
  have hM8' : Mod (fun i => i = f ∨ i = e) w6 w8 := (Mod.of_ext _ hd).trans hM8 (fun i hi => .inl (.inl hi))
  refine ⟨hM8', ?_⟩
  refine storeN_blk0 ((he6'.ext hd).mod hM8 (fun hh => hne hh.symm)) (by rw [hl2]; rfl) (sc rfl) (fun w9 hg9 _ hB9 => ?_)
  have hM9 : Mod (· = e) w8 w9 := Mod.of_grown hg9 rfl
  have hM9' : Mod (fun i => i = f ∨ i = e) w6 w9 := hM8'.trans hM9 (fun i hi => .inl (.inr hi))
  refine ⟨hM9', ?_⟩
  exact ⟨_, rfl, rfl, hB8.mod hM9 hne, hB9, (Mod.of_ext _ hE6).trans hM9' (fun i hi => .inl hi)⟩

theorem srec_ret_fn (f e : Nat) (w : World) :
    CallsD Tryz.prog 45 #[.pointer (some ⟨f, 0, none⟩), .pointer (some ⟨e, 0, none⟩)] .returning w
      (fun en u' w' => ∃ v, en = .returned v ∧ settle u' = .returning ∧ Ext w w') := by
  refine callsD_of_wpS Tryz.func45 rfl fun c₀ cs hu => ?_
  have hfit := fits_args (N := Tryz.f45.ntmps) [.pointer (some ⟨f, 0, none⟩), .pointer (some ⟨e, 0, none⟩)] (Nat.le_of_ble_eq_true rfl) [(0, .v (.pointer (some ⟨f, 0, none⟩))), (1, .v (.pointer (some ⟨e, 0, none⟩)))] (by
    intro k x hk
    match k, hk with
    | 0, hk => cases hk; rfl
    | 1, hk => cases hk; rfl
    | k + 2, hk => exact nomatch (show (none : Option Ent) = some x from hk))
  have hf5 := hfit.put (d := 5) (by decide) (.v .nilIface)
  refine wpS_seq (wpS_region ?_)
  show wpOpsS _ _ _ [0, 1, 2, 3, 4, 5, 6, 7] _ _ _
  refine wpOpsS_recover (o := _) (cs' := { c₀ with mode := .returning } :: cs) (v := .nilIface) (d := 5) rfl rfl rfl rfl (.inr ⟨by simp [recoverD, hu], rfl, by rw [← hu]⟩) ?_
  generalize hact : Act.put _ (some 5) _ = act
  have hf5' : Fits c45.N [(5, .v .nilIface), (0, .v (.pointer (some ⟨f, 0, none⟩))), (1, .v (.pointer (some ⟨e, 0, none⟩)))] act := by rw [← hact]; exact hf5
  clear hact hf5 hfit
  generalize hops : #[_, _, _, _, _, _, _, _] = ops0
  have h1 := (congrArg (fun (x : Array Oper) => x[1]?) hops).symm
  have h2 := (congrArg (fun (x : Array Oper) => x[2]?) hops).symm
  have h3 := (congrArg (fun (x : Array Oper) => x[3]?) hops).symm
  have h4 := (congrArg (fun (x : Array Oper) => x[4]?) hops).symm
  have h5 := (congrArg (fun (x : Array Oper) => x[5]?) hops).symm
  have h6 := (congrArg (fun (x : Array Oper) => x[6]?) hops).symm
  have h7 := (congrArg (fun (x : Array Oper) => x[7]?) hops).symm
  clear hops
  refine wpOpsS_exec (c := c45) gx_ok rfl h1 rfl hf5' (K := fun S' w' => S' = _ ∧ w = w') (at_assert_nil gx_ok rfl rfl rfl rfl ⟨rfl, rfl⟩) ?_
  rintro _ a1 _ hf1 ⟨rfl, rfl⟩
  refine wpOpsS_exec (c := c45) gx_ok rfl h2 rfl hf1 (K := fun S' w' => S' = _ ∧ w = w') ⟨rfl, rfl⟩ ?_
  rintro _ a2 _ hf2 ⟨rfl, rfl⟩
  refine wpOpsS_exec (c := c45) gx_ok rfl h3 rfl hf2 (K := fun S' w' => S' = _ ∧ w = w') ⟨rfl, rfl⟩ ?_
  rintro _ a3 _ hf3 ⟨rfl, rfl⟩
  refine wpOpsS_exec (c := c45) gx_ok rfl h4 rfl hf3 (K := fun S' w' => S' = _ ∧ w = w') ⟨rfl, rfl⟩ ?_
  rintro _ a4 _ hf4 ⟨rfl, rfl⟩
  refine wpOpsS_exec (c := c45) gx_ok rfl h5 rfl hf4 (K := fun S' w' => S' = (2, .v (.pointer (some ⟨w.heap.size, 0, none⟩))) :: _ ∧ Ext w w' ∧ w'.heap.size = w.heap.size + 1 ∧ ∃ ps : List Value, Blk w' w.heap.size 90 ps ∧ ps.length = 3) (new (fun w1 hE1 hz1 hB1 => ⟨rfl, hE1, hz1, _, hB1, rfl⟩)) ?_
  rintro _ a5 w5 hf5 ⟨rfl, hE5, hz5, ps, hB5, hps⟩
  refine wpOpsS_exec (c := c45) gx_ok rfl h6 rfl hf5 (K := fun S' w' => S' = _ ∧ Ext w w') (storeN_blk0 hB5 (by rw [hps]; rfl) (sc rfl) (fun w6 hg6 hz6 hB6 => ⟨rfl, newBox hE5 hB5 hg6⟩)) ?_
  rintro _ a6 w6 hf6 ⟨rfl, hE6⟩
  refine wpOpsS_exec (c := c45) gx_ok rfl h7 rfl hf6 (K := fun S' w' => S' = _ ∧ w6 = w') ⟨rfl, rfl⟩ ?_
  rintro _ a7 _ hf7 ⟨rfl, rfl⟩
  unfold wpOpsS
  refine wpS_rest (c := c45) gx_ok rfl hf7 ?_
  refine wif_f rfl ?_
  exact ⟨_, rfl, rfl, hE6⟩
end

section
open Go Go.RowKit

theorem parse_true {nm : List (List Nat)} (hb : NamesOk nm) : (parseP nm trueL).2 = if numsOk nm then 0 else 1 := by
  by_cases h : numsOk nm = true
  · rw [if_pos h, show trueL = prF nm 0 (.c true) from rfl, parse_print h (nmOk_of hb h) (.c true) trivial (by decide)]
  · rw [if_neg h]; unfold parseP; rw [if_neg h]

/-- Segments in memory. -/
structure SgIn (w : World) (k : Nat) (A : Option Addr) (n c : Nat) (sg : List Sg) (L : List DV) : Prop where
  sl : Sl w 6 A n c (sgV sg L)
  n : sg.length = n
  len : L.length = sg.length
  dg : ∀ (j : Nat) (s : Sg) (x : DV), sg[j]? = some s → L[j]? = some x → SB w x.A x.n x.c x.nd ∧ Set1 k x.nd x.r s.o
theorem SgIn.ext {w w' : World} {k : Nat} {A : Option Addr} {n c : Nat} {sg : List Sg} {L : List DV} (h : SgIn w k A n c sg L) (hE : Ext w w') : SgIn w' k A n c sg L := ⟨h.sl.ext hE, h.n, h.len, fun j s x h1 h2 => ⟨(h.dg j s x h1 h2).1.ext hE, (h.dg j s x h1 h2).2⟩⟩
/-- What a source is. -/
structure GsOk (g : Gs) : Prop where
  b8 : ∀ x ∈ g.tx, x < 256
  tl : g.tx.length ≤ 1048576
  sl : g.sg.length ≤ 65536
abbrev srcV (tx : List Nat) (A : Option Addr) (n c : Nat) : Value := .agg #[.string (strOf tx), .slice A n c]
/-- What Read answers. -/
def ReadR (k : Nat) (w : World) (r : Except Pl Gs) (u : Value) (w' : World) : Prop := Ext w w' ∧ match r with
  | .error q => u = .tuple #[srcV [] none 0 0, .agg (plC q).toArray]
  | .ok g => GsOk g ∧ ∃ A c L, u = .tuple #[srcV g.tx A g.sg.length c, .agg (plC ⟨0, 0, 0⟩).toArray] ∧ SgIn w' k A g.sg.length c g.sg L

theorem chkFs_ne : ∀ (l : List (List Nat × List Nat)) (seen : List (List Nat)) (i : Nat) (q : Pl), chkFs l seen i = some q → q.e ≠ 0
  | [], _, _, _, h => by cases h
  | x :: l, seen, i, q, h => by
    unfold chkFs at h
    split at h
    · cases h; exact (by decide : (70 : Int) ≠ 0)
    split at h
    · cases h; exact (by decide : (2 : Int) ≠ 0)
    · exact chkFs_ne l _ _ q h
theorem filesE_ne {fs : List (List Nat × List Nat)} {q : Pl} (h : filesE fs = some q) : q.e ≠ 0 := by
  unfold filesE at h
  split at h
  · cases h; decide
  · exact chkFs_ne _ _ _ _ h
theorem chkFs_ok : ∀ (l : List (List Nat × List Nat)) (seen : List (List Nat)) (i : Nat), chkFs l seen i = none → ∀ x ∈ l, fnameOk x.1 = true ∧ textB x.2 = true ∧ x.2.length ≤ 1048576
  | [], _, _, _, x, hx => by cases hx
  | y :: l, seen, i, h, x, hx => by
    unfold chkFs at h
    split at h
    · cases h
    split at h
    · cases h
    · rename_i h1 h2
      have h1 := Decidable.not_not.1 h1
      rcases List.mem_cons.1 hx with rfl | hx
      · exact ⟨h1.1, h1.2.2, by omega⟩
      · exact chkFs_ok l _ _ h x hx
theorem textB_ok {l : List Nat} (h : textB l = true) : TextOk l := by
  unfold textB at h
  rw [Bool.or_eq_true] at h
  rcases h with h | h
  · exact .inl (of_decide_eq_true h)
  · exact .inr (by simpa using h)
theorem filesE_ok {fs : List (List Nat × List Nat)} (h : filesE fs = none) (hb : ∀ x ∈ fs, FileB x) : fs.length ≤ 256 ∧ ∀ x ∈ fs, FileOk x := by
  unfold filesE at h
  split at h
  · cases h
  · rename_i hl
    refine ⟨by omega, fun x hx => ?_⟩
    obtain ⟨h1, h2, h3⟩ := chkFs_ok _ _ _ h x hx
    have hbx := hb x hx
    exact ⟨hbx.n8, hbx.t8, hbx.nl, h3, textB_ok h2⟩

/-- The world in which the numbers' map is full already. -/
theorem virt {w7 w' : World} {nq : Nat} {m : List (ByteArray × Value)} (h : w7.heap.size = nq + 1) (hm : Mod (· = nq) w7 w') (hq : MapAt strK w' nq m) : ∃ w0, Ext w0 w' ∧ w0.heap.size = nq + 1 ∧ MapAt strK w0 nq m ∧ ∀ w, Ext w w7 → w.heap.size ≤ nq → Ext w w0 := by
  obtain ⟨bs, ck, hl, hb⟩ := hq.ex
  refine ⟨{ w7 with heap := w7.heap.setIfInBounds nq (.map (entsOf strK m bs).toArray ck) }, ⟨hm.os, hm.tape, hm.output, ?_, fun i hi _ => ?_⟩, by simp [h], ⟨bs, ck, hl, ?_⟩, fun w hE hle => ⟨hE.os, hE.tape, hE.output, ?_, fun i hi hn => ?_⟩⟩
  · simpa using hm.size
  · simp only [Array.size_setIfInBounds] at hi
    simp only [Array.getElem?_setIfInBounds]
    by_cases e : nq = i
    · subst e
      rw [if_pos rfl, if_pos (by omega), hb]
    · rw [if_neg e]; exact hm.block i hi (fun e2 => e e2.symm)
  · simp [h]
  · simpa using hE.size
  · simp only [Array.getElem?_setIfInBounds]
    rw [if_neg (by omega)]
    exact hE.block i hi hn

set_option maxHeartbeats 1600000 in
theorem sread_fn (nm : List (List Nat)) (NA : Option Addr) (nn nc : Nat) (fs : List (List Nat × List Nat)) (FA : Option Addr) (nf cf : Nat) (root : List Nat) (w : World) (hN : Sl w 1 NA nn nc (strsV nm)) (hnb : NamesOk nm) (hk : nm.length ≤ 12) (hF : SlS fileC 2 w FA nf cf fs) (hfb : ∀ x ∈ fs, FileB x) (hnf : nf ≤ 1000000000000) (hr8 : ∀ x ∈ root, x < 256) :
    Fn Tryz.prog 16 [.slice NA nn nc, .slice FA nf cf, .string (strOf root)] w (ReadR nm.length w (readE nm fs root)) := by
  refine fn_of_G (c := { c16 with cuts := [] }) gx_ok Tryz.func16 rfl rfl rfl ?_
  refine atG_seq (atG_exec gx_ok ?_)
  refine new (fun w1 hE1 hz1 hB1 => ?_)
  refine new (fun w2 hE2 hz2 hB2 => ?_)
  have hE02 := hE1.trans hE2
  refine atG_seq (atG_exec gx_ok ?_)
  refine call (parse_fn nm NA nn nc trueL w2 (hN.ext hE02) hnb (by decide) (by decide)) ?_
  rintro _ w3 ⟨G, mg, cG, rfl, hE3, hG⟩
  have hE03 := hE02.trans hE3
  have hBs := (hB1.ext hE2).ext hE3
  have hBp := hB2.ext hE3
  have hne : w1.heap.size ≠ w.heap.size := by omega
  have hpt := parse_true hnb
  have hrd : readE nm fs root = if numsOk nm = false then .error ⟨30, -1, 0⟩ else match filesE fs with
    | some p => .error p
    | none => match ixN (fs.map (·.1)) root with
      | none => .error ⟨73, -1, 0⟩
      | some n => rdF nm fs 65 [] 0 n (fun _ => true) ⟨[], [], false⟩ := rfl
  rw [hpt]
  cases hok : numsOk nm with
  | false =>
    rw [if_pos hok] at hrd
    refine wif_net (by decide) ?_
    refine storeN_blk0 hBs rfl (sc rfl) (fun w4 hg4 _ hB4 => ?_)
    have hM4 : Mod (· = w.heap.size) w3 w4 := Mod.of_grown hg4 rfl
    refine storeN_blk0 (hBp.mod hM4 hne) rfl (sc rfl) (fun w5 hg5 _ hB5 => ?_)
    have hM5 : Mod (· = w1.heap.size) w4 w5 := Mod.of_grown hg5 rfl
    refine out0 gx_ok rfl (.inl rfl) ?_
    refine loadN_blk0 (hB4.mod hM5 hne.symm) rfl ?_
    refine loadN_blk0 hB5 rfl ?_
    rw [hrd]
    exact ⟨hM5.ext (hM4.ext hE03 (fun i hi => by omega)) (fun i hi => by omega), rfl⟩
  | true =>
    rw [if_neg (by rw [hok]; decide)] at hrd
    refine wif_nef rfl ?_
    refine atG_seq (atG_exec gx_ok ?_)
    refine call (checkfiles_fn fs FA nf cf w3 (hF.ext hE03) hfb hnf) ?_
    rintro _ w4 ⟨rfl, hE4⟩
    refine new (fun w5 hE5 hz5 hB5 => ?_)
    refine storeN_blk0 hB5 rfl (sc rfl) (fun w6 hg6 _ hB6 => ?_)
    have hE46 : Ext w4 w6 := newBox hE5 hB5 hg6
    have hE36 := hE4.trans hE46
    have hE06 := hE03.trans hE36
    have hBs6 := hBs.ext hE36
    have hBp6 := hBp.ext hE36
    refine load_blk hB6 rfl ?_
    cases hfe : filesE fs with
    | some q =>
      rw [hfe] at hrd hB6
      refine wif_net (filesE_ne hfe) ?_
      have n4 : ¬ w4.heap.size = w.heap.size := by have := hE3.size; have := hE4.size; omega
      have n41 : ¬ w4.heap.size = w1.heap.size := by have := hE4.size; have := hE3.size; omega
      have hd := Ext.drew w6
      refine draw_plan gx_ok (fun w' => Mod (fun i => i = w.heap.size ∨ i = w1.heap.size) w6 w') 4 [(true, 0), (true, 1), (false, 2), (false, 3)] (by kernel_rfl) (Mod.of_ext _ hd) ?_
      refine qloadN (vs := plC q) rfl (fun w' hw' j u hj => by rw [(hB6.mod hw' (fun hh => hh.elim n4 n41)).cell]; exact hj) ?_
      refine storeN_blk0 (hBs6.ext hd) rfl (sc rfl) (fun w7 hg7 _ hB7 => ?_)
      have hM7 : Mod (· = w.heap.size) w6.drew w7 := Mod.of_grown hg7 rfl
      have hM7' : Mod (fun i => i = w.heap.size ∨ i = w1.heap.size) w6 w7 := (Mod.of_ext _ hd).trans hM7 (fun i hi => .inl (.inl hi))
      refine ⟨hM7', ?_⟩
      refine storeN_blk0 ((hBp6.ext hd).mod hM7 hne) rfl (sc rfl) (fun w8 hg8 _ hB8 => ?_)
      have hM8 : Mod (· = w1.heap.size) w7 w8 := Mod.of_grown hg8 rfl
      have hM8' := hM7'.trans hM8 (fun i hi => .inl (.inr hi))
      refine ⟨hM8', ?_⟩
      refine out0 gx_ok rfl (.inl rfl) ?_
      refine loadN_blk0 (hB7.mod hM8 hne.symm) rfl ?_
      refine loadN_blk0 hB8 rfl ?_
      rw [hrd]
      exact ⟨hM8'.ext hE06 (fun i hi => by rcases hi with rfl | rfl <;> omega), rfl⟩
    | none =>
    rw [hfe] at hrd
    refine wif_nef rfl ?_
    obtain ⟨hfl, hfok⟩ := filesE_ok hfe hfb
    have hlen := hF.2
    refine atG_seq (atG_exec gx_ok ?_)
    refine at_makeMap gx_ok strK rfl (fun w7 hE7 hz7 hm7 => ?_)
    refine at_makeMap gx_ok intK rfl (fun w8 hE8 hz8 hm8 => ?_)
    refine new (fun w9 hE9 hz9 hB9 => ?_)
    have hE79 := hE8.trans hE9
    have hE69 := hE7.trans hE79
    have hE09 := hE06.trans hE69
    have hq9 := hm8.ext hE9
    have hn9 := hm7.ext hE79
    have hnames : NamesOk (fs.map (·.1)) := fun s hs => by
      obtain ⟨x, hx, rfl⟩ := List.mem_map.1 hs
      exact ⟨(hfb x hx).n8, (hfb x hx).nl⟩
    have nrq : ¬ w8.heap.size = w6.heap.size := by omega
    refine atG_seq (atG_exec gx_ok ?_)
    refine loop gx_ok [40] (fun i : Nat => [.int .i64 i]) (fun i w' => Mod (· = w6.heap.size) w9 w' ∧ MapAt strK w' w6.heap.size (nameM ((fs.map (·.1)).take i) 0 []) ∧ i ≤ fs.length) (fun i _ => fs.length - i) 0 rfl ⟨Mod.refl _ _, hn9, Nat.zero_le _⟩ ?_
    rintro i w10 ⟨hM10, hm10, hi10⟩
    refine wif_d (fun c2 => ?_) (fun c2 => ?_)
    · have hi : i < nf := by omega
      have hE010 : Ext w w10 := hM10.ext hE09 (fun i hi => by have := hE06.size; omega)
      refine index_sls file_len (hF.ext hE010) rfl hi (fun pp x hx hc => ?_)
      refine loadN_at (vs := fileC x) rfl hc ?_
      refine new (fun w11 hE11 hz11 hB11 => ?_)
      refine storeN_blk0 hB11 rfl (sc rfl) (fun w12 hg12 _ hB12 => ?_)
      have hE1012 : Ext w10 w12 := newBox hE11 hB11 hg12
      have hd := Ext.drew w12
      have hBr := ((hB9.mod hM10 nrq).ext hE1012).ext hd
      refine draw_tail gx_ok 7 (by kernel_rfl) ?_
      refine qload (v := .map (some w6.heap.size)) (fun w' hw' => by subst hw'; rw [hBr.cell]; rfl) ?_
      refine qload (v := .string (strOf x.1)) (fun w' hw' => by subst hw'; rw [(hB12.ext hd).cell]; rfl) ?_
      refine at_mapUpdate (kv := strK) (a := strOf x.1) gx_ok rfl rfl rfl rfl rfl KeyV.str rfl rfl rfl ((hm10.ext hE1012).ext hd) (fun w13 hg13 hz13 hm13 => ?_)
      have hM13 : Mod (· = w6.heap.size) w12.drew w13 := Mod.of_grown hg13 rfl
      refine norm_i64_to ((i + 1 : Nat) : Int) (by show ((i : Nat) : Int) + 1 = _; omega) (by omega) ?_
      refine ⟨i + 1, rfl, ⟨(hM10.trans (Mod.of_ext (· = w6.heap.size) (hE1012.trans hd)) (fun i hi => .inl hi)).trans hM13 (fun i hi => .inl hi), ?_, by omega⟩, by show fs.length - (i + 1) < fs.length - i; omega⟩
      rw [nameM_take (s := x.1) (by rw [List.getElem?_map, hx]; rfl)]
      exact hm13
    have hie : i = fs.length := by omega
    rw [hie, List.take_of_length_le (by simp)] at hm10
    have hM710 : Mod (· = w6.heap.size) w7 w10 := (Mod.of_ext _ hE79).trans hM10 (fun i hi => .inl hi)
    obtain ⟨w0, hw0, hws, hwm, hwe⟩ := virt hz7 hM710 hm10
    have hBr10 := hB9.mod hM10 nrq
    have hlook := ixN_ok hnames root hr8
    have nr6 : ¬ w.heap.size = w6.heap.size := by have := hE36.size; have := hE3.size; omega
    have nr61 : ¬ w1.heap.size = w6.heap.size := by have := hE36.size; have := hE3.size; omega
    have hBs10 := (hBs6.ext hE69).mod hM10 nr6
    have hBp10 := (hBp6.ext hE69).mod hM10 nr61
    have hE010 : Ext w w10 := hM10.ext hE09 (fun i hi => by have := hE06.size; omega)
    refine atG_seq (atG_exec gx_ok ?_)
    refine load_blk hBr10 rfl ?_
    refine at_lookup_ok' (kv := strK) (a := strOf root) (v := .int .i64 ((ixN (fs.map (·.1)) root).getD 0 : Nat)) (b := (ixN (fs.map (·.1)) root).isSome) gx_ok rfl rfl rfl rfl rfl KeyV.str rfl rfl hm10 (by rw [hlook]; cases ixN (fs.map (·.1)) root <;> rfl) (by rw [hlook]; cases ixN (fs.map (·.1)) root <;> rfl) ?_
    refine atG_seq (atG_exec gx_ok ?_)
    cases hix : ixN (fs.map (·.1)) root with
    | none =>
      rw [hix] at hrd
      refine wif_t rfl ?_
      refine storeN_blk0 hBs10 rfl (sc rfl) (fun w11 hg11 _ hB11 => ?_)
      have hM11 : Mod (· = w.heap.size) w10 w11 := Mod.of_grown hg11 rfl
      refine storeN_blk0 (hBp10.mod hM11 hne) rfl (sc rfl) (fun w12 hg12 _ hB12 => ?_)
      have hM12 : Mod (· = w1.heap.size) w11 w12 := Mod.of_grown hg12 rfl
      refine out0 gx_ok rfl (.inl rfl) ?_
      refine loadN_blk0 (hB11.mod hM12 hne.symm) rfl ?_
      refine loadN_blk0 hB12 rfl ?_
      rw [hrd]
      exact ⟨hM12.ext (hM11.ext hE010 (fun i hi => by omega)) (fun i hi => by omega), rfl⟩
    | some n =>
    rw [hix] at hrd
    simp only at hrd
    refine wif_f rfl ?_
    have hnl : n < fs.length := by have := ixN_lt hix; simpa using this
    refine atG_seq (atG_defer gx_ok rfl rfl rfl rfl ⟨_, _, _, _, rfl, rfl, ?_⟩)
    refine atG_seq (atG_exec gx_ok ?_)
    refine call (dconst_fn true w10) ?_
    rintro _ w11 ⟨rfl, hE11⟩
    let p : RP := ⟨w8.heap.size, w7.heap.size, w6.heap.size, NA, nn, nc, nm, FA, nf, cf, fs⟩
    let m : RM := ⟨none, 0, none, 0, [], .pointer none, fun i => i = w.heap.size ∨ i = w1.heap.size⟩
    let v : RV := ⟨0, 0, 0, [], ⟨[], [], false⟩⟩
    have hE60 : Ext w6 w0 := hwe w6 hE7 (Nat.le_refl _)
    have hE00 : Ext w w0 := hE06.trans hE60
    have hP : RPok w0 p := ⟨hN.ext hE00, hnb, hk, hF.ext hE00, hfok, hwm⟩
    have hz11 := hE11.size
    have hz910 := hM10.size
    have h11 : Rr w0 w11 w11.heap.size p m v := by
      refine ⟨hw0.trans hE11, ?_, ?_, ?_, ?_, ?_, Nat.le_refl _, .inl rfl, hBr10.ext hE11, Own.nil _ _ _ _, Own.nil _ _ _ _, rfl, (fun j s x hs => by simp [v] at hs), ?_, (Nat.zero_le _), (Nat.zero_le _), (fun x hx => by cases hx), (fun _ => .inr rfl), (fun i hi => by
        have := hE36.size; have := hE3.size
        rcases hi with hi | hi <;> rw [hi] <;> omega)⟩
      · show w0.heap.size ≤ w8.heap.size; omega
      · show w0.heap.size ≤ w7.heap.size; omega
      · show w8.heap.size < w11.heap.size; omega
      · show w7.heap.size < w11.heap.size; omega
      · show w8.heap.size ≠ w7.heap.size; omega
      · refine ⟨[], (hq9.mod hM10 (by show ¬ w7.heap.size = w6.heap.size; omega)).ext hE11, by simp, fun n => by simp [assoc, v]⟩
    have hk11 : DgO w11 (TS p m) p.nm.length ⟨none, 0, 0, [], 1⟩ (fun _ => true) := ⟨SlS.nil _, const_set _ true, fun ad e => by cases e⟩
    have hws0 : w0.heap.size ≤ w11.heap.size := (hw0.trans hE11).size
    have hout : ∀ i, RS p m i → i = w8.heap.size ∨ i = w7.heap.size := fun i hi => by
      rcases hi with hi | hi | ⟨_, e, _⟩ | ⟨_, e, _⟩
      · exact .inl hi
      · exact .inr hi
      · cases e
      · cases e
    have hBs11 := hBs10.ext hE11
    have hBp11 := hBp10.ext hE11
    have hs36 := hE36.size
    have hs3 := hE3.size
    have keep : ∀ w', Mod (RS p m) w11 w' → Ext w w' ∧ Blk w' w.heap.size 29 (cellsL (.agg #[.string ByteArray.empty, .slice none 0 0])) ∧ Blk w' w1.heap.size 32 (plC ⟨0, 0, 0⟩) := fun w' hm => by
      refine ⟨hm.ext (hE010.trans hE11) (fun i hi => ?_), hBs11.mod hm (fun hi => ?_), hBp11.mod hm (fun hi => ?_)⟩
      · have := hE06.size
        rcases hout i hi with rfl | rfl <;> omega
      · rcases hout _ hi with e | e <;> omega
      · rcases hout _ hi with e | e <;> omega
    refine callP (read_fn w0 w11.heap.size p hP hws0 65 m v n ⟨none, 0, 0, [], 1⟩ (fun _ => true) w11 h11 hk11 hnl (fun hh => by cases hh) (Nat.zero_le _) (Nat.le_refl _)) ?_ ?_
    rotate_left
    · rintro ch w12 ⟨q, hq, rfl, hm12⟩
      have hq : rdF nm fs 65 [] 0 n (fun _ => true) ⟨[], [], false⟩ = .error q := hq
      rw [hq] at hrd
      obtain ⟨hE12, hs12, hp12⟩ := keep w12 hm12
      refine out1p gx_ok rfl rfl (args := #[.pointer (some ⟨w.heap.size, 0, none⟩), .pointer (some ⟨w1.heap.size, 0, none⟩)]) (by simp) ((srec_fn _ _ q w12 _ _ rfl rfl hne.symm hs12 hp12).mono ?_)
      rintro e u' w13 ⟨v, rfl, hs13, hR13⟩
      refine ⟨v, rfl, hs13, ?_⟩
      refine loadN_blk0 hR13.1 rfl ?_
      refine loadN_blk0 hR13.2.1 rfl ?_
      rw [hrd]
      exact ⟨hR13.2.2.ext hE12 (fun i hi => by rcases hi with rfl | rfl <;> omega), rfl⟩
    rintro _ w12 ⟨g', hg', m', hT', h12, hm12, _, _⟩
    have hg' : rdF nm fs 65 [] 0 n (fun _ => true) ⟨[], [], false⟩ = .ok g' := hg'
    rw [hg'] at hrd
    obtain ⟨hE12, hs12, hp12⟩ := keep w12 hm12
    refine atG_seq (atG_exec gx_ok ?_)
    have nb := h12.nrow.2
    have hb12 := h12.rb
    have ht12 := h12.top
    have hrl : ∀ i, rowS m'.BA i → w11.heap.size ≤ i := fun i hi => (h12.txt.rows i hi).1
    have nprs : ¬ (rowS m'.BA w8.heap.size ∨ w8.heap.size = w.heap.size ∨ w8.heap.size = w1.heap.size) := fun hh => by
      rcases hh with hh | hh | hh
      · exact nb hh
      · omega
      · omega
    have hd := Ext.drew w12
    refine draw_plan gx_ok (Mod (fun i => rowS m'.BA i ∨ i = w.heap.size ∨ i = w1.heap.size) w12) 12 [(true, 0), (true, 1), (true, 2), (true, 4), (true, 5), (true, 6), (true, 7), (true, 9), (false, 3), (true, 8), (false, 10), (false, 11)] (by kernel_rfl) (Mod.of_ext _ hd) ?_
    refine qload (v := .slice m'.OA g'.sg.length m'.oc) (fun w' hw' => by rw [(h12.blk.mod hw' nprs).cell]; rfl) ?_
    have htl := h12.tl
    refine call (stringO_fn w11.heap.size w8.heap.size 88 5 (rdC p m' { v with g := g' }) m'.BA m'.bc g'.tx w12.drew (h12.blk.ext hd) rfl (h12.txt.ext hd) h12.b8 (by simp only at htl; omega)) ?_
    rintro _ w13 ⟨rfl, hm13⟩
    have hM13 : Mod (fun i => rowS m'.BA i ∨ i = w.heap.size ∨ i = w1.heap.size) w12 w13 := (Mod.of_ext _ hd).trans hm13 (fun i hi => .inl (.inl hi))
    refine ⟨hM13, ?_⟩
    have nsB : ¬ rowS m'.BA w.heap.size := fun hh => by have := hrl _ hh; omega
    have npB : ¬ rowS m'.BA w1.heap.size := fun hh => by have := hrl _ hh; omega
    refine storeN_blk0 ((hs12.ext hd).mod hm13 nsB) rfl (sc rfl) (fun w14 hg14 _ hB14 => ?_)
    have hM14 : Mod (· = w.heap.size) w13 w14 := Mod.of_grown hg14 rfl
    have hM14' := hM13.trans hM14 (fun i hi => .inl (.inr (.inl hi)))
    refine ⟨hM14', ?_⟩
    refine storeN_blk0 (((hp12.ext hd).mod hm13 npB).mod hM14 hne) rfl (sc rfl) (fun w15 hg15 _ hB15 => ?_)
    have hM15 : Mod (· = w1.heap.size) w14 w15 := Mod.of_grown hg15 rfl
    have hM15' := hM14'.trans hM15 (fun i hi => .inl (.inr (.inr hi)))
    refine ⟨hM15', ?_⟩
    have hBs15 := hB14.mod hM15 hne.symm
    refine atG_exec gx_ok ?_
    refine out1 gx_ok rfl rfl (.inl rfl) (args := #[.pointer (some ⟨w.heap.size, 0, none⟩), .pointer (some ⟨w1.heap.size, 0, none⟩)]) (by simp) ((srec_ret_fn _ _ w15).mono ?_)
    rintro e u' w16 ⟨u, rfl, hs16, hE16⟩
    refine ⟨u, rfl, hs16, ?_⟩
    refine loadN_blk0 (hBs15.ext hE16) rfl ?_
    refine loadN_blk0 (hB15.ext hE16) rfl ?_
    rw [hrd]
    have hE15 : Ext w w15 := hM15'.ext hE12 (fun i hi => by
      rcases hi with hi | rfl | rfl
      · have := hrl _ hi; omega
      · exact Nat.le_refl _
      · omega)
    have nO : ∀ i, rowS m'.OA i → ¬ (rowS m'.BA i ∨ i = w.heap.size ∨ i = w1.heap.size) := fun i hi hh => by
      have := (h12.out.rows i hi).1
      rcases hh with hh | rfl | rfl
      · exact h12.out.apart h12.txt (by decide) hi hh
      · omega
      · omega
    refine ⟨hE15.trans hE16, ⟨h12.b8, h12.tl, h12.sl⟩, m'.OA, m'.oc, m'.L, rfl, SgIn.ext ⟨(h12.out.mod hM15' nO).sl, rfl, h12.len, fun j s x h1 h2 => ?_⟩ hE16⟩
    have hdg := h12.dgs j s x h1 h2
    refine ⟨SB.modo hdg.sb hM15' (fun ad e h0 hh => ?_), hdg.st⟩
    rcases hh with hh | hh | hh
    · exact hdg.off ad e h0 (.inl (.inr (.inr (.inr hh))))
    · exact hdg.off ad e h0 (.inr (by rw [hT']; exact .inl hh))
    · exact hdg.off ad e h0 (.inr (by rw [hT']; exact .inr hh))
end
end
end Go.Proofs.YtedopgkbajhanaaGreatDoor

namespace Go.Proofs.YtedopgkbajhanaaGreatDoor
section
open Go Go.RowKit

/-- The conditions of a configuration. -/
def bitE (c : Nat) : Nat → Bool := fun i => decide (c / 2 ^ i % 2 = 1)
theorem and_one (x : Nat) (hx : x < 18446744073709551616) : IntKind.u64.wrap ((BitVec.ofInt 64 (x : Int) &&& BitVec.ofInt 64 1).toNat) = ((x % 2 : Nat) : Int) := by
  have e : (BitVec.ofInt 64 (x : Int) &&& BitVec.ofInt 64 1).toNat = x % 2 := by
    rw [BitVec.ofInt_natCast, show BitVec.ofInt 64 1 = BitVec.ofNat 64 1 from rfl, BitVec.toNat_and, BitVec.toNat_ofNat, BitVec.toNat_ofNat]
    rw [Nat.mod_eq_of_lt (by omega), show 1 % 2 ^ 64 = 1 by decide, Nat.and_one_is_mod]
  rw [e]
  rcases (show x % 2 = 0 ∨ x % 2 = 1 by omega) with h | h <;> rw [h] <;> decide

theorem dholds_fn (A : Option Addr) (n c : Nat) (nd : List Br) (root : Int) (cfg : Nat) (hcf : cfg ≤ 18446744073709551615) (w : World) (h : SB w A n c nd) (hc : chkD nd root = 0) :
    Fn Tryz.prog 93 [dgV A n c root, .int .u64 cfg] w (fun v w' => v = .bool (ev nd root (bitE cfg)) ∧ Ext w w') := by
  have hlen := h.2
  obtain ⟨hsm, hv⟩ := chkD_zero.1 hc
  refine fn_of_exec (c := { c93 with cuts := [] }) gx_ok Tryz.func93 rfl rfl rfl ?_
  refine new (fun w1 hE1 hz1 hB1 => ?_)
  refine loadN_blk0 hB1 rfl ?_
  refine call (check2_fn A n c nd root w1 (h.ext hE1)) ?_
  rintro _ w2 ⟨rfl, hE2⟩
  have hE02 := hE1.trans hE2
  have hB2 := hB1.ext hE2
  refine wif_nef hc ?_
  refine load_blk hB2 rfl ?_
  refine loop gx_ok [5] (fun s : Int => [.int .i64 s]) (fun s w' => Ext w2 w' ∧ 0 ≤ s ∧ s < n + 2 ∧ ev nd s (bitE cfg) = ev nd root (bitE cfg)) (fun s _ => s.toNat) root rfl ⟨Ext.refl _, hv.2.1, by have := hv.2.2.1; omega, rfl⟩ ?_
  rintro s w3 ⟨hE3, s0, s1, hs⟩
  have hE03 := hE02.trans hE3
  refine wif_d (fun h1 => ?_) (fun h1 => ?_)
  · refine load_blk0 (hB2.ext hE3) rfl ?_
    refine norm_i64_to (((s - 2).toNat : Nat) : Int) (by omega) (by omega) ?_
    refine index_sls br_len (h.ext hE03) rfl (by omega) (fun p x hx hcx => ?_)
    refine loadN_at (vs := x.cells) rfl hcx ?_
    refine new (fun w4 hE4 hz4 hB4 => ?_)
    refine storeN_blk0 hB4 rfl (sc rfl) (fun w5 hg5 hz5 hB5 => ?_)
    have hE35 : Ext w3 w5 := newBox hE4 hB4 hg5
    obtain ⟨b1, b2, b3, b4, b5, b6, b7, b8, b9, b10⟩ := hv.1 _ _ hx
    have hev := ev_ge hv.wf (n := s) (e := bitE cfg) (by omega) hx
    refine load_blk0 hB5 rfl ?_
    refine norm_shr x.v.toNat (2 ^ x.v.toNat) b1 (by show min x.v.toNat 64 = _; omega) rfl ?_
    have hlt : cfg / 2 ^ x.v.toNat < 18446744073709551616 := Nat.lt_of_le_of_lt (Nat.div_le_self _ _) (by omega)
    refine norm (m := ((cfg / 2 ^ x.v.toNat % 2 : Nat) : Int)) (and_one _ hlt) ?_
    refine wif_eq (fun h2 => ?_) (fun h2 => ?_)
    · have hb : bitE cfg x.v.toNat = true := decide_eq_true (by omega)
      rw [hb, if_pos rfl] at hev
      refine load_blk hB5 rfl ?_
      exact ⟨x.h, rfl, ⟨hE3.trans hE35, b5, by omega, by rw [← hev]; exact hs⟩, by show x.h.toNat < s.toNat; omega⟩
    · have hb : bitE cfg x.v.toNat = false := decide_eq_false (by omega)
      rw [hb, if_neg (by decide)] at hev
      refine load_blk hB5 rfl ?_
      exact ⟨x.l, rfl, ⟨hE3.trans hE35, b3, by omega, by rw [← hev]; exact hs⟩, by show x.l.toNat < s.toNat; omega⟩
  · refine ⟨?_, hE03⟩
    rw [← hs, ev_lt (by omega)]
    rfl

/-! ### Formulas -/
end
end Go.Proofs.YtedopgkbajhanaaGreatDoor

namespace Go.Proofs.YtedopgkbajhanaaGreatDoor
section
open Go Go.RowKit

/-- A number depends on the conditions below the bound alone. -/
theorem ev_ext {nd : List Br} (hw : WfB nd) {k : Nat} (hk : VIn k nd) (h0 : ∀ b ∈ nd, 0 ≤ b.v) {e e' : Nat → Bool} (h : ∀ i, i < k → e i = e' i) : ∀ (m : Nat) (n : Int), n.toNat < m → n < nd.length + 2 → ev nd n e = ev nd n e'
  | 0, n, hm, _ => by omega
  | m + 1, n, hm, hn => by
    by_cases h2 : n < 2
    · rw [ev_lt h2, ev_lt h2]
    obtain ⟨b, hb⟩ := getE h2 hn
    obtain ⟨b3, b4, b5, b6⟩ := hw _ _ hb
    have hbm := List.mem_of_getElem? hb
    have hv := hk b hbm
    have hv0 := h0 b hbm
    rw [ev_ge hw h2 hb, ev_ge hw h2 hb, ev_ext hw hk h0 h m b.h (by omega) (by omega), ev_ext hw hk h0 h m b.l (by omega) (by omega), h b.v.toNat (by omega)]
theorem Set1.ext {k : Nat} {nd : List Br} {r : Int} {o : (Nat → Bool) → Bool} (hS : Set1 k nd r o) {e e' : Nat → Bool} (h : ∀ i, i < k → e i = e' i) : o e = o e' := by
  rw [← hS.mean e, ← hS.mean e']
  refine ev_ext hS.vd.wf hS.vin (fun b hb => ?_) h (r.toNat + 1) r (by omega) hS.vd.2.2.1
  obtain ⟨j, hj, rfl⟩ := List.mem_iff_getElem.1 hb
  exact (hS.vd.1 j _ (List.getElem?_eq_getElem hj)).1
end
end Go.Proofs.YtedopgkbajhanaaGreatDoor

namespace Go.Proofs.YtedopgkbajhanaaGreatDoor
section
open Go Go.RowKit

theorem rnode_fn (x : Fz) (i : Nat) (w : World) : Fn Tryz.prog 176 [.agg x.cells.toArray, .int .i64 i] w (fun v w' => v = .bool (decide (fzP x i)) ∧ Ext w w') := by
  refine fn_of_exec (c := { c176 with cuts := [2, 4] }) gx_ok Tryz.func176 rfl rfl rfl ?_
  refine new (fun w1 hE1 hz1 hB1 => ?_)
  replace hB1 : Blk w1 w.heap.size 205 x.cells := hB1
  refine load_blk0 hB1 rfl ?_
  refine call (operands_fn x.o w1) ?_
  rintro _ _ ⟨rfl, rfl⟩
  have no : ¬ fzP x i → (Value.bool false = .bool (decide (fzP x i))) ∧ Ext w w1 := fun h => ⟨by rw [decide_eq_false h], hE1⟩
  have hk := fAr_cases x.o
  refine cutIn [] gx_ok [] (fun _ : Unit => []) (fun _ w' => w1 = w' ∧ 0 ≤ fAr x.o ∧ (if x.o = 2 then 0 ≤ x.v ∧ x.v < 64 else x.v = 0)) ?_ ?_
  · refine wif_d (fun a1 => ?_) (fun a1 => ?_)
    · exact no (fun h => by have := h.1; omega)
    refine load_blk0 hB1 rfl ?_
    refine wif_ne (fun a2 => ?_) (fun a2 => ?_)
    · refine load_blk hB1 rfl ?_
      refine wif_ne (fun a3 => ?_) (fun a3 => ?_)
      · exact no (fun h => by have := h.2.1; rw [if_neg a2] at this; exact a3 this)
      refine load_blk hB1 rfl ?_
      refine wif_df (by omega) ?_
      refine load_blk hB1 rfl ?_
      refine wif_df (by omega) ?_
      exact ⟨(), rfl, rfl, by omega, by rw [if_neg a2]; exact a3⟩
    · refine load_blk hB1 rfl ?_
      refine wif_d (fun a3 => ?_) (fun a3 => ?_)
      · exact no (fun h => by have := h.2.1; rw [if_pos a2] at this; omega)
      refine load_blk hB1 rfl ?_
      refine wif_d (fun a4 => ?_) (fun a4 => ?_)
      · exact no (fun h => by have := h.2.1; rw [if_pos a2] at this; omega)
      exact ⟨(), rfl, rfl, by omega, by rw [if_pos a2]; omega⟩
  rintro ⟨⟩ _ ⟨rfl, h0, hv⟩
  refine cutIn [] gx_ok [] (fun _ : Unit => []) (fun _ w' => w1 = w' ∧ (fAr x.o ≤ 0 → x.a = 0) ∧ (fAr x.o ≤ 1 → x.b = 0)) ?_ ?_
  · refine wif_d (fun a1 => ?_) (fun a1 => ?_)
    · refine load_blk hB1 rfl ?_
      refine wif_ne (fun a2 => ?_) (fun a2 => ?_)
      · exact no (fun h => by have := h.2.2.1; rw [if_neg (by omega)] at this; exact a2 this)
      refine wif_dt (show fAr x.o < 2 by omega) ?_
      refine load_blk hB1 rfl ?_
      refine wif_ne (fun a3 => ?_) (fun a3 => ?_)
      · exact no (fun h => by have := h.2.2.2; rw [if_neg (by omega)] at this; exact a3 this)
      exact ⟨(), rfl, rfl, fun _ => a2, fun _ => a3⟩
    · refine wif_d (fun a2 => ?_) (fun a2 => ?_)
      · refine load_blk hB1 rfl ?_
        refine wif_ne (fun a3 => ?_) (fun a3 => ?_)
        · exact no (fun h => by have := h.2.2.2; rw [if_neg (by omega)] at this; exact a3 this)
        exact ⟨(), rfl, rfl, fun h => by omega, fun _ => a3⟩
      · exact ⟨(), rfl, rfl, fun h => by omega, fun h => by omega⟩
  rintro ⟨⟩ _ ⟨rfl, ha, hb⟩
  have yes : fzP x i → (Value.bool true = .bool (decide (fzP x i))) ∧ Ext w w1 := fun h => ⟨by rw [decide_eq_true h], hE1⟩
  refine wif_d (fun a1 => ?_) (fun a1 => ?_)
  · refine load_blk hB1 rfl ?_
    refine wif_d (fun a2 => ?_) (fun a2 => ?_)
    · exact no (fun h => by have := h.2.2.1; rw [if_pos (by omega)] at this; omega)
    refine load_blk hB1 rfl ?_
    refine wif_d (fun a3 => ?_) (fun a3 => ?_)
    · exact no (fun h => by have := h.2.2.1; rw [if_pos (by omega)] at this; omega)
    refine wif_d (fun a4 => ?_) (fun a4 => ?_)
    · refine load_blk hB1 rfl ?_
      refine wif_d (fun a5 => ?_) (fun a5 => ?_)
      · exact no (fun h => by have := h.2.2.2; rw [if_pos (by omega)] at this; omega)
      refine load_blk hB1 rfl ?_
      refine wif_d (fun a6 => ?_) (fun a6 => ?_)
      · exact no (fun h => by have := h.2.2.2; rw [if_pos (by omega)] at this; omega)
      exact yes ⟨h0, hv, by rw [if_pos (by omega)]; omega, by rw [if_pos (by omega)]; omega⟩
    · exact yes ⟨h0, hv, by rw [if_pos (by omega)]; omega, by rw [if_neg (by omega)]; exact hb (by omega)⟩
  · refine wif_df (show ¬ fAr x.o > 1 by omega) ?_
    exact yes ⟨h0, hv, by rw [if_neg (by omega)]; exact ha (by omega), by rw [if_neg (by omega)]; exact hb (by omega)⟩
end
end Go.Proofs.YtedopgkbajhanaaGreatDoor

namespace Go.Proofs.YtedopgkbajhanaaGreatDoor
section
open Go Go.RowKit

def cntL (l : List Nat) (n : Nat) : List Nat := (List.range n).map fun j => l.count j
theorem cntL_get (l : List Nat) {n j : Nat} (hj : j < n) : (cntL l n)[j]? = some (l.count j) := by simp [cntL, hj]
theorem cntL_len (l : List Nat) (n : Nat) : (cntL l n).length = n := by simp [cntL]
theorem cntL_set (l : List Nat) (n k : Nat) : (cntL l n).set k (l.count k + 1) = cntL (l ++ [k]) n := by
  unfold cntL
  apply List.ext_getElem
  · simp
  · intro i h1 h2
    simp at h1
    simp only [List.getElem_set, List.getElem_map, List.getElem_range, List.count_append]
    split
    · rename_i h; subst h; simp
    · rename_i h
      rw [List.count_cons_of_ne (fun e => h e)]; simp
theorem cntL_nil (n : Nat) : natsV (cntL [] n) = List.replicate n (.int .i64 0) := by
  unfold natsV cntL
  apply List.ext_getElem
  · simp
  · intro i h1 h2; simp
theorem fkids_len : ∀ l : List Fz, (fkids l).length ≤ 2 * l.length
  | [] => by simp [fkids]
  | x :: l => by
    have ih := fkids_len l
    have e : fkids (x :: l) = fKids x ++ fkids l := by simp [fkids]
    have : (fKids x).length ≤ 2 := by unfold fKids; split; · simp
                                      · split <;> simp
    rw [e, List.length_append, List.length_cons]; omega

theorem rcheck_fn (A : Option Addr) (n c : Nat) (f : List Fz) (w : World) (h : SF w A n c f) :
    Fn Tryz.prog 156 [.slice A n c] w (fun v w' => v = .int .i64 (chkF f) ∧ Ext w w') := by
  have hlen := h.2
  refine fn_of_exec (c := { c156 with cuts := [4] }) gx_ok Tryz.func156 rfl rfl rfl ?_
  refine wif_d (fun h1 => ?_) (fun h1 => ?_)
  · exact ⟨by rw [chkF_no (fun hv => by have := hv.2.1; omega)], Ext.refl w⟩
  refine wif_d (fun h2 => ?_) (fun h2 => ?_)
  · exact ⟨by rw [chkF_no (fun hv => by have := hv.1; omega)], Ext.refl w⟩
  refine at_make gx_ok rfl rfl rfl rfl rfl rfl rfl rfl (by show 8 * n ≤ _; omega) (by unfold maxLen; omega) (fun w1 hE1 hz1 hB1 => ?_)
  have hB1' : Blk w1 w.heap.size 3 (natsV (cntL (fkids (f.take 0)) n)) := by
    rw [show fkids (f.take 0) = [] from rfl, cntL_nil]; exact hB1
  refine cutIn [] gx_ok [] (fun _ : Unit => []) (fun _ w' => Mod (· = w.heap.size) w1 w' ∧ Blk w' w.heap.size 3 (natsV (cntL (fkids f) n)) ∧ ∀ j x, j < n → f[j]? = some x → fzP x j) ?_ ?_
  · refine loop gx_ok [4] (fun s : Nat => [.int .i64 s]) (fun s w' => Mod (· = w.heap.size) w1 w' ∧ Blk w' w.heap.size 3 (natsV (cntL (fkids (f.take s)) n)) ∧ s ≤ n ∧ ∀ j x, j < s → f[j]? = some x → fzP x j) (fun s _ => n - s) 0 rfl ⟨Mod.refl _ _, hB1', Nat.zero_le _, fun j x hj => absurd hj (by omega)⟩ ?_
    rintro s w2 ⟨hM2, hU2, hs, hnd⟩
    have hE2 : Ext w w2 := hM2.ext hE1 (fun i hi => by omega)
    refine wif_d (fun h3 => ?_) (fun h3 => ?_)
    · have hsn : s < n := by omega
      refine index_sls fz_len (h.ext hE2) rfl hsn (fun p x hx hc => ?_)
      refine loadN_at (vs := x.cells) rfl hc ?_
      refine call (rnode_fn x s w2) ?_
      rintro _ w3 ⟨rfl, hE3⟩
      by_cases hx1 : fzP x s
      rotate_left
      · refine wif_not (wif_df hx1 ?_)
        exact ⟨by rw [chkF_no (nFV_nd hx hx1)], hE2.trans hE3⟩
      refine wif_not (wif_dt hx1 ?_)
      have hE03 := hE2.trans hE3
      have hM3 : Mod (· = w.heap.size) w1 w3 := hM2.trans (Mod.of_ext (· = w.heap.size) hE3) (fun i hi => .inl hi)
      have hU3 := hU2.ext hE3
      refine index_sls fz_len (h.ext hE03) rfl hsn (fun p' x' hx' hc' => ?_)
      have hxx : x' = x := Option.some.inj (hx'.symm.trans hx)
      subst hxx
      refine load (hc' 0 _ rfl) ?_
      refine call (operands_fn x'.o w3) ?_
      rintro _ _ ⟨rfl, rfl⟩
      obtain ⟨g0, g1, g2, g3⟩ := hx1
      have hnd' : ∀ j y, j < s + 1 → f[j]? = some y → fzP y j := fun j y hj hy => by
        by_cases hjs : j < s
        · exact hnd j y hjs hy
        · have : j = s := by omega
          subst this
          rw [Option.some.inj (hy.symm.trans hx)]; exact ⟨g0, g1, g2, g3⟩
      have hfl : (fkids (f.take s)).length ≤ 1024 := by have := fkids_len (f.take s); rw [List.length_take] at this; omega
      have hcl : ∀ k, (fkids (f.take s)).count k ≤ 1024 := fun k => Nat.le_trans (List.count_le_length) hfl
      have hsnoc := fkids_snoc f hx
      rcases fAr_cases x'.o with ⟨_, e⟩ | ⟨_, e⟩ | ⟨_, e⟩ | ⟨e, _⟩
      · have hk0 : fKids x' = [] := by unfold fKids; rw [e]; rfl
        refine wif_df (show ¬ fAr x'.o > 0 by omega) ?_
        refine wif_df (show ¬ fAr x'.o > 1 by omega) ?_
        refine norm_i64_to ((s + 1 : Nat) : Int) (by omega) (by omega) ?_
        exact ⟨s + 1, rfl, ⟨hM3, by rw [hsnoc, hk0, List.append_nil]; exact hU3, by omega, hnd'⟩, by show n - (s + 1) < n - s; omega⟩
      · have hk1 : fKids x' = [x'.a.toNat] := by unfold fKids; rw [e]; rfl
        rw [if_pos (by omega)] at g2
        refine wif_dt (show fAr x'.o > 0 by omega) ?_
        refine index_sls fz_len (h.ext hE03) rfl hsn (fun p2 x2 hx2 hc2 => ?_)
        have hxx : x2 = x' := Option.some.inj (hx2.symm.trans hx)
        subst hxx
        refine load (hc2 2 _ rfl) ?_
        refine index_i (j := x2.a.toNat) (by omega) (by omega) ?_
        refine load_blk hU3 (natsV_get (cntL_get _ (by omega))) ?_
        have hc0 := hcl x2.a.toNat
        refine norm_i64_to (((fkids (f.take s)).count x2.a.toNat + 1 : Nat) : Int) (by omega) (by omega) ?_
        refine index_i (j := x2.a.toNat) (by omega) (by omega) ?_
        refine store_mod hU3 (by rw [natsV_length, cntL_len]; omega) (fun w4 hM4 hU4 => ?_)
        rw [← natsV_set, cntL_set] at hU4
        refine wif_df (show ¬ fAr x2.o > 1 by omega) ?_
        refine norm_i64_to ((s + 1 : Nat) : Int) (by omega) (by omega) ?_
        exact ⟨s + 1, rfl, ⟨hM3.trans hM4 (fun i hi => .inl hi), by rw [hsnoc, hk1]; exact hU4, by omega, hnd'⟩, by show n - (s + 1) < n - s; omega⟩
      · have hk2 : fKids x' = [x'.a.toNat, x'.b.toNat] := by unfold fKids; rw [e]; rfl
        rw [if_pos (by omega)] at g2 g3
        refine wif_dt (show fAr x'.o > 0 by omega) ?_
        refine index_sls fz_len (h.ext hE03) rfl hsn (fun p2 x2 hx2 hc2 => ?_)
        have hxx : x2 = x' := Option.some.inj (hx2.symm.trans hx)
        subst hxx
        refine load (hc2 2 _ rfl) ?_
        refine index_i (j := x2.a.toNat) (by omega) (by omega) ?_
        refine load_blk hU3 (natsV_get (cntL_get _ (by omega))) ?_
        have hc0 := hcl x2.a.toNat
        refine norm_i64_to (((fkids (f.take s)).count x2.a.toNat + 1 : Nat) : Int) (by omega) (by omega) ?_
        refine index_i (j := x2.a.toNat) (by omega) (by omega) ?_
        refine store_mod hU3 (by rw [natsV_length, cntL_len]; omega) (fun w4 hM4 hU4 => ?_)
        rw [← natsV_set, cntL_set] at hU4
        have hM04 : Mod (· = w.heap.size) w1 w4 := hM3.trans hM4 (fun i hi => .inl hi)
        have hE04 : Ext w w4 := hM04.ext hE1 (fun i hi => by omega)
        refine wif_dt (show fAr x2.o > 1 by omega) ?_
        refine index_sls fz_len (h.ext hE04) rfl hsn (fun p3 x3 hx3 hc3 => ?_)
        have hxx : x3 = x2 := Option.some.inj (hx3.symm.trans hx)
        subst hxx
        refine load (hc3 3 _ rfl) ?_
        refine index_i (j := x3.b.toNat) (by omega) (by omega) ?_
        refine load_blk hU4 (natsV_get (cntL_get _ (by omega))) ?_
        have hc1 : (fkids (f.take s) ++ [x3.a.toNat]).count x3.b.toNat ≤ 1025 := Nat.le_trans List.count_le_length (by simp; omega)
        refine norm_i64_to (((fkids (f.take s) ++ [x3.a.toNat]).count x3.b.toNat + 1 : Nat) : Int) (by omega) (by omega) ?_
        refine index_i (j := x3.b.toNat) (by omega) (by omega) ?_
        refine store_mod hU4 (by rw [natsV_length, cntL_len]; omega) (fun w5 hM5 hU5 => ?_)
        rw [← natsV_set, cntL_set] at hU5
        refine norm_i64_to ((s + 1 : Nat) : Int) (by omega) (by omega) ?_
        exact ⟨s + 1, rfl, ⟨hM04.trans hM5 (fun i hi => .inl hi), by rw [hsnoc, hk2, show fkids (f.take s) ++ [x3.a.toNat, x3.b.toNat] = fkids (f.take s) ++ [x3.a.toNat] ++ [x3.b.toNat] by simp]; exact hU5, by omega, hnd'⟩, by show n - (s + 1) < n - s; omega⟩
      · omega
    · have : s = n := by omega
      subst this
      rw [List.take_of_length_le (by omega)] at hU2
      exact ⟨(), rfl, hM2, hU2, hnd⟩
  rintro ⟨⟩ w2 ⟨hM2, hU2, hnd⟩
  have hE2 : Ext w w2 := hM2.ext hE1 (fun i hi => by omega)
  refine loop gx_ok [6] (fun s : Nat => [.int .i64 s]) (fun s w' => w2 = w' ∧ s ≤ n ∧ ∀ j, j < s → j + 1 < n → (fkids f).count j = 1) (fun s _ => n - s) 0 rfl ⟨rfl, Nat.zero_le _, fun j hj => absurd hj (by omega)⟩ ?_
  rintro s _ ⟨rfl, hs, hall⟩
  refine wif_d (fun h3 => ?_) (fun h3 => ?_)
  · refine norm_i64_to ((n - 1 : Nat) : Int) (by omega) (by omega) ?_
    refine wif_d (fun h4 => ?_) (fun h4 => ?_)
    · refine index (j := s) (by omega) ?_
      refine load_blk hU2 (natsV_get (cntL_get _ (by omega))) ?_
      refine wif_ne (fun h5 => ?_) (fun h5 => ?_)
      · exact ⟨by rw [chkF_no (fun hv => h5 (by have := hv.2.2.2 s (by omega); omega))], hE2⟩
      · refine norm_i64_to ((s + 1 : Nat) : Int) (by omega) (by omega) ?_
        refine ⟨s + 1, rfl, ⟨rfl, by omega, fun j hj hjn => ?_⟩, by show n - (s + 1) < n - s; omega⟩
        by_cases hjs : j < s
        · exact hall j hjs hjn
        · have : j = s := by omega
          subst this; omega
    · refine norm_i64_to ((s + 1 : Nat) : Int) (by omega) (by omega) ?_
      exact ⟨s + 1, rfl, ⟨rfl, by omega, fun j hj hjn => hall j (by omega) hjn⟩, by show n - (s + 1) < n - s; omega⟩
  · refine ⟨?_, hE2⟩
    rw [chkF_ok ⟨by omega, by omega, fun i x hx => hnd i x (by have := (List.getElem?_eq_some_iff.1 hx).1; omega) hx, fun i hi => hall i (by omega) (by omega)⟩]
end
end Go.Proofs.YtedopgkbajhanaaGreatDoor
