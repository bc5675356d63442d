/-
  formula.Diagram.
  Conditions: none.
-/
import Derived.Test.YtedopgkbajhanaaGreatDoorDd
import Derived.Test.YtedopgkbajhanaaGreatDoorDe
import Derived.Test.YtedopgkbajhanaaGreatDoorLm
namespace Go.Proofs.YtedopgkbajhanaaGreatDoor
open Go Go.RowKit

/-- The sets so far. -/
structure DgI (w0 : World) (g : Nat) (f : List Fz) (k n s : Nat) (L : List DV) (w : World) : Prop where
  m : Mod (· = g) w0 w
  blk : Blk w g 42 (L.flatMap DV.cells)
  len : L.length = n
  got : ∀ j, j < s → ∃ x t, L[j]? = some x ∧ RepF f t j ∧ SB w x.A x.n x.c x.nd ∧ Set1 k x.nd x.r (evF t) ∧ ∀ i, rowS x.A i → g < i
theorem SB.mod {S : Nat → Prop} {w w' : World} {A : Option Addr} {n c : Nat} {nd : List Br} (h : SB w A n c nd) (hm : Mod S w w') (hr : ∀ i, rowS A i → ¬ S i) : SB w' A n c nd := ⟨h.1.modS hm (fun _ i hi => hr i hi), h.2⟩
theorem DgI.mod {w0 w w' : World} {g : Nat} {f : List Fz} {k n s : Nat} {L : List DV} (h : DgI w0 g f k n s L w) (k1 : Ext w w') : DgI w0 g f k n s L w' :=
  ⟨h.m.trans (Mod.of_ext (· = g) k1) (fun _ hi => .inl hi), h.blk.ext k1, h.len, fun j hj => by
    obtain ⟨x, t, h1, h2, h3, h4, h5⟩ := h.got j hj
    exact ⟨x, t, h1, h2, h3.ext k1, h4, h5⟩⟩
theorem DgI.put {w0 w w' : World} {g : Nat} {f : List Fz} {k n s : Nat} {L : List DV} (h : DgI w0 g f k n s L w) (hs : s < n) {x : DV} {t : Fm} (ht : RepF f t s) (hx : SB w x.A x.n x.c x.nd) (hS : Set1 k x.nd x.r (evF t)) (hr : ∀ i, rowS x.A i → g < i) (hm : Mod (· = g) w w')
    (hb : Blk w' g 42 (putL (s * 2) x.cells (L.flatMap DV.cells))) : DgI w0 g f k n (s + 1) (L.set s x) w' := by
  have hl := h.len
  refine ⟨h.m.trans hm (fun _ hi => .inl hi), by rw [← putL_flat dv_len L x (by omega)]; exact hb, by rw [List.length_set]; exact hl, fun j hj => ?_⟩
  by_cases hjs : j = s
  · subst hjs
    exact ⟨x, t, by rw [List.getElem?_set_self (by omega)], ht, hx.mod hm (fun i hi e => by have := hr i hi; omega), hS, hr⟩
  · obtain ⟨y, u, h1, h2, h3, h4, h5⟩ := h.got j (by omega)
    exact ⟨y, u, by rw [List.getElem?_set_ne (fun e => hjs e.symm)]; exact h1, h2, h3.mod hm (fun i hi e => by have := h5 i hi; omega), h4, h5⟩
/-- A place that is not written keeps its set. -/
def DgC (g s : Nat) (L : List DV) (w w' : World) : Prop := Mod (· = g) w w' ∧ ∀ (j : Nat) (x : DV), j ≠ s → L[j]? = some x → ∀ (i : Nat) (v : Value), x.cells[i]? = some v → w'.cell? ((⟨g, 0, none⟩ : Addr).add (j * 2 + i)) = some v
theorem DgC.of_ext {g s : Nat} {L : List DV} {w w' : World} (hb : Blk w g 42 (L.flatMap DV.cells)) (h : Ext w w') : DgC g s L w w' :=
  ⟨Mod.of_ext _ h, fun j x _ hx i v hi => by rw [(hb.ext h).cell]; exact flat_get dv_len _ _ _ _ _ hx hi⟩
theorem DgC.put {g s : Nat} {L : List DV} {w w1 w' : World} {x : DV} (hs : s < L.length) (h : Ext w w1) (hm : Mod (· = g) w1 w') (hb : Blk w' g 42 (putL (s * 2) x.cells (L.flatMap DV.cells))) : DgC g s L w w' :=
  ⟨(Mod.of_ext (· = g) h).trans hm (fun _ hi => .inl hi), fun j y hj hy i v hi => by
    rw [hb.cell, putL_flat dv_len L x hs]
    exact flat_get dv_len _ _ _ _ _ (by rw [List.getElem?_set_ne (fun e => hj e.symm)]; exact hy) hi⟩
theorem FV.rep {f : List Fz} (h : FV f) {i : Nat} (hi : i < f.length) : ∃ t, RepF f t i := rep_of h.2.2.1 i hi

theorem fdiagram_fn (F : Option Addr) (n cF : Nat) (f : List Fz) (k : Nat) (hk : k ≤ 12) (w : World) (h : SF w F n cF f) (hv : FV f) (hvk : varsOk k f) :
    Fn Tryz.prog 116 [.slice F n cF] w (fun v w' => ∃ A m c nd r, v = .tuple #[dgV A m c r, .int .i64 0] ∧ Ext w w' ∧ SB w' A m c nd ∧ Set1 k nd r (evF (treeOf f)) ∧ ∀ i, rowS A i → w.heap.size < i) := by
  have hn := h.2
  have hvl := hv.1
  have hv0 := hv.2.1
  refine fn_of_exec (c := { c116 with cuts := [] }) gx_ok Tryz.func116 rfl rfl rfl ?_
  refine new (fun w1 hE1 hz1 hB1 => ?_)
  refine call (check_fn F n cF f w1 (h.ext hE1)) ?_
  rintro _ w2 ⟨rfl, hE2⟩
  refine wif_nef (chkF_ok hv) ?_
  have hE02 := hE1.trans hE2
  refine at_makeN dv_len (by decide) (⟨none, 0, 0, [], 0⟩ : DV) gx_ok rfl rfl rfl rfl rfl rfl rfl rfl (by show 32 * n ≤ _; omega) (by unfold maxLen; omega) (fun w3 hE3 hz3 hB3 => ?_)
  have hE03 := hE02.trans hE3
  have hz02 := hE02.size
  have hz2 : w1.heap.size ≤ w2.heap.size := hE2.size
  refine loop gx_ok [17] (fun s : Nat × List DV => [.int .i64 s.1]) (fun s w' => DgI w3 w2.heap.size f k n s.1 s.2 w' ∧ s.1 ≤ n) (fun s _ => n - s.1) (0, List.replicate n ⟨none, 0, 0, [], 0⟩) rfl ⟨⟨Mod.refl _ _, hB3, by simp, fun j hj => absurd hj (by simp)⟩, Nat.zero_le _⟩ ?_
  rintro ⟨s, L⟩ w4 ⟨hI, hs⟩
  simp only at hI hs
  have hE4 : Ext w w4 := hI.m.ext hE03 (fun i hi => by omega)
  have hL := hI.len
  refine wif_d (fun h1 => ?_) (fun h1 => ?_)
  · have hsn : s < n := by simp only at h1; omega
    refine index_sls fz_len (h.ext hE4) rfl hsn (fun p x hx hc => ?_)
    refine loadN_at (vs := x.cells) rfl hc ?_
    refine new (fun w5 hE5 hz5 hB5 => ?_)
    refine storeN_blk0 hB5 rfl (sc rfl) (fun w6 hg6 hz6 hB6 => ?_)
    have hE46 : Ext w4 w6 := newBox hE5 hB5 hg6
    have hI6 := hI.mod hE46
    obtain ⟨t, ht⟩ := hv.rep (i := s) (by omega)
    have hz4 := hI.m.size
    have hz46 := hE46.size
    have c0 : Set1 k [] 0 (fun _ => false) := const_set k false
    have hrc : ∀ i, rowS (none : Option Addr) i → w2.heap.size < i := fun i hi => by obtain ⟨_, e, _⟩ := hi; cases e
    cases t with
    | c b =>
      cases b with
      | false =>
        have hxx : x = ⟨0, 0, 0, 0⟩ := Option.some.inj (hx.symm.trans ht)
        subst hxx
        refine load_blk0 hB6 rfl ?_
        refine wif_eqt rfl ?_
        refine load_blk0 hB6 rfl ?_
        refine call (dconst_fn false w6) ?_
        rintro _ w7 ⟨rfl, hE7⟩
        have hI7 := hI6.mod hE7
        refine index_n (j := s) hsn ?_
        refine storeN_blk (j := s * 2) (vs := (⟨none, 0, 0, [], 0⟩ : DV).cells) hI7.blk (by rw [flat_length dv_len, hL]; show s * 2 + 2 ≤ n * 2; omega) (sc rfl) (fun w8 hg8 hz8 hB8 => ?_)
        have hM8 : Mod (· = w2.heap.size) w7 w8 := Mod.of_grown hg8 rfl
        have hI8 := hI7.put hsn (x := ⟨none, 0, 0, [], 0⟩) ht (SlS.nil _) (const_set k false) hrc hM8 hB8
        refine wif_nef rfl ?_
        refine norm_i64_to ((s + 1 : Nat) : Int) (by show ((s : Nat) : Int) + 1 = _; omega) (by omega) ?_
        exact ⟨(s + 1, L.set s ⟨none, 0, 0, [], 0⟩), rfl, ⟨hI8, by show s + 1 ≤ n; omega⟩, by show n - (s + 1) < n - s; omega⟩
      | true =>
        have hxx : x = ⟨1, 0, 0, 0⟩ := Option.some.inj (hx.symm.trans ht)
        subst hxx
        refine load_blk0 hB6 rfl ?_
        refine wif_eqf (show ¬ (1 : Int) = 0 by decide) ?_
        refine wif_eqt rfl ?_
        refine load_blk0 hB6 rfl ?_
        refine call (dconst_fn true w6) ?_
        rintro _ w7 ⟨rfl, hE7⟩
        have hI7 := hI6.mod hE7
        refine index_n (j := s) hsn ?_
        refine storeN_blk (j := s * 2) (vs := (⟨none, 0, 0, [], 1⟩ : DV).cells) hI7.blk (by rw [flat_length dv_len, hL]; show s * 2 + 2 ≤ n * 2; omega) (sc rfl) (fun w8 hg8 hz8 hB8 => ?_)
        have hM8 : Mod (· = w2.heap.size) w7 w8 := Mod.of_grown hg8 rfl
        have hI8 := hI7.put hsn (x := ⟨none, 0, 0, [], 1⟩) ht (SlS.nil _) (const_set k true) hrc hM8 hB8
        refine wif_nef rfl ?_
        refine norm_i64_to ((s + 1 : Nat) : Int) (by show ((s : Nat) : Int) + 1 = _; omega) (by omega) ?_
        exact ⟨(s + 1, L.set s ⟨none, 0, 0, [], 1⟩), rfl, ⟨hI8, by show s + 1 ≤ n; omega⟩, by show n - (s + 1) < n - s; omega⟩
    | v q =>
      have hxx : x = ⟨2, (q : Nat), 0, 0⟩ := Option.some.inj (hx.symm.trans ht)
      subst hxx
      have hq : (q : Int) < k := hvk _ (List.mem_of_getElem? hx) rfl
      refine load_blk0 hB6 rfl ?_
      refine wif_eqf (show ¬ (2 : Int) = 0 by decide) ?_
      refine wif_eqf (show ¬ (2 : Int) = 1 by decide) ?_
      refine wif_eqt rfl ?_
      refine load_blk hB6 rfl ?_
      refine call (dvar_fn (q : Nat) w6 (by omega) (by omega)) ?_
      rintro _ w7 ⟨PA, pn, pc, rfl, hE7, hP7, hR7⟩
      have hI7 := hI6.mod hE7
      have hSv : Set1 k [⟨(q : Nat), 0, 1⟩] 2 (evF (.v q)) := ⟨vd_var (by omega) (by omega), fun b hb => by simp only [List.mem_singleton] at hb; subst hb; exact hq, fun e => by
        rw [ev_ge (vd_var (k := ((q : Nat) : Int)) (by omega) (by omega)).wf (by decide) (b := ⟨(q : Nat), 0, 1⟩) rfl, ev_lt (by simp), ev_lt (by simp)]
        cases h : e q <;> simp [evF, h]⟩
      refine index_n (j := s) hsn ?_
      refine storeN_blk (j := s * 2) (vs := (⟨PA, pn, pc, [⟨(q : Nat), 0, 1⟩], 2⟩ : DV).cells) hI7.blk (by rw [flat_length dv_len, hL]; show s * 2 + 2 ≤ n * 2; omega) (sc rfl) (fun w8 hg8 hz8 hB8 => ?_)
      have hM8 : Mod (· = w2.heap.size) w7 w8 := Mod.of_grown hg8 rfl
      have hI8 := hI7.put hsn (x := ⟨PA, pn, pc, [⟨(q : Nat), 0, 1⟩], 2⟩) ht hP7 hSv (fun i hi => by have := hR7 i hi; omega) hM8 hB8
      refine wif_nef rfl ?_
      refine norm_i64_to ((s + 1 : Nat) : Int) (by show ((s : Nat) : Int) + 1 = _; omega) (by omega) ?_
      exact ⟨(s + 1, L.set s ⟨PA, pn, pc, [⟨(q : Nat), 0, 1⟩], 2⟩), rfl, ⟨hI8, by show s + 1 ≤ n; omega⟩, by show n - (s + 1) < n - s; omega⟩
    | not a =>
      obtain ⟨j, hj, hxj, hra⟩ := ht
      have hxx : x = ⟨3, 0, (j : Nat), 0⟩ := Option.some.inj (hx.symm.trans hxj)
      subst hxx
      obtain ⟨y, u, hy, hu, hyS, hyM, hyr⟩ := hI6.got j hj
      obtain rfl : u = a := RepF.det hu hra
      have hex := op_set hk hyM c0 3
      have hcs := comb_set hyM c0 3
      have hjn : j < n := by omega
      refine load_blk0 hB6 rfl ?_
      refine wif_eqf (show ¬ (3 : Int) = 0 by decide) ?_
      refine wif_eqf (show ¬ (3 : Int) = 1 by decide) ?_
      refine wif_eqf (show ¬ (3 : Int) = 2 by decide) ?_
      refine wif_eqt rfl ?_
      refine load_blk hB6 rfl ?_
      refine index_n (j := j) hjn ?_
      refine loadN_blk (j := j * 2) (vs := y.cells) hI6.blk rfl (fun i v hi => flat_get dv_len _ _ _ _ _ hy hi) ?_
      refine call (dnot_fn y.A y.n y.c y.nd y.r w6 hyS) ?_
      rw [hex]
      rintro _ w7 ⟨PA, pn, pc, rfl, hE7, hP7, hR7⟩
      have hI7 := hI6.mod hE7
      have ht : RepF f (.not u) s := ⟨j, hj, hxj, hra⟩
      generalize combD y.nd y.r [] 0 3 = D at *
      obtain ⟨D1, D2⟩ := D
      have hSv : Set1 k D1 D2 (evF (.not u)) := hcs.congr (fun e => by simp [opB, evF])
      refine index_n (j := s) hsn ?_
      refine storeN_blk (j := s * 2) (vs := (⟨PA, pn, pc, D1, D2⟩ : DV).cells) hI7.blk (by rw [flat_length dv_len, hL]; show s * 2 + 2 ≤ n * 2; omega) (sc rfl) (fun w8 hg8 hz8 hB8 => ?_)
      have hM8 : Mod (· = w2.heap.size) w7 w8 := Mod.of_grown hg8 rfl
      have hI8 := hI7.put hsn (x := ⟨PA, pn, pc, D1, D2⟩) ht hP7 hSv (fun i hi => by have := hR7 i hi; omega) hM8 hB8
      refine wif_nef rfl ?_
      refine norm_i64_to ((s + 1 : Nat) : Int) (by show ((s : Nat) : Int) + 1 = _; omega) (by omega) ?_
      exact ⟨(s + 1, L.set s ⟨PA, pn, pc, D1, D2⟩), rfl, ⟨hI8, by show s + 1 ≤ n; omega⟩, by show n - (s + 1) < n - s; omega⟩
    | and a b =>
      obtain ⟨j, l, hj, hl, hxj, hra, hrb⟩ := ht
      have hxx : x = ⟨4, 0, (j : Nat), (l : Nat)⟩ := Option.some.inj (hx.symm.trans hxj)
      subst hxx
      obtain ⟨y, u, hy, hu, hyS, hyM, hyr⟩ := hI6.got j hj
      obtain rfl : u = a := RepF.det hu hra
      obtain ⟨z, u', hz, hu', hzS, hzM, hzr⟩ := hI6.got l hl
      obtain rfl : u' = b := RepF.det hu' hrb
      have hex := op_set hk hyM hzM 0
      have hcs := comb_set hyM hzM 0
      have hjn : j < n := by omega
      have hln : l < n := by omega
      refine load_blk0 hB6 rfl ?_
      refine wif_eqf (show ¬ (4 : Int) = 0 by decide) ?_
      refine wif_eqf (show ¬ (4 : Int) = 1 by decide) ?_
      refine wif_eqf (show ¬ (4 : Int) = 2 by decide) ?_
      refine wif_eqf (show ¬ (4 : Int) = 3 by decide) ?_
      refine wif_eqt rfl ?_
      refine draw_plan gx_ok (DgC w2.heap.size s L w6) 19 [(true, 0), (true, 1), (true, 2), (true, 3), (true, 4), (true, 5), (true, 6), (true, 7), (true, 8), (true, 9), (true, 10), (true, 11), (false, 12), (true, 13), (true, 14), (true, 15), (true, 16), (false, 17), (true, 18)] (by kernel_rfl) (DgC.of_ext hI6.blk (Ext.drew w6)) ?_
      have hxn : ¬ w4.heap.size = w2.heap.size := by omega
      refine qload (v := .int .i64 (j : Nat)) (fun w' hw' => by rw [(hB6.mod hw'.1 hxn).cell]; rfl) ?_
      refine index_n (j := j) hjn ?_
      refine qloadN (vs := y.cells) rfl (fun w' hw' i v hi => by rw [add_add]; exact hw'.2 j y (by omega) hy i v hi) ?_
      refine qload (v := .int .i64 (l : Nat)) (fun w' hw' => by rw [(hB6.mod hw'.1 hxn).cell]; rfl) ?_
      refine index_n (j := l) hln ?_
      refine qloadN (vs := z.cells) rfl (fun w' hw' i v hi => by rw [add_add]; exact hw'.2 l z (by omega) hz i v hi) ?_
      refine call (dand_fn y.A y.n y.c y.nd y.r z.A z.n z.c z.nd z.r _ (hyS.ext (Ext.drew w6)) (hzS.ext (Ext.drew w6))) ?_
      rw [hex]
      rintro _ w7 ⟨PA, pn, pc, rfl, hE7', hP7, hR7⟩
      have hE7 := (Ext.drew w6).trans hE7'
      have hz6d := (Ext.drew w6).size
      refine ⟨DgC.of_ext hI6.blk hE7, ?_⟩
      have hI7 := hI6.mod hE7
      have ht : RepF f (.and u u') s := ⟨j, l, hj, hl, hxj, hra, hrb⟩
      generalize combD y.nd y.r z.nd z.r 0 = D at *
      obtain ⟨D1, D2⟩ := D
      have hSv : Set1 k D1 D2 (evF (.and u u')) := hcs.congr (fun e => by simp [opB, evF])
      refine index_n (j := s) hsn ?_
      refine storeN_blk (j := s * 2) (vs := (⟨PA, pn, pc, D1, D2⟩ : DV).cells) hI7.blk (by rw [flat_length dv_len, hL]; show s * 2 + 2 ≤ n * 2; omega) (sc rfl) (fun w8 hg8 hz8 hB8 => ?_)
      have hM8 : Mod (· = w2.heap.size) w7 w8 := Mod.of_grown hg8 rfl
      have hI8 := hI7.put hsn (x := ⟨PA, pn, pc, D1, D2⟩) ht hP7 hSv (fun i hi => by have := hR7 i hi; omega) hM8 hB8
      refine ⟨DgC.put (by omega) hE7 hM8 hB8, ?_⟩
      refine wif_nef rfl ?_
      refine norm_i64_to ((s + 1 : Nat) : Int) (by show ((s : Nat) : Int) + 1 = _; omega) (by omega) ?_
      exact ⟨(s + 1, L.set s ⟨PA, pn, pc, D1, D2⟩), rfl, ⟨hI8, by show s + 1 ≤ n; omega⟩, by show n - (s + 1) < n - s; omega⟩
    | or a b =>
      obtain ⟨j, l, hj, hl, hxj, hra, hrb⟩ := ht
      have hxx : x = ⟨5, 0, (j : Nat), (l : Nat)⟩ := Option.some.inj (hx.symm.trans hxj)
      subst hxx
      obtain ⟨y, u, hy, hu, hyS, hyM, hyr⟩ := hI6.got j hj
      obtain rfl : u = a := RepF.det hu hra
      obtain ⟨z, u', hz, hu', hzS, hzM, hzr⟩ := hI6.got l hl
      obtain rfl : u' = b := RepF.det hu' hrb
      have hex := op_set hk hyM hzM 1
      have hcs := comb_set hyM hzM 1
      have hjn : j < n := by omega
      have hln : l < n := by omega
      refine load_blk0 hB6 rfl ?_
      refine wif_eqf (show ¬ (5 : Int) = 0 by decide) ?_
      refine wif_eqf (show ¬ (5 : Int) = 1 by decide) ?_
      refine wif_eqf (show ¬ (5 : Int) = 2 by decide) ?_
      refine wif_eqf (show ¬ (5 : Int) = 3 by decide) ?_
      refine wif_eqf (show ¬ (5 : Int) = 4 by decide) ?_
      refine wif_eqt rfl ?_
      refine draw_plan gx_ok (DgC w2.heap.size s L w6) 19 [(true, 0), (true, 1), (true, 2), (true, 3), (true, 4), (true, 5), (true, 6), (true, 7), (true, 8), (true, 9), (true, 10), (true, 11), (false, 12), (true, 13), (true, 14), (true, 15), (true, 16), (false, 17), (true, 18)] (by kernel_rfl) (DgC.of_ext hI6.blk (Ext.drew w6)) ?_
      have hxn : ¬ w4.heap.size = w2.heap.size := by omega
      refine qload (v := .int .i64 (j : Nat)) (fun w' hw' => by rw [(hB6.mod hw'.1 hxn).cell]; rfl) ?_
      refine index_n (j := j) hjn ?_
      refine qloadN (vs := y.cells) rfl (fun w' hw' i v hi => by rw [add_add]; exact hw'.2 j y (by omega) hy i v hi) ?_
      refine qload (v := .int .i64 (l : Nat)) (fun w' hw' => by rw [(hB6.mod hw'.1 hxn).cell]; rfl) ?_
      refine index_n (j := l) hln ?_
      refine qloadN (vs := z.cells) rfl (fun w' hw' i v hi => by rw [add_add]; exact hw'.2 l z (by omega) hz i v hi) ?_
      refine call (dor_fn y.A y.n y.c y.nd y.r z.A z.n z.c z.nd z.r _ (hyS.ext (Ext.drew w6)) (hzS.ext (Ext.drew w6))) ?_
      rw [hex]
      rintro _ w7 ⟨PA, pn, pc, rfl, hE7', hP7, hR7⟩
      have hE7 := (Ext.drew w6).trans hE7'
      have hz6d := (Ext.drew w6).size
      refine ⟨DgC.of_ext hI6.blk hE7, ?_⟩
      have hI7 := hI6.mod hE7
      have ht : RepF f (.or u u') s := ⟨j, l, hj, hl, hxj, hra, hrb⟩
      generalize combD y.nd y.r z.nd z.r 1 = D at *
      obtain ⟨D1, D2⟩ := D
      have hSv : Set1 k D1 D2 (evF (.or u u')) := hcs.congr (fun e => by simp [opB, evF])
      refine index_n (j := s) hsn ?_
      refine storeN_blk (j := s * 2) (vs := (⟨PA, pn, pc, D1, D2⟩ : DV).cells) hI7.blk (by rw [flat_length dv_len, hL]; show s * 2 + 2 ≤ n * 2; omega) (sc rfl) (fun w8 hg8 hz8 hB8 => ?_)
      have hM8 : Mod (· = w2.heap.size) w7 w8 := Mod.of_grown hg8 rfl
      have hI8 := hI7.put hsn (x := ⟨PA, pn, pc, D1, D2⟩) ht hP7 hSv (fun i hi => by have := hR7 i hi; omega) hM8 hB8
      refine ⟨DgC.put (by omega) hE7 hM8 hB8, ?_⟩
      refine wif_nef rfl ?_
      refine norm_i64_to ((s + 1 : Nat) : Int) (by show ((s : Nat) : Int) + 1 = _; omega) (by omega) ?_
      exact ⟨(s + 1, L.set s ⟨PA, pn, pc, D1, D2⟩), rfl, ⟨hI8, by show s + 1 ≤ n; omega⟩, by show n - (s + 1) < n - s; omega⟩
  · have hsn : s = n := by simp only at h1; omega
    subst hsn
    obtain ⟨y, u, hy, hu, hyS, hyM, hyr⟩ := hI.got (s - 1) (by omega)
    have htr := treeOf_eq (f := f) (t := u) (by rw [hn]; exact hu)
    refine norm_i64_to ((s - 1 : Nat) : Int) (by omega) (by omega) ?_
    refine index_n (j := s - 1) (by omega) ?_
    refine loadN_blk (j := (s - 1) * 2) (vs := y.cells) hI.blk rfl (fun i v hi => flat_get dv_len _ _ _ _ _ hy hi) ?_
    have hB4 := ((hB1.ext hE2).ext hE3).mod hI.m (by show ¬ w.heap.size = w2.heap.size; omega)
    refine storeN_blk0 hB4 rfl (sc rfl) (fun w5 hg5 hz5 hB5 => ?_)
    have hM5 : Mod (· = w.heap.size) w4 w5 := Mod.of_grown hg5 rfl
    refine loadN_blk0 hB5 rfl ?_
    exact ⟨y.A, y.n, y.c, y.nd, y.r, rfl, hM5.ext hE4 (fun i hi => by omega), hyS.mod hM5 (fun i hi e => by have := hyr i hi; omega), by rw [htr]; exact hyM, fun i hi => by have := hyr i hi; omega⟩
end Go.Proofs.YtedopgkbajhanaaGreatDoor
