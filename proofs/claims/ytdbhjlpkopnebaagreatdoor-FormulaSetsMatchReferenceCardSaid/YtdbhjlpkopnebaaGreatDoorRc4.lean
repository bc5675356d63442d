/-
  The reference's around, show. (Printed by rshowgen.py.)
  Conditions: none.
-/
import Derived.Test.YtdbhjlpkopnebaaGreatDoorRc2
import Derived.Test.YtdbhjlpkopnebaaGreatDoorPlT
namespace Go.Proofs.YtdbhjlpkopnebaaGreatDoor
open Go Go.RowKit

def intsV (l : List Int) : List Value := l.map fun x => .int .i64 x
theorem cat_eq' (a b : List Nat) : Value.string (strOf a ++ strOf b) = .string (strOf (a ++ b)) := by rw [strOf_append]
theorem around_fn (s : List Nat) (op : Int) (L : List Int) (A : Option Addr) (n c : Nat) (w : World) (h : Sl w 1 A n c (intsV L)) (hl : s.length ≤ 281474976710656) :
    Fn Tryz.prog 94 [.string (strOf s), .int .i64 op, .slice A n c] w (fun v w' => v = .string (strOf (parF (decide (op ∈ L)) s)) ∧ w = w') := by
  have hn : L.length = n := by have := h.len; simp [intsV] at this; omega
  have hn9 : n ≤ 9223372036854775807 := by have := h.le; have := h.cap; simp only [maxLen] at this; omega
  refine fn_of_exec (c := { c94 with cuts := [] }) gx_ok Tryz.func94 rfl rfl rfl ?_
  refine loop gx_ok [7] (fun t : Nat => [.int .i64 t]) (fun t w' => w = w' ∧ t ≤ n ∧ op ∉ L.take t) (fun t _ => n - t) 0 rfl ⟨rfl, Nat.zero_le _, by simp⟩ ?_
  rintro t _ ⟨rfl, ht, hno⟩
  refine wif_d (fun h1 => ?_) (fun h1 => ?_)
  · have hx := List.getElem?_eq_getElem (l := L) (i := t) (by omega)
    generalize L[t]'(by omega) = y at hx
    refine index_sl h (by omega) (fun ad u hA hu hcell => ?_)
    have hu' : u = .int .i64 y := by
      have : (intsV L)[t]? = some (.int .i64 y) := by simp [intsV, hx]
      exact Option.some.inj (hu.symm.trans this)
    subst hu'
    refine load hcell ?_
    refine wif_eq (fun h2 => ?_) (fun h2 => ?_)
    · refine need_to (v' := .string (strOf ([40] ++ s))) (by show (strOf [40]).size + (strOf s).size ≤ maxLen; rw [strOf_size, strOf_size]; unfold maxLen; simp; omega) (cat_eq' [40] s) ?_
      refine need_to (v' := .string (strOf ([40] ++ s ++ [41]))) (by show (strOf ([40] ++ s)).size + (strOf [41]).size ≤ maxLen; rw [strOf_size, strOf_size]; unfold maxLen; simp; omega) (cat_eq' _ [41]) ?_
      refine ⟨?_, rfl⟩
      rw [decide_eq_true (by subst h2; exact List.mem_of_getElem? hx)]; rfl
    · refine norm_i64_to ((t + 1 : Nat) : Int) (by omega) (by omega) ?_
      refine ⟨t + 1, rfl, ⟨rfl, by omega, ?_⟩, by show n - (t + 1) < n - t; omega⟩
      rw [List.take_add_one, hx]
      simp only [Option.toList_some, List.mem_append, List.mem_singleton, not_or]
      exact ⟨hno, fun e => h2 e.symm⟩
  · have : t = n := by omega
    subst this
    rw [List.take_of_length_le (by omega)] at hno
    refine ⟨?_, rfl⟩
    rw [decide_eq_false hno]; rfl
theorem lvl2 (a : Fm) : decide (opF a ∈ ([4, 5] : List Int)) = decide (lvlF a < 2) := by cases a <;> first | rfl | (rename_i b; cases b <;> rfl)
theorem lvl1 (a : Fm) : decide (opF a ∈ ([5] : List Int)) = decide (lvlF a < 1) := by cases a <;> first | rfl | (rename_i b; cases b <;> rfl)
theorem parL (b : Bool) (s : List Nat) : s.length ≤ (parF b s).length ∧ (parF b s).length ≤ s.length + 2 := by
  cases b
  · simp [parF]
  · simp [parF]; omega

theorem show_fn (w0 : World) (nm : List (List Nat)) (A : Option Addr) (n c : Nat) (F : Option Addr) (nf cF : Nat) (f : List Fz) (hA : Sl w0 1 A n c (strsV nm)) (h : SF w0 F nf cF f) : ∀ (t : Fm) (i : Nat) (w : World), Ext w0 w → RepF f t i → VarsIn nm.length t → (prC nm t).length ≤ 140737488355328 →
    Fn Tryz.prog 73 [.slice A n c, .slice F nf cF, .int .i64 i] w (fun v w' => v = .string (strOf (prC nm t)) ∧ Ext w w') := by
  have hn := h.2
  have hnl : nm.length = n := by have := hA.len; rw [strsV_length] at this; omega
  have clen : ∀ {a b : List Nat}, (a ++ b).length ≤ 281474976710656 → (strOf a).size + (strOf b).size ≤ maxLen := fun {a b} hh => by
    rw [strOf_size, strOf_size]; rw [List.length_append] at hh; unfold maxLen; omega
  intro t
  induction t with
  | c b =>
    intro i w hE ht _ _
    have hi := RepF.lt ht
    refine fn_of_exec (c := { c73 with cuts := [] }) gx_ok Tryz.func73 rfl rfl rfl ?_
    refine index_sls fz_len (h.ext hE) rfl (by omega) (fun p x hx hc => ?_)
    refine loadN_at (vs := x.cells) rfl hc ?_
    refine new (fun w1 hE1 hz1 hB1 => ?_)
    refine storeN_blk0 hB1 rfl (sc rfl) (fun w2 hg2 hz2 hB2 => ?_)
    have hE2 : Ext w w2 := newBox hE1 hB1 hg2
    have hE02 : Ext w0 w2 := hE.trans hE2
    cases b with
    | true =>
      have hxx : x = ⟨1, 0, 0, 0⟩ := Option.some.inj (hx.symm.trans ht)
      subst hxx
      refine load_blk0 hB2 rfl ?_
      refine wif_eqf (show ¬ (1 : Int) = 0 by decide) ?_
      refine wif_eqt rfl ?_
      exact ⟨rfl, hE2⟩
    | false =>
      have hxx : x = ⟨0, 0, 0, 0⟩ := Option.some.inj (hx.symm.trans ht)
      subst hxx
      refine load_blk0 hB2 rfl ?_
      refine wif_eqt rfl ?_
      exact ⟨rfl, hE2⟩
  | v q =>
    intro i w hE ht hv _
    have hi := RepF.lt ht
    have hq : q < nm.length := hv
    refine fn_of_exec (c := { c73 with cuts := [] }) gx_ok Tryz.func73 rfl rfl rfl ?_
    refine index_sls fz_len (h.ext hE) rfl (by omega) (fun p x hx hc => ?_)
    refine loadN_at (vs := x.cells) rfl hc ?_
    refine new (fun w1 hE1 hz1 hB1 => ?_)
    refine storeN_blk0 hB1 rfl (sc rfl) (fun w2 hg2 hz2 hB2 => ?_)
    have hE2 : Ext w w2 := newBox hE1 hB1 hg2
    have hE02 : Ext w0 w2 := hE.trans hE2
    have hxx : x = ⟨2, (q : Nat), 0, 0⟩ := Option.some.inj (hx.symm.trans ht)
    subst hxx
    refine load_blk0 hB2 rfl ?_
    refine wif_eqf (show ¬ (2 : Int) = 0 by decide) ?_
    refine wif_eqf (show ¬ (2 : Int) = 1 by decide) ?_
    refine wif_eqt rfl ?_
    refine load_blk hB2 rfl ?_
    have hg := List.getElem?_eq_getElem hq
    refine index_sl (j := q) (hA.ext hE02) (by omega) (fun ad u hAd hu hcell => ?_)
    have hu' : u = .string (strOf nm[q]) := Option.some.inj (hu.symm.trans (strsV_get hg))
    subst hu'
    refine load hcell ?_
    refine ⟨?_, hE2⟩
    show _ = Value.string (strOf (nm[q]?.getD []))
    rw [hg]; rfl
  | not a ih =>
    intro i w hE ht hv hlen
    have hi := RepF.lt ht
    obtain ⟨j, hj, hxj, hra⟩ := ht
    have hla := (parL (decide (lvlF a < 2)) (prC nm a)).1
    have hlt : (prC nm (.not a)).length = (parF (decide (lvlF a < 2)) (prC nm a)).length + 1 := by simp [prC]
    refine fn_of_exec (c := { c73 with cuts := [] }) gx_ok Tryz.func73 rfl rfl rfl ?_
    refine index_sls fz_len (h.ext hE) rfl (by omega) (fun p x hx hc => ?_)
    refine loadN_at (vs := x.cells) rfl hc ?_
    refine new (fun w1 hE1 hz1 hB1 => ?_)
    refine storeN_blk0 hB1 rfl (sc rfl) (fun w2 hg2 hz2 hB2 => ?_)
    have hE2 : Ext w w2 := newBox hE1 hB1 hg2
    have hE02 : Ext w0 w2 := hE.trans hE2
    have hxx : x = ⟨3, 0, (j : Nat), 0⟩ := Option.some.inj (hx.symm.trans hxj)
    subst hxx
    obtain ⟨y, hy, hyo⟩ := RepF.node hra
    refine load_blk0 hB2 rfl ?_
    refine wif_eqf (show ¬ (3 : Int) = 0 by decide) ?_
    refine wif_eqf (show ¬ (3 : Int) = 1 by decide) ?_
    refine wif_eqf (show ¬ (3 : Int) = 2 by decide) ?_
    refine wif_eqt rfl ?_
    refine draw_tree gx_ok (Ext w2) 15 (.quiet 0 (.quiet 1 (.quiet 2 (.quiet 3 (.quiet 5 (.quiet 6 (.quiet 7 (.quiet 8 (.quiet 9 (.quiet 10 (.fork 4 (.fork 11 (.fork 12 (.quiet 13 (.quiet 14 .done)) .skip) .skip) (.fork 11 (.fork 4 (.fork 12 (.quiet 13 (.quiet 14 .done)) .skip) .skip) .skip)))))))))))) (by kernel_rfl) (Ext.drew w2) ?_
    refine qload (v := .int .i64 (j : Nat)) (fun w' hw' => by rw [(hB2.ext hw').cell]; rfl) ?_
    refine qload (v := .int .i64 (j : Nat)) (fun w' hw' => by rw [(hB2.ext hw').cell]; rfl) ?_
    refine index_sls fz_len (h.ext hE02) rfl (by omega) (fun p2y zy hzy hcy => ?_)
    have hqy : zy = y := Option.some.inj (hzy.symm.trans hy)
    subst hqy
    refine qload (v := .int .i64 zy.o) (fun w' hw' => hw'.cell (hcy 0 _ rfl)) ?_
    refine ⟨?_, ?_⟩
    · skip
      refine call (ih j _ (hE02.trans (Ext.drew w2)) hra hv (by omega)) ?_
      rintro _ w101 ⟨rfl, hE101⟩
      refine ⟨((Ext.drew w2).trans hE101), ?_⟩
      refine ⟨?_, trivial⟩
      refine at_build2 gx_ok rfl rfl rfl rfl rfl rfl rfl rfl rfl rfl (fun w102 hE102 hz102 hB102 => ?_)
      have hs102 : Sl w102 1 (some ⟨(w101).heap.size, 0, none⟩) 2 2 (intsV [4, 5]) := Sl.own' (n := 2) hB102 rfl (by decide)
      refine ⟨(((Ext.drew w2).trans hE101).trans hE102), ?_⟩
      refine ⟨?_, trivial⟩
      refine call (around_fn (prC nm a) _ [4, 5] _ 2 2 _ hs102 (by omega)) ?_
      rw [hyo, lvl2]
      rintro _ _ ⟨rfl, rfl⟩
      refine ⟨(((Ext.drew w2).trans hE101).trans hE102), ?_⟩
      refine need_to (v' := .string (strOf (prC nm (.not a)))) (clen (a := [33]) (by rw [List.length_append]; simp only [List.length_cons, List.length_nil]; omega)) (cat_eq' [33] _) ?_
      exact ⟨rfl, hE2.trans (((Ext.drew w2).trans hE101).trans hE102)⟩
    · skip
      refine ⟨?_, trivial⟩
      refine at_build2 gx_ok rfl rfl rfl rfl rfl rfl rfl rfl rfl rfl (fun w103 hE103 hz103 hB103 => ?_)
      have hs103 : Sl w103 1 (some ⟨(w2.drew).heap.size, 0, none⟩) 2 2 (intsV [4, 5]) := Sl.own' (n := 2) hB103 rfl (by decide)
      refine ⟨((Ext.drew w2).trans hE103), ?_⟩
      refine ⟨?_, trivial⟩
      refine call (ih j _ (hE02.trans ((Ext.drew w2).trans hE103)) hra hv (by omega)) ?_
      rintro _ w104 ⟨rfl, hE104⟩
      refine ⟨(((Ext.drew w2).trans hE103).trans hE104), ?_⟩
      refine ⟨?_, trivial⟩
      refine call (around_fn (prC nm a) _ [4, 5] _ 2 2 _ (hs103.ext hE104) (by omega)) ?_
      rw [hyo, lvl2]
      rintro _ _ ⟨rfl, rfl⟩
      refine ⟨(((Ext.drew w2).trans hE103).trans hE104), ?_⟩
      refine need_to (v' := .string (strOf (prC nm (.not a)))) (clen (a := [33]) (by rw [List.length_append]; simp only [List.length_cons, List.length_nil]; omega)) (cat_eq' [33] _) ?_
      exact ⟨rfl, hE2.trans (((Ext.drew w2).trans hE103).trans hE104)⟩
  | and a b iha ihb =>
    intro i w hE ht hv hlen
    have hi := RepF.lt ht
    obtain ⟨j, l, hj, hl, hxj, hra, hrb⟩ := ht
    have hla := parL (decide (lvlF a < 1)) (prC nm a)
    have hlb := parL (decide (lvlF b < 2)) (prC nm b)
    have hlt : (prC nm (.and a b)).length = (parF (decide (lvlF a < 1)) (prC nm a)).length + 4 + (parF (decide (lvlF b < 2)) (prC nm b)).length := by simp [prC]; omega
    refine fn_of_exec (c := { c73 with cuts := [] }) gx_ok Tryz.func73 rfl rfl rfl ?_
    refine index_sls fz_len (h.ext hE) rfl (by omega) (fun p x hx hc => ?_)
    refine loadN_at (vs := x.cells) rfl hc ?_
    refine new (fun w1 hE1 hz1 hB1 => ?_)
    refine storeN_blk0 hB1 rfl (sc rfl) (fun w2 hg2 hz2 hB2 => ?_)
    have hE2 : Ext w w2 := newBox hE1 hB1 hg2
    have hE02 : Ext w0 w2 := hE.trans hE2
    have hxx : x = ⟨4, 0, (j : Nat), (l : Nat)⟩ := Option.some.inj (hx.symm.trans hxj)
    subst hxx
    obtain ⟨y, hy, hyo⟩ := RepF.node hra
    obtain ⟨u, hu, huo⟩ := RepF.node hrb
    refine load_blk0 hB2 rfl ?_
    refine wif_eqf (show ¬ (4 : Int) = 0 by decide) ?_
    refine wif_eqf (show ¬ (4 : Int) = 1 by decide) ?_
    refine wif_eqf (show ¬ (4 : Int) = 2 by decide) ?_
    refine wif_eqf (show ¬ (4 : Int) = 3 by decide) ?_
    refine wif_eqt rfl ?_
    refine draw_tree gx_ok (Ext w2) 29 (.quiet 0 (.quiet 1 (.quiet 2 (.quiet 3 (.quiet 5 (.quiet 6 (.quiet 7 (.quiet 8 (.quiet 9 (.quiet 10 (.quiet 14 (.quiet 15 (.quiet 16 (.quiet 17 (.quiet 19 (.quiet 20 (.quiet 21 (.quiet 22 (.quiet 23 (.quiet 24 (.fork 4 (.fork 11 (.fork 12 (.quiet 13 (.fork 18 (.fork 25 (.fork 26 (.quiet 27 (.quiet 28 .done)) .skip) .skip) (.fork 25 (.fork 18 (.fork 26 (.quiet 27 (.quiet 28 .done)) .skip) .skip) .skip))) (.fork 25 (.fork 12 (.quiet 13 (.fork 18 (.fork 26 (.quiet 27 (.quiet 28 .done)) .skip) .skip)) .skip) .skip)) (.fork 25 (.fork 11 (.fork 12 (.quiet 13 (.fork 18 (.fork 26 (.quiet 27 (.quiet 28 .done)) .skip) .skip)) .skip) .skip) .skip)) (.fork 11 (.fork 4 (.fork 12 (.quiet 13 (.fork 18 (.fork 25 (.fork 26 (.quiet 27 (.quiet 28 .done)) .skip) .skip) (.fork 25 (.fork 18 (.fork 26 (.quiet 27 (.quiet 28 .done)) .skip) .skip) .skip))) (.fork 25 (.fork 12 (.quiet 13 (.fork 18 (.fork 26 (.quiet 27 (.quiet 28 .done)) .skip) .skip)) .skip) .skip)) (.fork 25 (.fork 4 (.fork 12 (.quiet 13 (.fork 18 (.fork 26 (.quiet 27 (.quiet 28 .done)) .skip) .skip)) .skip) .skip) .skip)) (.fork 25 (.fork 4 (.fork 11 (.fork 12 (.quiet 13 (.fork 18 (.fork 26 (.quiet 27 (.quiet 28 .done)) .skip) .skip)) .skip) .skip) (.fork 11 (.fork 4 (.fork 12 (.quiet 13 (.fork 18 (.fork 26 (.quiet 27 (.quiet 28 .done)) .skip) .skip)) .skip) .skip) .skip)) .skip))))))))))))))))))))))) (by kernel_rfl) (Ext.drew w2) ?_
    refine qload (v := .int .i64 (j : Nat)) (fun w' hw' => by rw [(hB2.ext hw').cell]; rfl) ?_
    refine qload (v := .int .i64 (j : Nat)) (fun w' hw' => by rw [(hB2.ext hw').cell]; rfl) ?_
    refine index_sls fz_len (h.ext hE02) rfl (by omega) (fun p2y zy hzy hcy => ?_)
    have hqy : zy = y := Option.some.inj (hzy.symm.trans hy)
    subst hqy
    refine qload (v := .int .i64 zy.o) (fun w' hw' => hw'.cell (hcy 0 _ rfl)) ?_
    refine qload (v := .int .i64 (l : Nat)) (fun w' hw' => by rw [(hB2.ext hw').cell]; rfl) ?_
    refine qload (v := .int .i64 (l : Nat)) (fun w' hw' => by rw [(hB2.ext hw').cell]; rfl) ?_
    refine index_sls fz_len (h.ext hE02) rfl (by omega) (fun p2u zu hzu hcu => ?_)
    have hqu : zu = u := Option.some.inj (hzu.symm.trans hu)
    subst hqu
    refine qload (v := .int .i64 zu.o) (fun w' hw' => hw'.cell (hcu 0 _ rfl)) ?_
    refine ⟨?_, ?_⟩
    · skip
      refine call (iha j _ (hE02.trans (Ext.drew w2)) hra hv.1 (by omega)) ?_
      rintro _ w105 ⟨rfl, hE105⟩
      refine ⟨((Ext.drew w2).trans hE105), ?_⟩
      refine ⟨?_, ?_⟩
      · skip
        refine at_build1 gx_ok rfl rfl rfl rfl rfl rfl rfl rfl (fun w106 hE106 hz106 hB106 => ?_)
        have hs106 : Sl w106 1 (some ⟨(w105).heap.size, 0, none⟩) 1 1 (intsV [5]) := Sl.own' (n := 1) hB106 rfl (by decide)
        refine ⟨(((Ext.drew w2).trans hE105).trans hE106), ?_⟩
        refine ⟨?_, ?_⟩
        · skip
          refine call (around_fn (prC nm a) _ [5] _ 1 1 _ hs106 (by omega)) ?_
          rw [hyo, lvl1]
          rintro _ _ ⟨rfl, rfl⟩
          refine ⟨(((Ext.drew w2).trans hE105).trans hE106), ?_⟩
          refine need_to (v' := .string (strOf (parF (decide (lvlF a < 1)) (prC nm a) ++ [32, 38, 38, 32]))) (clen (b := [32, 38, 38, 32]) (by rw [List.length_append]; simp only [List.length_cons, List.length_nil]; omega)) (cat_eq' _ [32, 38, 38, 32]) ?_
          refine ⟨?_, ?_⟩
          · skip
            refine call (ihb l _ (hE02.trans (((Ext.drew w2).trans hE105).trans hE106)) hrb hv.2 (by omega)) ?_
            rintro _ w107 ⟨rfl, hE107⟩
            refine ⟨((((Ext.drew w2).trans hE105).trans hE106).trans hE107), ?_⟩
            refine ⟨?_, trivial⟩
            refine at_build2 gx_ok rfl rfl rfl rfl rfl rfl rfl rfl rfl rfl (fun w108 hE108 hz108 hB108 => ?_)
            have hs108 : Sl w108 1 (some ⟨(w107).heap.size, 0, none⟩) 2 2 (intsV [4, 5]) := Sl.own' (n := 2) hB108 rfl (by decide)
            refine ⟨(((((Ext.drew w2).trans hE105).trans hE106).trans hE107).trans hE108), ?_⟩
            refine ⟨?_, trivial⟩
            refine call (around_fn (prC nm b) _ [4, 5] _ 2 2 _ hs108 (by omega)) ?_
            rw [huo, lvl2]
            rintro _ _ ⟨rfl, rfl⟩
            refine ⟨(((((Ext.drew w2).trans hE105).trans hE106).trans hE107).trans hE108), ?_⟩
            refine need_to (v' := .string (strOf (prC nm (.and a b)))) (clen (by rw [List.length_append, List.length_append]; simp only [List.length_cons, List.length_nil]; omega)) (cat_eq' _ _) ?_
            exact ⟨rfl, hE2.trans (((((Ext.drew w2).trans hE105).trans hE106).trans hE107).trans hE108)⟩
          · skip
            refine ⟨?_, trivial⟩
            refine at_build2 gx_ok rfl rfl rfl rfl rfl rfl rfl rfl rfl rfl (fun w109 hE109 hz109 hB109 => ?_)
            have hs109 : Sl w109 1 (some ⟨(w106).heap.size, 0, none⟩) 2 2 (intsV [4, 5]) := Sl.own' (n := 2) hB109 rfl (by decide)
            refine ⟨((((Ext.drew w2).trans hE105).trans hE106).trans hE109), ?_⟩
            refine ⟨?_, trivial⟩
            refine call (ihb l _ (hE02.trans ((((Ext.drew w2).trans hE105).trans hE106).trans hE109)) hrb hv.2 (by omega)) ?_
            rintro _ w110 ⟨rfl, hE110⟩
            refine ⟨(((((Ext.drew w2).trans hE105).trans hE106).trans hE109).trans hE110), ?_⟩
            refine ⟨?_, trivial⟩
            refine call (around_fn (prC nm b) _ [4, 5] _ 2 2 _ (hs109.ext hE110) (by omega)) ?_
            rw [huo, lvl2]
            rintro _ _ ⟨rfl, rfl⟩
            refine ⟨(((((Ext.drew w2).trans hE105).trans hE106).trans hE109).trans hE110), ?_⟩
            refine need_to (v' := .string (strOf (prC nm (.and a b)))) (clen (by rw [List.length_append, List.length_append]; simp only [List.length_cons, List.length_nil]; omega)) (cat_eq' _ _) ?_
            exact ⟨rfl, hE2.trans (((((Ext.drew w2).trans hE105).trans hE106).trans hE109).trans hE110)⟩
        · skip
          refine ⟨?_, trivial⟩
          refine at_build2 gx_ok rfl rfl rfl rfl rfl rfl rfl rfl rfl rfl (fun w111 hE111 hz111 hB111 => ?_)
          have hs111 : Sl w111 1 (some ⟨(w106).heap.size, 0, none⟩) 2 2 (intsV [4, 5]) := Sl.own' (n := 2) hB111 rfl (by decide)
          refine ⟨((((Ext.drew w2).trans hE105).trans hE106).trans hE111), ?_⟩
          refine ⟨?_, trivial⟩
          refine call (around_fn (prC nm a) _ [5] _ 1 1 _ (hs106.ext hE111) (by omega)) ?_
          rw [hyo, lvl1]
          rintro _ _ ⟨rfl, rfl⟩
          refine ⟨((((Ext.drew w2).trans hE105).trans hE106).trans hE111), ?_⟩
          refine need_to (v' := .string (strOf (parF (decide (lvlF a < 1)) (prC nm a) ++ [32, 38, 38, 32]))) (clen (b := [32, 38, 38, 32]) (by rw [List.length_append]; simp only [List.length_cons, List.length_nil]; omega)) (cat_eq' _ [32, 38, 38, 32]) ?_
          refine ⟨?_, trivial⟩
          refine call (ihb l _ (hE02.trans ((((Ext.drew w2).trans hE105).trans hE106).trans hE111)) hrb hv.2 (by omega)) ?_
          rintro _ w112 ⟨rfl, hE112⟩
          refine ⟨(((((Ext.drew w2).trans hE105).trans hE106).trans hE111).trans hE112), ?_⟩
          refine ⟨?_, trivial⟩
          refine call (around_fn (prC nm b) _ [4, 5] _ 2 2 _ (hs111.ext hE112) (by omega)) ?_
          rw [huo, lvl2]
          rintro _ _ ⟨rfl, rfl⟩
          refine ⟨(((((Ext.drew w2).trans hE105).trans hE106).trans hE111).trans hE112), ?_⟩
          refine need_to (v' := .string (strOf (prC nm (.and a b)))) (clen (by rw [List.length_append, List.length_append]; simp only [List.length_cons, List.length_nil]; omega)) (cat_eq' _ _) ?_
          exact ⟨rfl, hE2.trans (((((Ext.drew w2).trans hE105).trans hE106).trans hE111).trans hE112)⟩
      · skip
        refine ⟨?_, trivial⟩
        refine at_build2 gx_ok rfl rfl rfl rfl rfl rfl rfl rfl rfl rfl (fun w113 hE113 hz113 hB113 => ?_)
        have hs113 : Sl w113 1 (some ⟨(w105).heap.size, 0, none⟩) 2 2 (intsV [4, 5]) := Sl.own' (n := 2) hB113 rfl (by decide)
        refine ⟨(((Ext.drew w2).trans hE105).trans hE113), ?_⟩
        refine ⟨?_, trivial⟩
        refine at_build1 gx_ok rfl rfl rfl rfl rfl rfl rfl rfl (fun w114 hE114 hz114 hB114 => ?_)
        have hs114 : Sl w114 1 (some ⟨(w113).heap.size, 0, none⟩) 1 1 (intsV [5]) := Sl.own' (n := 1) hB114 rfl (by decide)
        refine ⟨((((Ext.drew w2).trans hE105).trans hE113).trans hE114), ?_⟩
        refine ⟨?_, trivial⟩
        refine call (around_fn (prC nm a) _ [5] _ 1 1 _ hs114 (by omega)) ?_
        rw [hyo, lvl1]
        rintro _ _ ⟨rfl, rfl⟩
        refine ⟨((((Ext.drew w2).trans hE105).trans hE113).trans hE114), ?_⟩
        refine need_to (v' := .string (strOf (parF (decide (lvlF a < 1)) (prC nm a) ++ [32, 38, 38, 32]))) (clen (b := [32, 38, 38, 32]) (by rw [List.length_append]; simp only [List.length_cons, List.length_nil]; omega)) (cat_eq' _ [32, 38, 38, 32]) ?_
        refine ⟨?_, trivial⟩
        refine call (ihb l _ (hE02.trans ((((Ext.drew w2).trans hE105).trans hE113).trans hE114)) hrb hv.2 (by omega)) ?_
        rintro _ w115 ⟨rfl, hE115⟩
        refine ⟨(((((Ext.drew w2).trans hE105).trans hE113).trans hE114).trans hE115), ?_⟩
        refine ⟨?_, trivial⟩
        refine call (around_fn (prC nm b) _ [4, 5] _ 2 2 _ ((hs113.ext hE114).ext hE115) (by omega)) ?_
        rw [huo, lvl2]
        rintro _ _ ⟨rfl, rfl⟩
        refine ⟨(((((Ext.drew w2).trans hE105).trans hE113).trans hE114).trans hE115), ?_⟩
        refine need_to (v' := .string (strOf (prC nm (.and a b)))) (clen (by rw [List.length_append, List.length_append]; simp only [List.length_cons, List.length_nil]; omega)) (cat_eq' _ _) ?_
        exact ⟨rfl, hE2.trans (((((Ext.drew w2).trans hE105).trans hE113).trans hE114).trans hE115)⟩
    · skip
      refine ⟨?_, ?_⟩
      · skip
        refine at_build1 gx_ok rfl rfl rfl rfl rfl rfl rfl rfl (fun w116 hE116 hz116 hB116 => ?_)
        have hs116 : Sl w116 1 (some ⟨(w2.drew).heap.size, 0, none⟩) 1 1 (intsV [5]) := Sl.own' (n := 1) hB116 rfl (by decide)
        refine ⟨((Ext.drew w2).trans hE116), ?_⟩
        refine ⟨?_, ?_⟩
        · skip
          refine call (iha j _ (hE02.trans ((Ext.drew w2).trans hE116)) hra hv.1 (by omega)) ?_
          rintro _ w117 ⟨rfl, hE117⟩
          refine ⟨(((Ext.drew w2).trans hE116).trans hE117), ?_⟩
          refine ⟨?_, ?_⟩
          · skip
            refine call (around_fn (prC nm a) _ [5] _ 1 1 _ (hs116.ext hE117) (by omega)) ?_
            rw [hyo, lvl1]
            rintro _ _ ⟨rfl, rfl⟩
            refine ⟨(((Ext.drew w2).trans hE116).trans hE117), ?_⟩
            refine need_to (v' := .string (strOf (parF (decide (lvlF a < 1)) (prC nm a) ++ [32, 38, 38, 32]))) (clen (b := [32, 38, 38, 32]) (by rw [List.length_append]; simp only [List.length_cons, List.length_nil]; omega)) (cat_eq' _ [32, 38, 38, 32]) ?_
            refine ⟨?_, ?_⟩
            · skip
              refine call (ihb l _ (hE02.trans (((Ext.drew w2).trans hE116).trans hE117)) hrb hv.2 (by omega)) ?_
              rintro _ w118 ⟨rfl, hE118⟩
              refine ⟨((((Ext.drew w2).trans hE116).trans hE117).trans hE118), ?_⟩
              refine ⟨?_, trivial⟩
              refine at_build2 gx_ok rfl rfl rfl rfl rfl rfl rfl rfl rfl rfl (fun w119 hE119 hz119 hB119 => ?_)
              have hs119 : Sl w119 1 (some ⟨(w118).heap.size, 0, none⟩) 2 2 (intsV [4, 5]) := Sl.own' (n := 2) hB119 rfl (by decide)
              refine ⟨(((((Ext.drew w2).trans hE116).trans hE117).trans hE118).trans hE119), ?_⟩
              refine ⟨?_, trivial⟩
              refine call (around_fn (prC nm b) _ [4, 5] _ 2 2 _ hs119 (by omega)) ?_
              rw [huo, lvl2]
              rintro _ _ ⟨rfl, rfl⟩
              refine ⟨(((((Ext.drew w2).trans hE116).trans hE117).trans hE118).trans hE119), ?_⟩
              refine need_to (v' := .string (strOf (prC nm (.and a b)))) (clen (by rw [List.length_append, List.length_append]; simp only [List.length_cons, List.length_nil]; omega)) (cat_eq' _ _) ?_
              exact ⟨rfl, hE2.trans (((((Ext.drew w2).trans hE116).trans hE117).trans hE118).trans hE119)⟩
            · skip
              refine ⟨?_, trivial⟩
              refine at_build2 gx_ok rfl rfl rfl rfl rfl rfl rfl rfl rfl rfl (fun w120 hE120 hz120 hB120 => ?_)
              have hs120 : Sl w120 1 (some ⟨(w117).heap.size, 0, none⟩) 2 2 (intsV [4, 5]) := Sl.own' (n := 2) hB120 rfl (by decide)
              refine ⟨((((Ext.drew w2).trans hE116).trans hE117).trans hE120), ?_⟩
              refine ⟨?_, trivial⟩
              refine call (ihb l _ (hE02.trans ((((Ext.drew w2).trans hE116).trans hE117).trans hE120)) hrb hv.2 (by omega)) ?_
              rintro _ w121 ⟨rfl, hE121⟩
              refine ⟨(((((Ext.drew w2).trans hE116).trans hE117).trans hE120).trans hE121), ?_⟩
              refine ⟨?_, trivial⟩
              refine call (around_fn (prC nm b) _ [4, 5] _ 2 2 _ (hs120.ext hE121) (by omega)) ?_
              rw [huo, lvl2]
              rintro _ _ ⟨rfl, rfl⟩
              refine ⟨(((((Ext.drew w2).trans hE116).trans hE117).trans hE120).trans hE121), ?_⟩
              refine need_to (v' := .string (strOf (prC nm (.and a b)))) (clen (by rw [List.length_append, List.length_append]; simp only [List.length_cons, List.length_nil]; omega)) (cat_eq' _ _) ?_
              exact ⟨rfl, hE2.trans (((((Ext.drew w2).trans hE116).trans hE117).trans hE120).trans hE121)⟩
          · skip
            refine ⟨?_, trivial⟩
            refine at_build2 gx_ok rfl rfl rfl rfl rfl rfl rfl rfl rfl rfl (fun w122 hE122 hz122 hB122 => ?_)
            have hs122 : Sl w122 1 (some ⟨(w117).heap.size, 0, none⟩) 2 2 (intsV [4, 5]) := Sl.own' (n := 2) hB122 rfl (by decide)
            refine ⟨((((Ext.drew w2).trans hE116).trans hE117).trans hE122), ?_⟩
            refine ⟨?_, trivial⟩
            refine call (around_fn (prC nm a) _ [5] _ 1 1 _ ((hs116.ext hE117).ext hE122) (by omega)) ?_
            rw [hyo, lvl1]
            rintro _ _ ⟨rfl, rfl⟩
            refine ⟨((((Ext.drew w2).trans hE116).trans hE117).trans hE122), ?_⟩
            refine need_to (v' := .string (strOf (parF (decide (lvlF a < 1)) (prC nm a) ++ [32, 38, 38, 32]))) (clen (b := [32, 38, 38, 32]) (by rw [List.length_append]; simp only [List.length_cons, List.length_nil]; omega)) (cat_eq' _ [32, 38, 38, 32]) ?_
            refine ⟨?_, trivial⟩
            refine call (ihb l _ (hE02.trans ((((Ext.drew w2).trans hE116).trans hE117).trans hE122)) hrb hv.2 (by omega)) ?_
            rintro _ w123 ⟨rfl, hE123⟩
            refine ⟨(((((Ext.drew w2).trans hE116).trans hE117).trans hE122).trans hE123), ?_⟩
            refine ⟨?_, trivial⟩
            refine call (around_fn (prC nm b) _ [4, 5] _ 2 2 _ (hs122.ext hE123) (by omega)) ?_
            rw [huo, lvl2]
            rintro _ _ ⟨rfl, rfl⟩
            refine ⟨(((((Ext.drew w2).trans hE116).trans hE117).trans hE122).trans hE123), ?_⟩
            refine need_to (v' := .string (strOf (prC nm (.and a b)))) (clen (by rw [List.length_append, List.length_append]; simp only [List.length_cons, List.length_nil]; omega)) (cat_eq' _ _) ?_
            exact ⟨rfl, hE2.trans (((((Ext.drew w2).trans hE116).trans hE117).trans hE122).trans hE123)⟩
        · skip
          refine ⟨?_, trivial⟩
          refine at_build2 gx_ok rfl rfl rfl rfl rfl rfl rfl rfl rfl rfl (fun w124 hE124 hz124 hB124 => ?_)
          have hs124 : Sl w124 1 (some ⟨(w116).heap.size, 0, none⟩) 2 2 (intsV [4, 5]) := Sl.own' (n := 2) hB124 rfl (by decide)
          refine ⟨(((Ext.drew w2).trans hE116).trans hE124), ?_⟩
          refine ⟨?_, trivial⟩
          refine call (iha j _ (hE02.trans (((Ext.drew w2).trans hE116).trans hE124)) hra hv.1 (by omega)) ?_
          rintro _ w125 ⟨rfl, hE125⟩
          refine ⟨((((Ext.drew w2).trans hE116).trans hE124).trans hE125), ?_⟩
          refine ⟨?_, trivial⟩
          refine call (around_fn (prC nm a) _ [5] _ 1 1 _ ((hs116.ext hE124).ext hE125) (by omega)) ?_
          rw [hyo, lvl1]
          rintro _ _ ⟨rfl, rfl⟩
          refine ⟨((((Ext.drew w2).trans hE116).trans hE124).trans hE125), ?_⟩
          refine need_to (v' := .string (strOf (parF (decide (lvlF a < 1)) (prC nm a) ++ [32, 38, 38, 32]))) (clen (b := [32, 38, 38, 32]) (by rw [List.length_append]; simp only [List.length_cons, List.length_nil]; omega)) (cat_eq' _ [32, 38, 38, 32]) ?_
          refine ⟨?_, trivial⟩
          refine call (ihb l _ (hE02.trans ((((Ext.drew w2).trans hE116).trans hE124).trans hE125)) hrb hv.2 (by omega)) ?_
          rintro _ w126 ⟨rfl, hE126⟩
          refine ⟨(((((Ext.drew w2).trans hE116).trans hE124).trans hE125).trans hE126), ?_⟩
          refine ⟨?_, trivial⟩
          refine call (around_fn (prC nm b) _ [4, 5] _ 2 2 _ ((hs124.ext hE125).ext hE126) (by omega)) ?_
          rw [huo, lvl2]
          rintro _ _ ⟨rfl, rfl⟩
          refine ⟨(((((Ext.drew w2).trans hE116).trans hE124).trans hE125).trans hE126), ?_⟩
          refine need_to (v' := .string (strOf (prC nm (.and a b)))) (clen (by rw [List.length_append, List.length_append]; simp only [List.length_cons, List.length_nil]; omega)) (cat_eq' _ _) ?_
          exact ⟨rfl, hE2.trans (((((Ext.drew w2).trans hE116).trans hE124).trans hE125).trans hE126)⟩
      · skip
        refine ⟨?_, trivial⟩
        refine at_build2 gx_ok rfl rfl rfl rfl rfl rfl rfl rfl rfl rfl (fun w127 hE127 hz127 hB127 => ?_)
        have hs127 : Sl w127 1 (some ⟨(w2.drew).heap.size, 0, none⟩) 2 2 (intsV [4, 5]) := Sl.own' (n := 2) hB127 rfl (by decide)
        refine ⟨((Ext.drew w2).trans hE127), ?_⟩
        refine ⟨?_, ?_⟩
        · skip
          refine call (iha j _ (hE02.trans ((Ext.drew w2).trans hE127)) hra hv.1 (by omega)) ?_
          rintro _ w128 ⟨rfl, hE128⟩
          refine ⟨(((Ext.drew w2).trans hE127).trans hE128), ?_⟩
          refine ⟨?_, trivial⟩
          refine at_build1 gx_ok rfl rfl rfl rfl rfl rfl rfl rfl (fun w129 hE129 hz129 hB129 => ?_)
          have hs129 : Sl w129 1 (some ⟨(w128).heap.size, 0, none⟩) 1 1 (intsV [5]) := Sl.own' (n := 1) hB129 rfl (by decide)
          refine ⟨((((Ext.drew w2).trans hE127).trans hE128).trans hE129), ?_⟩
          refine ⟨?_, trivial⟩
          refine call (around_fn (prC nm a) _ [5] _ 1 1 _ hs129 (by omega)) ?_
          rw [hyo, lvl1]
          rintro _ _ ⟨rfl, rfl⟩
          refine ⟨((((Ext.drew w2).trans hE127).trans hE128).trans hE129), ?_⟩
          refine need_to (v' := .string (strOf (parF (decide (lvlF a < 1)) (prC nm a) ++ [32, 38, 38, 32]))) (clen (b := [32, 38, 38, 32]) (by rw [List.length_append]; simp only [List.length_cons, List.length_nil]; omega)) (cat_eq' _ [32, 38, 38, 32]) ?_
          refine ⟨?_, trivial⟩
          refine call (ihb l _ (hE02.trans ((((Ext.drew w2).trans hE127).trans hE128).trans hE129)) hrb hv.2 (by omega)) ?_
          rintro _ w130 ⟨rfl, hE130⟩
          refine ⟨(((((Ext.drew w2).trans hE127).trans hE128).trans hE129).trans hE130), ?_⟩
          refine ⟨?_, trivial⟩
          refine call (around_fn (prC nm b) _ [4, 5] _ 2 2 _ (((hs127.ext hE128).ext hE129).ext hE130) (by omega)) ?_
          rw [huo, lvl2]
          rintro _ _ ⟨rfl, rfl⟩
          refine ⟨(((((Ext.drew w2).trans hE127).trans hE128).trans hE129).trans hE130), ?_⟩
          refine need_to (v' := .string (strOf (prC nm (.and a b)))) (clen (by rw [List.length_append, List.length_append]; simp only [List.length_cons, List.length_nil]; omega)) (cat_eq' _ _) ?_
          exact ⟨rfl, hE2.trans (((((Ext.drew w2).trans hE127).trans hE128).trans hE129).trans hE130)⟩
        · skip
          refine ⟨?_, trivial⟩
          refine at_build1 gx_ok rfl rfl rfl rfl rfl rfl rfl rfl (fun w131 hE131 hz131 hB131 => ?_)
          have hs131 : Sl w131 1 (some ⟨(w127).heap.size, 0, none⟩) 1 1 (intsV [5]) := Sl.own' (n := 1) hB131 rfl (by decide)
          refine ⟨(((Ext.drew w2).trans hE127).trans hE131), ?_⟩
          refine ⟨?_, trivial⟩
          refine call (iha j _ (hE02.trans (((Ext.drew w2).trans hE127).trans hE131)) hra hv.1 (by omega)) ?_
          rintro _ w132 ⟨rfl, hE132⟩
          refine ⟨((((Ext.drew w2).trans hE127).trans hE131).trans hE132), ?_⟩
          refine ⟨?_, trivial⟩
          refine call (around_fn (prC nm a) _ [5] _ 1 1 _ (hs131.ext hE132) (by omega)) ?_
          rw [hyo, lvl1]
          rintro _ _ ⟨rfl, rfl⟩
          refine ⟨((((Ext.drew w2).trans hE127).trans hE131).trans hE132), ?_⟩
          refine need_to (v' := .string (strOf (parF (decide (lvlF a < 1)) (prC nm a) ++ [32, 38, 38, 32]))) (clen (b := [32, 38, 38, 32]) (by rw [List.length_append]; simp only [List.length_cons, List.length_nil]; omega)) (cat_eq' _ [32, 38, 38, 32]) ?_
          refine ⟨?_, trivial⟩
          refine call (ihb l _ (hE02.trans ((((Ext.drew w2).trans hE127).trans hE131).trans hE132)) hrb hv.2 (by omega)) ?_
          rintro _ w133 ⟨rfl, hE133⟩
          refine ⟨(((((Ext.drew w2).trans hE127).trans hE131).trans hE132).trans hE133), ?_⟩
          refine ⟨?_, trivial⟩
          refine call (around_fn (prC nm b) _ [4, 5] _ 2 2 _ (((hs127.ext hE131).ext hE132).ext hE133) (by omega)) ?_
          rw [huo, lvl2]
          rintro _ _ ⟨rfl, rfl⟩
          refine ⟨(((((Ext.drew w2).trans hE127).trans hE131).trans hE132).trans hE133), ?_⟩
          refine need_to (v' := .string (strOf (prC nm (.and a b)))) (clen (by rw [List.length_append, List.length_append]; simp only [List.length_cons, List.length_nil]; omega)) (cat_eq' _ _) ?_
          exact ⟨rfl, hE2.trans (((((Ext.drew w2).trans hE127).trans hE131).trans hE132).trans hE133)⟩
  | or a b iha ihb =>
    intro i w hE ht hv hlen
    have hi := RepF.lt ht
    obtain ⟨j, l, hj, hl, hxj, hra, hrb⟩ := ht
    have hlb := parL (decide (lvlF b < 1)) (prC nm b)
    have hpe : prC nm (.or a b) = prC nm a ++ [32, 124, 124, 32] ++ parF (decide (lvlF b < 1)) (prC nm b) := by
      show parF (decide (lvlF a < 0)) (prC nm a) ++ _ ++ _ = _
      rw [decide_eq_false (by omega)]; rfl
    have hlt : (prC nm (.or a b)).length = (prC nm a).length + 4 + (parF (decide (lvlF b < 1)) (prC nm b)).length := by rw [hpe]; simp; omega
    refine fn_of_exec (c := { c73 with cuts := [] }) gx_ok Tryz.func73 rfl rfl rfl ?_
    refine index_sls fz_len (h.ext hE) rfl (by omega) (fun p x hx hc => ?_)
    refine loadN_at (vs := x.cells) rfl hc ?_
    refine new (fun w1 hE1 hz1 hB1 => ?_)
    refine storeN_blk0 hB1 rfl (sc rfl) (fun w2 hg2 hz2 hB2 => ?_)
    have hE2 : Ext w w2 := newBox hE1 hB1 hg2
    have hE02 : Ext w0 w2 := hE.trans hE2
    have hxx : x = ⟨5, 0, (j : Nat), (l : Nat)⟩ := Option.some.inj (hx.symm.trans hxj)
    subst hxx
    obtain ⟨y, hy, hyo⟩ := RepF.node hra
    obtain ⟨u, hu, huo⟩ := RepF.node hrb
    refine load_blk0 hB2 rfl ?_
    refine wif_eqf (show ¬ (5 : Int) = 0 by decide) ?_
    refine wif_eqf (show ¬ (5 : Int) = 1 by decide) ?_
    refine wif_eqf (show ¬ (5 : Int) = 2 by decide) ?_
    refine wif_eqf (show ¬ (5 : Int) = 3 by decide) ?_
    refine wif_eqf (show ¬ (5 : Int) = 4 by decide) ?_
    refine draw_tree gx_ok (Ext w2) 21 (.quiet 0 (.quiet 1 (.quiet 2 (.quiet 3 (.quiet 6 (.quiet 7 (.quiet 8 (.quiet 9 (.quiet 11 (.quiet 12 (.quiet 13 (.quiet 14 (.quiet 15 (.quiet 16 (.fork 4 (.quiet 5 (.fork 10 (.fork 17 (.fork 18 (.quiet 19 (.quiet 20 .done)) .skip) .skip) (.fork 17 (.fork 10 (.fork 18 (.quiet 19 (.quiet 20 .done)) .skip) .skip) .skip))) (.fork 17 (.fork 4 (.quiet 5 (.fork 10 (.fork 18 (.quiet 19 (.quiet 20 .done)) .skip) .skip)) .skip) .skip)))))))))))))))) (by kernel_rfl) (Ext.drew w2) ?_
    refine qload (v := .int .i64 (j : Nat)) (fun w' hw' => by rw [(hB2.ext hw').cell]; rfl) ?_
    refine qload (v := .int .i64 (l : Nat)) (fun w' hw' => by rw [(hB2.ext hw').cell]; rfl) ?_
    refine qload (v := .int .i64 (l : Nat)) (fun w' hw' => by rw [(hB2.ext hw').cell]; rfl) ?_
    refine index_sls fz_len (h.ext hE02) rfl (by omega) (fun p2u zu hzu hcu => ?_)
    have hqu : zu = u := Option.some.inj (hzu.symm.trans hu)
    subst hqu
    refine qload (v := .int .i64 zu.o) (fun w' hw' => hw'.cell (hcu 0 _ rfl)) ?_
    refine ⟨?_, ?_⟩
    · skip
      refine call (iha j _ (hE02.trans (Ext.drew w2)) hra hv.1 (by omega)) ?_
      rintro _ w134 ⟨rfl, hE134⟩
      refine ⟨((Ext.drew w2).trans hE134), ?_⟩
      refine need_to (v' := .string (strOf (prC nm a ++ [32, 124, 124, 32]))) (clen (b := [32, 124, 124, 32]) (by rw [List.length_append]; simp only [List.length_cons, List.length_nil]; omega)) (cat_eq' _ [32, 124, 124, 32]) ?_
      refine ⟨?_, ?_⟩
      · skip
        refine call (ihb l _ (hE02.trans ((Ext.drew w2).trans hE134)) hrb hv.2 (by omega)) ?_
        rintro _ w135 ⟨rfl, hE135⟩
        refine ⟨(((Ext.drew w2).trans hE134).trans hE135), ?_⟩
        refine ⟨?_, trivial⟩
        refine at_build1 gx_ok rfl rfl rfl rfl rfl rfl rfl rfl (fun w136 hE136 hz136 hB136 => ?_)
        have hs136 : Sl w136 1 (some ⟨(w135).heap.size, 0, none⟩) 1 1 (intsV [5]) := Sl.own' (n := 1) hB136 rfl (by decide)
        refine ⟨((((Ext.drew w2).trans hE134).trans hE135).trans hE136), ?_⟩
        refine ⟨?_, trivial⟩
        refine call (around_fn (prC nm b) _ [5] _ 1 1 _ hs136 (by omega)) ?_
        rw [huo, lvl1]
        rintro _ _ ⟨rfl, rfl⟩
        refine ⟨((((Ext.drew w2).trans hE134).trans hE135).trans hE136), ?_⟩
        rw [hpe]
        refine need_to (v' := .string (strOf (prC nm a ++ [32, 124, 124, 32] ++ parF (decide (lvlF b < 1)) (prC nm b)))) (clen (by rw [List.length_append, List.length_append]; simp only [List.length_cons, List.length_nil]; omega)) (cat_eq' _ _) ?_
        exact ⟨rfl, hE2.trans ((((Ext.drew w2).trans hE134).trans hE135).trans hE136)⟩
      · skip
        refine ⟨?_, trivial⟩
        refine at_build1 gx_ok rfl rfl rfl rfl rfl rfl rfl rfl (fun w137 hE137 hz137 hB137 => ?_)
        have hs137 : Sl w137 1 (some ⟨(w134).heap.size, 0, none⟩) 1 1 (intsV [5]) := Sl.own' (n := 1) hB137 rfl (by decide)
        refine ⟨(((Ext.drew w2).trans hE134).trans hE137), ?_⟩
        refine ⟨?_, trivial⟩
        refine call (ihb l _ (hE02.trans (((Ext.drew w2).trans hE134).trans hE137)) hrb hv.2 (by omega)) ?_
        rintro _ w138 ⟨rfl, hE138⟩
        refine ⟨((((Ext.drew w2).trans hE134).trans hE137).trans hE138), ?_⟩
        refine ⟨?_, trivial⟩
        refine call (around_fn (prC nm b) _ [5] _ 1 1 _ (hs137.ext hE138) (by omega)) ?_
        rw [huo, lvl1]
        rintro _ _ ⟨rfl, rfl⟩
        refine ⟨((((Ext.drew w2).trans hE134).trans hE137).trans hE138), ?_⟩
        rw [hpe]
        refine need_to (v' := .string (strOf (prC nm a ++ [32, 124, 124, 32] ++ parF (decide (lvlF b < 1)) (prC nm b)))) (clen (by rw [List.length_append, List.length_append]; simp only [List.length_cons, List.length_nil]; omega)) (cat_eq' _ _) ?_
        exact ⟨rfl, hE2.trans ((((Ext.drew w2).trans hE134).trans hE137).trans hE138)⟩
    · skip
      refine ⟨?_, trivial⟩
      refine at_build1 gx_ok rfl rfl rfl rfl rfl rfl rfl rfl (fun w139 hE139 hz139 hB139 => ?_)
      have hs139 : Sl w139 1 (some ⟨(w2.drew).heap.size, 0, none⟩) 1 1 (intsV [5]) := Sl.own' (n := 1) hB139 rfl (by decide)
      refine ⟨((Ext.drew w2).trans hE139), ?_⟩
      refine ⟨?_, trivial⟩
      refine call (iha j _ (hE02.trans ((Ext.drew w2).trans hE139)) hra hv.1 (by omega)) ?_
      rintro _ w140 ⟨rfl, hE140⟩
      refine ⟨(((Ext.drew w2).trans hE139).trans hE140), ?_⟩
      refine need_to (v' := .string (strOf (prC nm a ++ [32, 124, 124, 32]))) (clen (b := [32, 124, 124, 32]) (by rw [List.length_append]; simp only [List.length_cons, List.length_nil]; omega)) (cat_eq' _ [32, 124, 124, 32]) ?_
      refine ⟨?_, trivial⟩
      refine call (ihb l _ (hE02.trans (((Ext.drew w2).trans hE139).trans hE140)) hrb hv.2 (by omega)) ?_
      rintro _ w141 ⟨rfl, hE141⟩
      refine ⟨((((Ext.drew w2).trans hE139).trans hE140).trans hE141), ?_⟩
      refine ⟨?_, trivial⟩
      refine call (around_fn (prC nm b) _ [5] _ 1 1 _ ((hs139.ext hE140).ext hE141) (by omega)) ?_
      rw [huo, lvl1]
      rintro _ _ ⟨rfl, rfl⟩
      refine ⟨((((Ext.drew w2).trans hE139).trans hE140).trans hE141), ?_⟩
      rw [hpe]
      refine need_to (v' := .string (strOf (prC nm a ++ [32, 124, 124, 32] ++ parF (decide (lvlF b < 1)) (prC nm b)))) (clen (by rw [List.length_append, List.length_append]; simp only [List.length_cons, List.length_nil]; omega)) (cat_eq' _ _) ?_
      exact ⟨rfl, hE2.trans ((((Ext.drew w2).trans hE139).trans hE140).trans hE141)⟩
end Go.Proofs.YtdbhjlpkopnebaaGreatDoor
