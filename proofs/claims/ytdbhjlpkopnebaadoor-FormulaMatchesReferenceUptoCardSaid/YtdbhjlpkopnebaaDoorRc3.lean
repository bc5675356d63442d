/-
  The reference's value, Holds, around, show.
  Conditions: none.
-/
import Derived.Test.YtdbhjlpkopnebaaDoorRc2
import Derived.Test.YtdbhjlpkopnebaaDoorPlT
namespace Go.Proofs.YtdbhjlpkopnebaaDoor
open Go Go.RowKit

theorem value_fn (w0 : World) (F : Option Addr) (n cF : Nat) (f : List Fz) (cfg : Nat) (hcf : cfg ≤ 18446744073709551615) (h : SF w0 F n cF f) : ∀ (t : Fm) (i : Nat) (w : World), Ext w0 w → RepF f t i → VarsIn 64 t →
    Fn Tryd.prog 59 [.slice F n cF, .int .i64 i, .int .u64 cfg] w (fun v w' => v = .bool (evF t (bitE cfg)) ∧ Ext w w') := by
  have hn := h.2
  intro t
  induction t with
  | c b =>
    intro i w hE ht _
    have hi := RepF.lt ht
    refine fn_of_exec (c := { c59 with cuts := [] }) gx_ok Tryd.func59 rfl rfl rfl ?_
    refine index_sls fz_len (h.ext hE) rfl (by omega) (fun p x hx hc => ?_)
    refine loadN_at (vs := x.cells) rfl hc ?_
    refine new (fun w1 hE1 hz1 hB1 => ?_)
    refine storeN_blk0 hB1 rfl (sc rfl) (fun w2 hg2 hz2 hB2 => ?_)
    have hE2 : Ext w w2 := newBox hE1 hB1 hg2
    cases b with
    | true =>
      have hxx : x = ⟨1, 0, 0, 0⟩ := Option.some.inj (hx.symm.trans ht)
      subst hxx
      refine load_blk0 hB2 rfl ?_
      refine wif_eqt rfl ?_
      exact ⟨rfl, hE2⟩
    | false =>
      have hxx : x = ⟨0, 0, 0, 0⟩ := Option.some.inj (hx.symm.trans ht)
      subst hxx
      refine load_blk0 hB2 rfl ?_
      refine wif_eqf (show ¬ (0 : Int) = 1 by decide) ?_
      refine wif_eqf (show ¬ (0 : Int) = 2 by decide) ?_
      refine wif_eqf (show ¬ (0 : Int) = 3 by decide) ?_
      refine wif_eqf (show ¬ (0 : Int) = 4 by decide) ?_
      refine wif_eqf (show ¬ (0 : Int) = 5 by decide) ?_
      exact ⟨rfl, hE2⟩
  | v q =>
    intro i w hE ht hv
    have hi := RepF.lt ht
    have hq : q < 64 := hv
    refine fn_of_exec (c := { c59 with cuts := [] }) gx_ok Tryd.func59 rfl rfl rfl ?_
    refine index_sls fz_len (h.ext hE) rfl (by omega) (fun p x hx hc => ?_)
    refine loadN_at (vs := x.cells) rfl hc ?_
    refine new (fun w1 hE1 hz1 hB1 => ?_)
    refine storeN_blk0 hB1 rfl (sc rfl) (fun w2 hg2 hz2 hB2 => ?_)
    have hE2 : Ext w w2 := newBox hE1 hB1 hg2
    have hxx : x = ⟨2, (q : Nat), 0, 0⟩ := Option.some.inj (hx.symm.trans ht)
    subst hxx
    refine load_blk0 hB2 rfl ?_
    refine wif_eqf (show ¬ (2 : Int) = 1 by decide) ?_
    refine wif_eqt rfl ?_
    refine load_blk hB2 rfl ?_
    refine norm (m := ((q : Nat) : Int)) (IntWalk.u64_in _ (by show 0 ≤ ((q : Nat) : Int) ∧ ((q : Nat) : Int) ≤ 18446744073709551615; omega)) ?_
    refine norm_shr q (2 ^ q) (show (0 : Int) ≤ ((q : Nat) : Int) by omega) (by show min ((q : Nat) : Int).toNat 64 = _; omega) rfl ?_
    have hlt : cfg / 2 ^ q < 18446744073709551616 := Nat.lt_of_le_of_lt (Nat.div_le_self _ _) (by omega)
    refine norm (m := ((cfg / 2 ^ q % 2 : Nat) : Int)) (and_one _ hlt) ?_
    refine ⟨?_, hE2⟩
    show Value.bool _ = .bool (decide (cfg / 2 ^ q % 2 = 1))
    congr 1
    rcases (show cfg / 2 ^ q % 2 = 0 ∨ cfg / 2 ^ q % 2 = 1 by omega) with h | h <;> rw [h] <;> rfl
  | not a ih =>
    intro i w hE ht hv
    have hi := RepF.lt ht
    obtain ⟨j, hj, hxj, hra⟩ := ht
    refine fn_of_exec (c := { c59 with cuts := [] }) gx_ok Tryd.func59 rfl rfl rfl ?_
    refine index_sls fz_len (h.ext hE) rfl (by omega) (fun p x hx hc => ?_)
    refine loadN_at (vs := x.cells) rfl hc ?_
    refine new (fun w1 hE1 hz1 hB1 => ?_)
    refine storeN_blk0 hB1 rfl (sc rfl) (fun w2 hg2 hz2 hB2 => ?_)
    have hE2 : Ext w w2 := newBox hE1 hB1 hg2
    have hxx : x = ⟨3, 0, (j : Nat), 0⟩ := Option.some.inj (hx.symm.trans hxj)
    subst hxx
    refine load_blk0 hB2 rfl ?_
    refine wif_eqf (show ¬ (3 : Int) = 1 by decide) ?_
    refine wif_eqf (show ¬ (3 : Int) = 2 by decide) ?_
    refine wif_eqt rfl ?_
    refine load_blk hB2 rfl ?_
    refine call (ih j w2 (hE.trans hE2) hra hv) ?_
    rintro _ w3 ⟨rfl, hE3⟩
    exact ⟨rfl, hE2.trans hE3⟩
  | and a b iha ihb =>
    intro i w hE ht hv
    have hi := RepF.lt ht
    obtain ⟨j, l, hj, hl, hxj, hra, hrb⟩ := ht
    refine fn_of_exec (c := { c59 with cuts := [] }) gx_ok Tryd.func59 rfl rfl rfl ?_
    refine index_sls fz_len (h.ext hE) rfl (by omega) (fun p x hx hc => ?_)
    refine loadN_at (vs := x.cells) rfl hc ?_
    refine new (fun w1 hE1 hz1 hB1 => ?_)
    refine storeN_blk0 hB1 rfl (sc rfl) (fun w2 hg2 hz2 hB2 => ?_)
    have hE2 : Ext w w2 := newBox hE1 hB1 hg2
    have hxx : x = ⟨4, 0, (j : Nat), (l : Nat)⟩ := Option.some.inj (hx.symm.trans hxj)
    subst hxx
    refine load_blk0 hB2 rfl ?_
    refine wif_eqf (show ¬ (4 : Int) = 1 by decide) ?_
    refine wif_eqf (show ¬ (4 : Int) = 2 by decide) ?_
    refine wif_eqf (show ¬ (4 : Int) = 3 by decide) ?_
    refine wif_eqt rfl ?_
    refine load_blk hB2 rfl ?_
    refine call (iha j w2 (hE.trans hE2) hra hv.1) ?_
    rintro _ w3 ⟨rfl, hE3⟩
    have hE03 := hE2.trans hE3
    cases hea : evF a (bitE cfg) with
    | true =>
      refine wif_t rfl ?_
      refine load_blk (hB2.ext hE3) rfl ?_
      refine call (ihb l w3 (hE.trans hE03) hrb hv.2) ?_
      rintro _ w4 ⟨rfl, hE4⟩
      exact ⟨by simp [evF, hea], hE03.trans hE4⟩
    | false =>
      refine wif_f rfl ?_
      exact ⟨by simp [evF, hea], hE03⟩
  | or a b iha ihb =>
    intro i w hE ht hv
    have hi := RepF.lt ht
    obtain ⟨j, l, hj, hl, hxj, hra, hrb⟩ := ht
    refine fn_of_exec (c := { c59 with cuts := [] }) gx_ok Tryd.func59 rfl rfl rfl ?_
    refine index_sls fz_len (h.ext hE) rfl (by omega) (fun p x hx hc => ?_)
    refine loadN_at (vs := x.cells) rfl hc ?_
    refine new (fun w1 hE1 hz1 hB1 => ?_)
    refine storeN_blk0 hB1 rfl (sc rfl) (fun w2 hg2 hz2 hB2 => ?_)
    have hE2 : Ext w w2 := newBox hE1 hB1 hg2
    have hxx : x = ⟨5, 0, (j : Nat), (l : Nat)⟩ := Option.some.inj (hx.symm.trans hxj)
    subst hxx
    refine load_blk0 hB2 rfl ?_
    refine wif_eqf (show ¬ (5 : Int) = 1 by decide) ?_
    refine wif_eqf (show ¬ (5 : Int) = 2 by decide) ?_
    refine wif_eqf (show ¬ (5 : Int) = 3 by decide) ?_
    refine wif_eqf (show ¬ (5 : Int) = 4 by decide) ?_
    refine wif_eqt rfl ?_
    refine load_blk hB2 rfl ?_
    refine call (iha j w2 (hE.trans hE2) hra hv.1) ?_
    rintro _ w3 ⟨rfl, hE3⟩
    have hE03 := hE2.trans hE3
    cases hea : evF a (bitE cfg) with
    | true =>
      refine wif_t rfl ?_
      exact ⟨by simp [evF, hea], hE03⟩
    | false =>
      refine wif_f rfl ?_
      refine load_blk (hB2.ext hE3) rfl ?_
      refine call (ihb l w3 (hE.trans hE03) hrb hv.2) ?_
      rintro _ w4 ⟨rfl, hE4⟩
      exact ⟨by simp [evF, hea], hE03.trans hE4⟩

theorem FV.vars64 {f : List Fz} (h : FV f) : varsOk 64 f := fun x hx ho => by
  obtain ⟨i, hi, e⟩ := List.mem_iff_getElem.1 hx
  have := (h.2.2.1 i x (by rw [← e]; exact List.getElem?_eq_getElem hi)).2.1
  rw [if_pos ho] at this
  exact this.2
theorem rholds_fn (F : Option Addr) (n cF : Nat) (f : List Fz) (cfg : Nat) (hcf : cfg ≤ 18446744073709551615) (w : World) (h : SF w F n cF f) :
    Fn Tryd.prog 28 [.slice F n cF, .int .u64 cfg] w (fun v w' => v = .bool (holdsP f cfg) ∧ Ext w w') := by
  have hn := h.2
  refine fn_of_exec (c := { c28 with cuts := [] }) gx_ok Tryd.func28 rfl rfl rfl ?_
  refine call (rcheck_fn F n cF f w h) ?_
  rintro _ w2 ⟨rfl, hE2⟩
  by_cases hv : FV f
  · have hv0 := hv.2.1
    have hvl := hv.1
    refine wif_eqt (chkF_ok hv) ?_
    refine norm_i64_to ((n - 1 : Nat) : Int) (by omega) (by omega) ?_
    refine call (value_fn w2 F n cF f cfg hcf (h.ext hE2) (treeOf f) (n - 1) w2 (Ext.refl _) (by rw [← hn]; exact treeOf_rep hv) (varsIn_of hv.vars64 (treeOf_rep hv))) ?_
    rintro _ w3 ⟨rfl, hE3⟩
    exact ⟨by rw [show holdsP f cfg = evF (treeOf f) (bitE cfg) from if_pos hv], hE2.trans hE3⟩
  · refine wif_eqf (by rw [chkF_no hv]; decide) ?_
    exact ⟨by unfold holdsP; rw [if_neg hv], hE2⟩
end Go.Proofs.YtdbhjlpkopnebaaDoor
