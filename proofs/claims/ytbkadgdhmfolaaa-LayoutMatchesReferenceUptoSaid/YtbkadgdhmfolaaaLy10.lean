/-
  layout: Best, Choices; equal choices.
  Conditions: none.
-/
import Derived.Test.YtbkadgdhmfolaaaLq4
namespace Go.Proofs.Ytbkadgdhmfolaaa
open Go Go.RowKit

theorem Choices_fn (A : Option Addr) (n c : Nat) (d : List Nd) (width : Int) (w : World) (h : SD w A n c d) (hwt : Valid d → wtT (T d (d.length - 1)) ≤ 1000000000000) :
    Fn Try.prog 16 [.slice A n c, .int .i64 width] w (ChoRes d width w) := by
  refine fn_of_exec (c := c16) gx_ok Try.func16 rfl rfl rfl ?_
  refine call (choices_fn A n c d width w h hwt) ?_
  rintro v w1 ⟨hE1, hv⟩
  split at hv
  · subst hv
    exact ⟨hE1, by rw [if_pos (by assumption)]⟩
  · rename_i h0
    split at hv
    · subst hv
      exact ⟨hE1, by rw [if_neg h0, if_pos (by assumption)]⟩
    · rename_i h1
      obtain ⟨A', c', l, rfl, h3, h4⟩ := hv
      exact ⟨hE1, by rw [if_neg h0, if_neg h1]; exact ⟨A', c', l, rfl, h3, h4⟩⟩

/-- What Best returns. -/
def BestR (d : List Nd) (width : Int) (w : World) (v : Value) (w' : World) : Prop := Ext w w' ∧
  if chk d ≠ 0 then v = .tuple #[.string ⟨#[]⟩, .agg #[.int .i64 0, .int .i64 0], .int .i64 (chk d)] else if width < 0 ∨ 1000 < width then v = .tuple #[.string ⟨#[]⟩, .agg #[.int .i64 0, .int .i64 0], .int .i64 1] else
    ∃ l, Least width.toNat (T d (d.length - 1)) l ∧ v = .tuple #[.string (strOf (txtN (T d (d.length - 1)) l)), .agg #[.int .i64 (runT width.toNat (T d (d.length - 1)) l 0 (0, false)).2.1, .int .i64 (runT width.toNat (T d (d.length - 1)) l 0 (0, false)).2.2], .int .i64 0]

theorem Best_fn (A : Option Addr) (n c : Nat) (d : List Nd) (width : Int) (w : World) (h : SD w A n c d) (ht : TxtOk d) :
    Fn Try.prog 14 [.slice A n c, .int .i64 width] w (BestR d width w) := by
  refine fn_of_exec (c := c14) gx_ok Try.func14 rfl rfl rfl ?_
  refine new (fun w0 hE0 hz0 hB0 => ?_)
  refine call (choices_fn A n c d width w0 (h.ext hE0) (wtT_lim ht)) ?_
  rintro v w1 ⟨hE1, hv⟩
  have hE01 := hE0.trans hE1
  have hB1 := hB0.ext hE1
  split at hv
  · rename_i h0
    subst hv
    refine wif_net (by simpa using h0) ?_
    refine storeN_blk0 hB1 rfl (sc rfl) (fun w2 hg2 _ hB2 => ?_)
    refine loadN_blk0 hB2 rfl ?_
    exact ⟨hE01.own hg2 (Nat.le_refl _), by rw [if_pos h0]; rfl⟩
  · rename_i h0
    split at hv
    · rename_i h1
      subst hv
      refine wif_net (by decide) ?_
      refine storeN_blk0 hB1 rfl (sc rfl) (fun w2 hg2 _ hB2 => ?_)
      refine loadN_blk0 hB2 rfl ?_
      exact ⟨hE01.own hg2 (Nat.le_refl _), by rw [if_neg h0, if_pos h1]; rfl⟩
    · rename_i h1
      obtain ⟨A', c', l, rfl, h3, h4⟩ := hv
      refine wif_nef rfl ?_
      refine call (render_fn A A' n c l.length c' d l w1 (h.ext hE01) h3 ht) ?_
      have hvd := chk_zero.1 (show chk d = 0 by simpa using h0)
      rw [rnd_T hvd, rndT_nrm h4.1]
      have hlim := rnd_lim hvd ht l
      rw [rnd_T hvd, rndT_nrm h4.1] at hlim
      dsimp only at hlim
      rintro v w2 ⟨rfl, hE2⟩
      refine wif_nef rfl ?_
      refine call (cost_fn (strOf (txtN (T d (d.length - 1)) l)) width w2 (by rw [strOf_size]; omega) (by omega)) ?_
      rintro v w3 ⟨rfl, hE3⟩
      rw [bytesOf_strOf hlim.2, cost_nrm _ (noT_T hvd.ok _) h4.1]
      refine storeN_blk0 (hB1.ext (hE2.trans hE3)) rfl (sc rfl) (fun w4 hg4 _ hB4 => ?_)
      refine loadN_blk0 hB4 rfl ?_
      exact ⟨(hE01.trans (hE2.trans hE3)).own hg4 (Nat.le_refl _), by rw [if_neg h0, if_neg h1]; exact ⟨l, h4, rfl⟩⟩

theorem sameb_fn (A B : Option Addr) (n c m c2 : Nat) (x y : List Bool) (w : World) (h1 : Sl w 1 A n c (boolsV x)) (h2 : Sl w 1 B m c2 (boolsV y)) :
    Fn Try.prog 18 [.slice A n c, .slice B m c2] w (fun v w' => v = .bool (decide (x = y)) ∧ Ext w w') := by
  have hx : x.length = n := by have := h1.len; rw [boolsV_length] at this; omega
  have hy : y.length = m := by have := h2.len; rw [boolsV_length] at this; omega
  have hcap := h1.cap
  have hle := h1.le
  unfold maxLen at hcap
  refine fn_of_exec (c := c18) gx_ok Try.func18 rfl rfl rfl ?_
  refine wif_ne (fun h3 => ?_) (fun h3 => ?_)
  · refine ⟨?_, Ext.refl _⟩
    rw [decide_eq_false (fun e => h3 (by subst e; omega))]
  have hnm : n = m := by omega
  subst hnm
  refine loop gx_ok [5] (fun i : Nat => [.int .i64 i]) (fun i w' => i ≤ n ∧ Ext w w' ∧ x.take i = y.take i) (fun i _ => n - i) 0 rfl ⟨Nat.zero_le _, Ext.refl _, by simp⟩ ?_
  rintro i w1 ⟨hi, hE1, heq⟩
  refine wif_d (fun h4 => ?_) (fun h4 => ?_)
  · have hxi : x[i]? = some x[i] := List.getElem?_eq_getElem (by omega)
    have hyi : y[i]? = some y[i] := List.getElem?_eq_getElem (by omega)
    generalize x[i] = a at hxi
    generalize y[i] = b at hyi
    refine draw gx_ok (by kernel_rfl) ?_
    refine index_sl (h1.ext hE1) (by omega) (fun ad u hA hu hcell => ?_)
    rw [boolsV_get hxi] at hu
    cases hu
    refine qload (fun w' hw' => hw'.cell hcell) ?_
    refine index_sl (h2.ext hE1) (by omega) (fun ad u hA hu hcell => ?_)
    rw [boolsV_get hyi] at hu
    cases hu
    refine qload (fun w' hw' => hw'.cell hcell) ?_
    intro w2 hE2
    refine wif (fun h5 => ?_) (fun h5 => ?_)
    · refine ⟨?_, hE1.trans hE2⟩
      rw [decide_eq_false]
      intro e
      subst e
      have hab : a = b := Option.some.inj (hxi.symm.trans hyi)
      subst hab
      simp at h5
    · have hab : a = b := by simpa using h5
      subst hab
      refine norm_i64_to ((i + 1 : Nat) : Int) (by omega) (by omega) ?_
      exact ⟨i + 1, rfl, ⟨by omega, hE1.trans hE2, by rw [List.take_add_one, List.take_add_one, hxi, hyi, heq]⟩, by show n - (i + 1) < n - i; omega⟩
  · have : i = n := by omega
    subst this
    refine ⟨?_, hE1⟩
    rw [List.take_of_length_le (by omega), List.take_of_length_le (by omega)] at heq
    rw [decide_eq_true heq]
end Go.Proofs.Ytbkadgdhmfolaaa
