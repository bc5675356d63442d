/-
  The laws' own functions: example, gap, is, less, sanity.
  Conditions: none.
-/
import Derived.Test.YtbkadgdhmfolaaaLy10
namespace Go.Proofs.Ytbkadgdhmfolaaa
open Go Go.RowKit

/-- The answer of Best on a document that is known. -/
def BestV (W : Nat) (t : Dt) (v : Value) (w w' : World) : Prop := Ext w w' ∧ ∃ l, Least W t l ∧ v = .tuple #[.string (strOf (txtN t l)), .agg #[.int .i64 (runT W t l 0 (0, false)).2.1, .int .i64 (runT W t l 0 (0, false)).2.2], .int .i64 0]
theorem best_dr {A : Option Addr} {c : Nat} {d : List Nd} {t : Dt} {k : Nat} {w : World} (W : Nat) (h : Doc w A c d t k) (hW : W ≤ 1000) :
    Fn Try.prog 14 [.slice A d.length c, .int .i64 W] w (fun v w' => BestV W t v w w') := by
  refine Fn.mono (Best_fn A _ c d W w h.sd h.rep.txt) ?_
  rintro v w' ⟨hE, hv⟩
  rw [if_neg (by rw [chk_ok h.rep.valid]; decide), if_neg (by omega), h.rep.tree] at hv
  exact ⟨hE, hv⟩
theorem choices_dr {A : Option Addr} {c : Nat} {d : List Nd} {t : Dt} {k : Nat} {w : World} (W : Nat) (h : Doc w A c d t k) (hW : W ≤ 1000) :
    Fn Try.prog 16 [.slice A d.length c, .int .i64 W] w (fun v w' => Ext w w' ∧ ∃ B c' l, v = .tuple #[.slice B l.length c', .int .i64 0] ∧ Sl w' 1 B l.length c' (boolsV l) ∧ Least W t l) := by
  refine Fn.mono (Choices_fn A _ c d W w h.sd (wtT_lim h.rep.txt)) ?_
  rintro v w' ⟨hE, hv⟩
  rw [if_neg (by rw [chk_ok h.rep.valid]; decide), if_neg (by omega), h.rep.tree] at hv
  exact ⟨hE, hv⟩

def leastB (W : Nat) (t : Dt) (l : List Bool) : Bool := (nrm t).contains l && (nrm t).all fun l' => !lessR (resR W t l' 0 (0, false)) (resR W t l 0 (0, false))
theorem least_of {W : Nat} {t : Dt} {l : List Bool} (h : leastB W t l = true) : Least W t l := by
  unfold leastB at h
  rw [Bool.and_eq_true] at h
  refine ⟨by simpa using h.1, fun l' hl' => ?_⟩
  have := List.all_eq_true.1 h.2 l' hl'
  have h3 : lessR (resR W t l' 0 (0, false)) (resR W t l 0 (0, false)) = false := by simpa using this
  exact h3

def exT : Dt := .group (.seq (.text [102, 40]) (.seq (.nest 2 (.seq (.line []) (.text [97]))) (.seq (.line []) (.text [41]))))
theorem example_dr (w : World) : Fn Try.prog 30 [] w (DocR w exT 20) := by
  refine fn_of_exec (c := c30) gx_ok Try.func30 rfl rfl rfl ?_
  refine at_buildN gx_ok [(⟨1, ⟨#[]⟩, 0, 0, 0⟩ : Nd).cells] rfl rfl rfl rfl rfl ⟨rfl, rfl, ⟨⟩⟩ rfl (fun cs h => by simp only [List.mem_singleton] at h; subst h; rfl) rfl (by decide) (by decide) ?_
  intro w1 hE1 hsz1 hB1
  have hline : Doc w1 (some ⟨w.heap.size, 0, none⟩) 1 (leafD 1 ⟨#[]⟩) (.line []) 1 := ⟨⟨Sl.ownN (n := 1) (sz := 5) hB1 rfl (by simp [maxLen]), rfl⟩, Rep.leaf (.inr (.inl rfl)) (by decide) (by decide) (.inl rfl) rfl, Nat.le_refl _⟩
  refine call (text_dr ⟨#[97]⟩ w1 (by decide) (by decide)) ?_
  rintro v w3 ⟨Aa, ca, da, rfl, hE3, ha⟩
  refine call (seq_dr (hline.ext hE3) ha (by decide)) ?_
  rintro v w4 ⟨A4, c4, d4, rfl, hE4, h4⟩
  refine call (nest_dr 2 h4 (by decide) (by decide)) ?_
  rintro v w5 ⟨A5, c5, d5, rfl, hE5, h5⟩
  refine call (text_dr ⟨#[102, 40]⟩ w5 (by decide) (by decide)) ?_
  rintro v w2 ⟨Af, cf, df, rfl, hE2, hf⟩
  refine call (text_dr ⟨#[41]⟩ w2 (by decide) (by decide)) ?_
  rintro v w6 ⟨A6, c6, d6, rfl, hE6, h6⟩
  refine call (seq_dr (hline.ext (hE3.trans (hE4.trans (hE5.trans (hE2.trans hE6))))) h6 (by decide)) ?_
  rintro v w7 ⟨A7, c7, d7, rfl, hE7, h7⟩
  refine call (seq_dr (h5.ext (hE2.trans (hE6.trans hE7))) h7 (by decide)) ?_
  rintro v w8 ⟨A8, c8, d8, rfl, hE8, h8⟩
  refine call (seq_dr (hf.ext (hE6.trans (hE7.trans hE8))) h8 (by decide)) ?_
  rintro v w9 ⟨A9, c9, d9, rfl, hE9, h9⟩
  refine call (group_dr h9 (by decide)) ?_
  rintro v w10 ⟨A10, c10, d10, rfl, hE10, h10⟩
  exact ⟨_, _, _, rfl, hE1.trans (hE3.trans (hE4.trans (hE5.trans (hE2.trans (hE6.trans (hE7.trans (hE8.trans (hE9.trans hE10)))))))), h10.sd, h10.rep, by have := h10.len; omega⟩

def gapT : Dt := .group (.line [32])
theorem gap_dr (w : World) : Fn Try.prog 29 [] w (DocR w gapT 2) := by
  refine fn_of_exec (c := c29) gx_ok Try.func29 rfl rfl rfl ?_
  refine at_buildN gx_ok [(⟨1, ⟨#[32]⟩, 0, 0, 0⟩ : Nd).cells] rfl rfl rfl rfl rfl ⟨rfl, rfl, ⟨⟩⟩ rfl (fun cs h => by simp only [List.mem_singleton] at h; subst h; rfl) rfl (by decide) (by decide) ?_
  intro w1 hE1 hsz1 hB1
  have hline : Doc w1 (some ⟨w.heap.size, 0, none⟩) 1 (leafD 1 ⟨#[32]⟩) (.line [32]) 1 := ⟨⟨Sl.ownN (n := 1) (sz := 5) hB1 rfl (by simp [maxLen]), rfl⟩, Rep.leaf (.inr (.inl rfl)) (by decide) (by decide) (.inr (.inr rfl)) rfl, Nat.le_refl _⟩
  refine call (group_dr hline (by decide)) ?_
  rintro v w10 ⟨A10, c10, d10, rfl, hE10, h10⟩
  exact ⟨_, _, _, rfl, hE1.trans hE10, h10⟩

theorem is_fn {A : Option Addr} {c : Nat} {d : List Nd} {t : Dt} {k : Nat} {w : World} {W b m : Nat} {s : ByteArray} {l : List Bool} (h : Doc w A c d t k) (hW : W ≤ 1000) (hl : leastB W t l = true) (hs : strOf (txtN t l) = s) (hb : (runT W t l 0 (0, false)).2 = (b, m)) :
    Fn Try.prog 31 [.slice A d.length c, .int .i64 W, .string s, .int .i64 b, .int .i64 m] w (fun v w' => v = .bool true ∧ Ext w w') := by
  refine fn_of_exec (c := c31) gx_ok Try.func31 rfl rfl rfl ?_
  refine call (best_dr W h hW) ?_
  rintro v w1 ⟨hE1, l', hl', rfl⟩
  cases (least_of hl).uniq hl'
  rw [hb, hs]
  refine new (fun w2 hE2 hz2 hB2 => ?_)
  refine storeN_blk0 hB2 rfl (sc rfl) (fun w3 hg3 _ hB3 => ?_)
  have hE3 := newBox hE2 hB2 hg3
  refine wif_t (by simp) ?_
  refine wif_t (by simp) ?_
  refine loadN_blk0 hB3 rfl ?_
  refine ⟨?_, hE1.trans hE3⟩
  simp
end Go.Proofs.Ytbkadgdhmfolaaa
