/-
  Words that fill lines.
  Conditions: none.
-/
import Derived.Test.YtbkadgdhmfolaaaLh3
namespace Go.Proofs.Ytbkadgdhmfolaaa
open Go Go.RowKit

/-- The document of words of these lengths; the last word first. -/
def fillR : List Nat → Dt
  | [] => .text []
  | [n] => .seq (.text []) (.text (List.replicate n 119))
  | n :: m :: ns => .seq (.seq (fillR (m :: ns)) gapT) (.text (List.replicate n 119))
/-- Lines and column of a text that is written word by word. -/
def grd (W : Nat) : List Nat → Nat × Nat
  | [] => (0, 0)
  | [n] => (0, n)
  | n :: m :: ns => if (grd W (m :: ns)).2 + 1 + n ≤ W then ((grd W (m :: ns)).1, (grd W (m :: ns)).2 + 1 + n) else ((grd W (m :: ns)).1 + 1, n)

theorem nrm_gap : nrm gapT = [[true], [false]] := rfl
theorem nrm_step (n m : Nat) (ns : List Nat) (l : List Bool) : l ∈ nrm (fillR (n :: m :: ns)) ↔ ∃ x ∈ nrm (fillR (m :: ns)), ∃ g, l = x ++ [g] := by
  simp only [fillR, nrm, nrm_gap, List.mem_flatMap, List.mem_map, List.mem_cons, List.not_mem_nil, or_false]
  constructor
  · rintro ⟨z, ⟨x, hx, y, rfl | rfl, rfl⟩, e, rfl, rfl⟩
    · exact ⟨x, hx, true, by simp⟩
    · exact ⟨x, hx, false, by simp⟩
  · rintro ⟨x, hx, g, rfl⟩
    refine ⟨x ++ [g], ⟨x, hx, [g], ?_, rfl⟩, [], rfl, by simp⟩
    cases g <;> simp
theorem run_step (W n m : Nat) (ns : List Nat) {x : List Bool} (hx : x ∈ nrm (fillR (m :: ns))) (g : Bool) :
    runT W (fillR (n :: m :: ns)) (x ++ [g]) 0 (0, false) =
      ((plW W (runT W gapT [g] 0 (runT W (fillR (m :: ns)) x 0 (0, false)).1).1 n).1, (runT W (fillR (m :: ns)) x 0 (0, false)).2.1 + (runT W gapT [g] 0 (runT W (fillR (m :: ns)) x 0 (0, false)).1).2.1 + (plW W (runT W gapT [g] 0 (runT W (fillR (m :: ns)) x 0 (0, false)).1).1 n).2, (runT W (fillR (m :: ns)) x 0 (0, false)).2.2 + (runT W gapT [g] 0 (runT W (fillR (m :: ns)) x 0 (0, false)).1).2.2) := by
  have hl := nrm_len _ x hx
  have hg : ng gapT = 1 := rfl
  simp only [fillR]
  conv => lhs; simp only [runT, ng]
  have h1 : (x ++ [g]).take (ng (fillR (m :: ns)) + ng gapT) = x ++ [g] := List.take_of_length_le (by simp [hg, hl])
  simp only [hg] at h1 ⊢
  rw [h1, ← hl, List.take_left, List.drop_left, List.length_replicate]
  simp only [Nat.add_zero]
theorem run_gap (W : Nat) (q : Pl) : runT W gapT [true] 0 q = ((plW W q 1).1, (plW W q 1).2, 0) ∧ runT W gapT [false] 0 q = ((0, false), 0, 1) := ⟨rfl, rfl⟩
theorem plW_pos (W c n : Nat) (b : Bool) (h : 1 ≤ n) : plW W (c, b) n = ((c + n, true), (c + n - W) - ((if b then c else 0) - W)) := by
  unfold plW
  rw [if_neg (by omega)]

theorem fill_ok (W : Nat) (hW : 9 ≤ W) : ∀ (ns : List Nat), (∀ n ∈ ns, 1 ≤ n ∧ n ≤ 9) → ns ≠ [] →
    (∃ l ∈ nrm (fillR ns), runT W (fillR ns) l 0 (0, false) = (((grd W ns).2, true), 0, (grd W ns).1)) ∧ (grd W ns).2 ≤ W ∧
    ∀ l ∈ nrm (fillR ns), (runT W (fillR ns) l 0 (0, false)).2.1 = 0 → (runT W (fillR ns) l 0 (0, false)).1.1 ≤ W ∧ (runT W (fillR ns) l 0 (0, false)).1.2 = true ∧
      ((grd W ns).1 < (runT W (fillR ns) l 0 (0, false)).2.2 ∨ ((grd W ns).1 = (runT W (fillR ns) l 0 (0, false)).2.2 ∧ (grd W ns).2 ≤ (runT W (fillR ns) l 0 (0, false)).1.1))
  | [], _, h => absurd rfl h
  | [n], hn, _ => by
    have h1 := hn n (by simp)
    have hr : ∀ l, runT W (fillR [n]) l 0 (0, false) = ((n, true), 0, 0) := fun l => by
      simp only [fillR, runT, List.length_nil, List.length_replicate]
      rw [show plW W (0, false) 0 = ((0, false), 0) from rfl, plW_pos W 0 n false h1.1]
      simp only [Nat.zero_add, Bool.false_eq_true, if_false]
      rw [show n - W - (0 - W) = 0 by omega]
    refine ⟨⟨[], by simp [fillR, nrm], hr []⟩, by simp only [grd]; omega, fun l _ _ => ?_⟩
    rw [hr l]
    refine ⟨by dsimp only; omega, rfl, .inr ⟨rfl, Nat.le_refl _⟩⟩
  | n :: m :: ns, hn, _ => by
    have h1 := hn n (by simp)
    obtain ⟨⟨l0, hl0, hr0⟩, hc0, hall⟩ := fill_ok W hW (m :: ns) (fun k hk => hn k (by simp [hk])) (by simp)
    have hgt : ∀ q : Pl, q.2 = true → runT W gapT [true] 0 q = ((q.1 + 1, true), (q.1 + 1 - W) - (q.1 - W), 0) := fun q hq => by
      rw [(run_gap W q).1]
      obtain ⟨c, b⟩ := q
      simp only at hq
      subst hq
      rw [plW_pos W c 1 true (by omega)]
      rfl
    refine ⟨?_, ?_, ?_⟩
    · by_cases hfit : (grd W (m :: ns)).2 + 1 + n ≤ W
      · refine ⟨l0 ++ [true], (nrm_step n m ns _).2 ⟨l0, hl0, true, rfl⟩, ?_⟩
        rw [run_step W n m ns hl0, hr0]
        simp only [grd]
        rw [if_pos hfit, hgt _ rfl, plW_pos W _ n true h1.1]
        simp only [if_true]
        rw [show (grd W (m :: ns)).2 + 1 - W - ((grd W (m :: ns)).2 - W) = 0 by omega, show (grd W (m :: ns)).2 + 1 + n - W - ((grd W (m :: ns)).2 + 1 - W) = 0 by omega]
        simp only [Nat.add_zero]
      · refine ⟨l0 ++ [false], (nrm_step n m ns _).2 ⟨l0, hl0, false, rfl⟩, ?_⟩
        rw [run_step W n m ns hl0, hr0]
        simp only [grd]
        rw [if_neg hfit, (run_gap W _).2, plW_pos W 0 n false h1.1]
        simp only [Nat.zero_add, Bool.false_eq_true, if_false]
        rw [show n - W - (0 - W) = 0 by omega]
    · simp only [grd]
      split
      · assumption
      · dsimp only; omega
    · intro l hl hb
      obtain ⟨x, hx, g, rfl⟩ := (nrm_step n m ns l).1 hl
      rw [run_step W n m ns hx] at hb ⊢
      dsimp only at hb ⊢
      have hb0 : (runT W (fillR (m :: ns)) x 0 (0, false)).2.1 = 0 := by omega
      obtain ⟨hq1, hq2, hcmp⟩ := hall x hx hb0
      rw [hb0] at hb
      generalize runT W (fillR (m :: ns)) x 0 (0, false) = r at *
      cases g with
      | true =>
        rw [hgt _ hq2] at hb ⊢
        rw [plW_pos W _ n true h1.1] at hb ⊢
        simp only [if_true] at hb ⊢
        simp only [grd]
        split
        · dsimp only
          refine ⟨by omega, trivial, ?_⟩
          omega
        · dsimp only
          refine ⟨by omega, trivial, ?_⟩
          omega
      | false =>
        rw [(run_gap W _).2] at hb ⊢
        rw [plW_pos W 0 n false h1.1] at hb ⊢
        simp only [Nat.zero_add] at hb ⊢
        simp only [grd]
        split
        · dsimp only
          refine ⟨by omega, trivial, ?_⟩
          omega
        · dsimp only
          refine ⟨by omega, trivial, ?_⟩
          omega
theorem fill_least {W : Nat} (hW : 9 ≤ W) (ns : List Nat) (hn : ∀ n ∈ ns, 1 ≤ n ∧ n ≤ 9) {l : List Bool} (h : Least W (fillR ns) l) : (runT W (fillR ns) l 0 (0, false)).2 = (0, (grd W ns).1) := by
  by_cases h0 : ns = []
  · subst h0
    rfl
  · obtain ⟨⟨l0, hl0, hr0⟩, _, hall⟩ := fill_ok W hW ns hn h0
    have h1 := (leR_iff _ _).1 (h.2 l0 hl0)
    simp only [resR, hr0] at h1
    have hb : (runT W (fillR ns) l 0 (0, false)).2.1 = 0 := by omega
    have h2 := hall l h.1 hb
    exact Prod.ext hb (by dsimp only; omega)
end Go.Proofs.Ytbkadgdhmfolaaa
