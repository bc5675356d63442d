/-
  Expressions with other blanks between their tokens.
  Conditions: none.
-/
import Derived.Test.YtdbhjlpkopnebaaDoorW2
namespace Go.Proofs.YtdbhjlpkopnebaaDoor
open Go Go.RowKit

def blankL (x : Nat) : List Nat := if x % 4 = 0 then [] else if x % 4 = 1 then [32] else if x % 4 = 2 then [9] else [32, 32, 9, 32]
/-- The k-th blank. -/
def blank (bl : List Nat) (k : Nat) : List Nat := match bl[k]? with
  | some x => blankL x
  | none => []
def isSp (b : Nat) : Bool := b == 32 || b == 40 || b == 41 || b == 33
def spB (bl : List Nat) : Nat → List Nat → List Nat
  | _, [] => []
  | k, b :: s => if isSp b then (if b = 32 then blank bl k else blank bl k ++ [b] ++ blank bl k) ++ spB bl (k + 1) s else b :: spB bl k s
def spc (s : List Nat) : Nat := s.countP isSp
theorem spB_app (bl : List Nat) : ∀ (s t : List Nat) (k : Nat), spB bl k (s ++ t) = spB bl k s ++ spB bl (k + spc s) t
  | [], t, k => rfl
  | b :: s, t, k => by
    rw [List.cons_append, spB, spB]
    by_cases h : isSp b = true
    · rw [if_pos h, if_pos h, spB_app bl s t (k + 1), show spc (b :: s) = spc s + 1 from by unfold spc; rw [List.countP_cons_of_pos h]]
      rw [show k + 1 + spc s = k + (spc s + 1) by omega]
      simp only [List.append_assoc]
    · rw [if_neg h, if_neg h, spB_app bl s t k, show spc (b :: s) = spc s from by unfold spc; rw [List.countP_cons_of_neg h]]
      rfl
theorem spB_no {bl : List Nat} : ∀ {s : List Nat} {k : Nat}, (∀ x ∈ s, isSp x = false) → spB bl k s = s
  | [], _, _ => rfl
  | b :: s, k, h => by
    rw [spB, if_neg (by rw [h b (by simp)]; decide), spB_no (fun x hx => h x (by simp [hx]))]
/-- Blanks only. -/
def BlankS (l : List Nat) : Prop := ∀ x ∈ l, x = 32 ∨ x = 9
theorem blank_s (bl : List Nat) (k : Nat) : BlankS (blank bl k) := by
  unfold blank
  split
  · unfold blankL
    intro x hx
    split at hx
    · cases hx
    · split at hx
      · simp at hx; exact .inl hx
      · split at hx
        · simp at hx; exact .inr hx
        · simp at hx; omega
  · intro x hx; cases hx
theorem lex_blank {l : List Nat} (h : BlankS l) (r : List Nat) : lexA (l ++ r) = lexA r := by
  induction l with
  | nil => rfl
  | cons b l ih => rw [List.cons_append, lexA_sp (h b (by simp)), ih (fun x hx => h x (by simp [hx]))]
theorem stop_blank {l : List Nat} (h : BlankS l) {r : List Nat} (hr : Stop r) : Stop (l ++ r) := by
  cases l with
  | nil => exact hr
  | cons b l =>
    refine Stop.cons ?_
    rcases h b (by simp) with rfl | rfl <;> decide
theorem Stop.app {b : Nat} {l r : List Nat} (h : isId b = false) : Stop ((b :: l) ++ r) := fun _ _ e => by cases e; exact h
theorem id_no {s : List Nat} (h : ∀ x ∈ s, isId x = true) : ∀ x ∈ s, isSp x = false := fun x hx => by
  rw [← Bool.not_eq_true]
  intro e
  unfold isSp at e
  simp at e
  have := h x hx
  rcases e with ((rfl | rfl) | rfl) | rfl <;> exact absurd this (by decide)
theorem sp_word {w : List Nat} (h : WordB w) (bl : List Nat) (k : Nat) : LexS (spB bl k w) [w] := by
  rw [spB_no (id_no h.2)]; exact LexS.word h
theorem sp_par {s : List Nat} {ts : List (List Nat)} (h : ∀ bl k, LexS (spB bl k s) ts) (b : Bool) (bl : List Nat) (k : Nat) : LexS (spB bl k (parF b s)) (parK b ts) := by
  cases b with
  | false => exact h bl k
  | true =>
    intro rest hs
    have e : spB bl k (parF true s) = (blank bl k ++ [40] ++ blank bl k) ++ (spB bl (k + 1) s ++ (blank bl (k + 1 + spc s) ++ [41] ++ blank bl (k + 1 + spc s))) := by
      show spB bl k (40 :: (s ++ [41])) = _
      rw [spB, if_pos (by decide), if_neg (by decide), spB_app]
      congr 2
      rw [spB, if_pos (by decide), if_neg (by decide)]
      simp [spB]
    rw [e]
    simp only [List.append_assoc]
    rw [lex_blank (blank_s bl k), List.singleton_append, lexA_one (by omega), lex_blank (blank_s bl k)]
    rw [h bl (k + 1) _ (stop_blank (blank_s bl _) (Stop.app (b := 41) (l := []) (by decide))), lex_blank (blank_s bl _), List.singleton_append, lexA_one (by omega), lex_blank (blank_s bl _)]
    simp [parK]
theorem sp_print {nm : List (List Nat)} {ix : List Nat → Option Nat} (hn : NmOk nm ix) : ∀ (t : Fm), VarsIn nm.length t → ∀ bl k, LexS (spB bl k (prC nm t)) (tkC nm t)
  | .c b, _, bl, k => by
    cases b with
    | true => exact sp_word true_word bl k
    | false => exact sp_word false_word bl k
  | .v n, h, bl, k => sp_word (nameOk_word (hn.word n h)).1 bl k
  | .not a, h, bl, k => by
    have ih := sp_par (sp_print hn a h) (decide (lvlF a < 2)) bl (k + 1)
    intro rest hs
    have e : spB bl k (prC nm (.not a)) = (blank bl k ++ [33] ++ blank bl k) ++ spB bl (k + 1) (parF (decide (lvlF a < 2)) (prC nm a)) := by
      show spB bl k (33 :: parF _ _) = _
      rw [spB, if_pos (by decide), if_neg (by decide)]
    rw [e]
    simp only [List.append_assoc]
    rw [lex_blank (blank_s bl k), List.singleton_append, lexA_one (by omega), lex_blank (blank_s bl k), ih rest hs]
    rfl
  | .and a b, h, bl, k => by
    have iha := sp_par (sp_print hn a h.1) (decide (lvlF a < 1))
    have ihb := sp_par (sp_print hn b h.2) (decide (lvlF b < 2))
    intro rest hs
    have e : ∀ (P Q : List Nat), spB bl k (P ++ [32, 38, 38, 32] ++ Q) = spB bl k P ++ (blank bl (k + spc P) ++ ([38, 38] ++ (blank bl (k + spc P + 1) ++ spB bl (k + spc P + 2) Q))) := fun P Q => by
      rw [List.append_assoc, spB_app]
      refine congrArg _ ?_
      show spB bl _ (32 :: 38 :: 38 :: 32 :: Q) = _
      rw [spB, if_pos (by decide), if_pos rfl, spB, if_neg (by decide), spB, if_neg (by decide), spB, if_pos (by decide), if_pos rfl]; rfl
    rw [show prC nm (.and a b) = parF (decide (lvlF a < 1)) (prC nm a) ++ [32, 38, 38, 32] ++ parF (decide (lvlF b < 2)) (prC nm b) from rfl, e]
    simp only [List.append_assoc]
    rw [iha bl k _ (stop_blank (blank_s bl _) (Stop.app (b := 38) (l := [38]) (by decide))), lex_blank (blank_s bl _)]
    show (_, _) = _
    rw [show ∀ l : List Nat, [38, 38] ++ l = 38 :: 38 :: l from fun _ => rfl, lexA_two (by omega), lex_blank (blank_s bl _), ihb bl _ rest hs]
    simp [tkC]
  | .or a b, h, bl, k => by
    have iha := sp_print hn a h.1
    have ihb := sp_par (sp_print hn b h.2) (decide (lvlF b < 1))
    intro rest hs
    have e : ∀ (P Q : List Nat), spB bl k (P ++ [32, 124, 124, 32] ++ Q) = spB bl k P ++ (blank bl (k + spc P) ++ ([124, 124] ++ (blank bl (k + spc P + 1) ++ spB bl (k + spc P + 2) Q))) := fun P Q => by
      rw [List.append_assoc, spB_app]
      refine congrArg _ ?_
      show spB bl _ (32 :: 124 :: 124 :: 32 :: Q) = _
      rw [spB, if_pos (by decide), if_pos rfl, spB, if_neg (by decide), spB, if_neg (by decide), spB, if_pos (by decide), if_pos rfl]; rfl
    rw [show prC nm (.or a b) = parF (decide (lvlF a < 0)) (prC nm a) ++ [32, 124, 124, 32] ++ parF (decide (lvlF b < 1)) (prC nm b) from rfl, e]
    rw [show decide (lvlF a < 0) = false from decide_eq_false (by omega)]
    simp only [List.append_assoc]
    show lexA (spB bl k (prC nm a) ++ _) = _
    rw [iha bl k _ (stop_blank (blank_s bl _) (Stop.app (b := 124) (l := [124]) (by decide))), lex_blank (blank_s bl _)]
    show (_, _) = _
    rw [show ∀ l : List Nat, [124, 124] ++ l = 124 :: 124 :: l from fun _ => rfl, lexA_two (by omega), lex_blank (blank_s bl _), ihb bl _ rest hs]
    simp [tkC]
/-- An expression with these tokens is parsed to this formula. -/
theorem parse_lex {nm : List (List Nat)} (hn : numsOk nm = true) (hi : NmOk nm (ixN nm)) {t : Fm} (hv : VarsIn nm.length t) (hs : szF t ≤ 512) {x : List Nat} (hl : lexA x = (tkC nm t, true)) : parseP nm x = (postF t 0, 0) := by
  rw [parse_tok]
  unfold parseK
  have hle : (tkC nm t).length ≤ x.length + 1 := by
    have := tok_le x.length x
    have e : lexF x.length x = (tkC nm t, true) := hl
    rw [e] at this
    exact Nat.le_succ_of_le this
  rw [if_pos hn, hl]
  simp only
  rw [if_pos trivial, whole_print hi t hv hle]
  simp only
  rw [if_neg (c := ([] : List (List Nat)) ≠ []) (fun h => h rfl), if_neg (by decide), if_neg (by omega)]
def spacedB (bl s : List Nat) : List Nat := [32] ++ spB bl 0 s ++ [9]
theorem spaced_lex {nm : List (List Nat)} {ix : List Nat → Option Nat} (hn : NmOk nm ix) (t : Fm) (h : VarsIn nm.length t) (bl : List Nat) : lexA (spacedB bl (prF nm 0 t)) = (tkC nm t, true) := by
  unfold spacedB prF
  rw [show decide (lvlF t < 0) = false from decide_eq_false (by omega), List.append_assoc, List.singleton_append, lexA_sp (by omega)]
  have := sp_print hn t h bl 0 [9] (Stop.cons (by decide))
  rw [show lexA [9] = ([], true) from rfl, List.append_nil] at this
  exact this
theorem blank_len (bl : List Nat) (k : Nat) : (blank bl k).length ≤ 4 := by
  unfold blank
  split
  · unfold blankL; repeat' split
    all_goals decide
  · exact Nat.zero_le _
theorem spB_len (bl : List Nat) : ∀ (s : List Nat) (k : Nat), (spB bl k s).length ≤ 9 * s.length
  | [], _ => Nat.le_refl _
  | b :: s, k => by
    have i1 := spB_len bl s (k + 1)
    have i2 := spB_len bl s k
    have hb := blank_len bl k
    rw [spB, List.length_cons]
    split
    · rw [List.length_append]
      split
      · omega
      · rw [List.length_append, List.length_append, List.length_singleton]; omega
    · rw [List.length_cons]; omega
end Go.Proofs.YtdbhjlpkopnebaaDoor
