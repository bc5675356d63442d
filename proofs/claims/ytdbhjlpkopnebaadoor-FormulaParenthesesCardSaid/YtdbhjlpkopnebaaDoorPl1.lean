/-
  Parentheses: how many a printed formula has, and that no expression of the same formula has fewer.
  Conditions: none.
-/
import Derived.Test.YtdbhjlpkopnebaaDoorPo
namespace Go.Proofs.YtdbhjlpkopnebaaDoor
open Go Go.RowKit

/-- The pairs of parentheses of a printed formula, without an outer one. -/
def pcF : Fm → Nat
  | .c _ => 0
  | .v _ => 0
  | .not a => pcF a + (if lvlF a < 2 then 1 else 0)
  | .and a b => pcF a + (if lvlF a < 1 then 1 else 0) + (pcF b + (if lvlF b < 2 then 1 else 0))
  | .or a b => pcF a + (pcF b + (if lvlF b < 1 then 1 else 0))
def lpc (ts : List (List Nat)) : Nat := ts.count [40]
theorem lpc_cons (t : List Nat) (ts : List (List Nat)) : lpc (t :: ts) = lpc ts + if t = [40] then 1 else 0 := by
  unfold lpc; rw [List.count_cons]; simp
theorem lpc_tail (ts : List (List Nat)) : lpc ts.tail ≤ lpc ts := by
  cases ts with
  | nil => exact Nat.le_refl _
  | cons t ts => rw [lpc_cons]; simp
/-- An operand of this level has paid for its parentheses. -/
def Paid (k : Nat) (opt : List (List Nat) → Option (Fm × Bool × List (List Nat))) : Prop := ∀ ts t u rest, opt ts = some (t, u, rest) → pcF t + (if lvlF t < k then 1 else 0) + lpc rest ≤ lpc ts
theorem loop_paid {op : List Nat} {mk : Fm → Fm → Fm} {opt : List (List Nat) → Option (Fm × Bool × List (List Nat))} {k : Nat} (hk : Paid (k + 1) opt) (hl : ∀ a b, lvlF (mk a b) = k) (hp : ∀ a b, pcF (mk a b) = pcF a + (if lvlF a < k then 1 else 0) + (pcF b + (if lvlF b < k + 1 then 1 else 0))) :
    ∀ (m : Nat) (a : Fm) (u : Bool) (ts : List (List Nat)) (t : Fm) (v : Bool) (rest : List (List Nat)) (N : Nat), pcF a + (if lvlF a < k then 1 else 0) + lpc ts ≤ N → loopT op mk opt m a u ts = some (t, v, rest) → pcF t + (if lvlF t < k then 1 else 0) + lpc rest ≤ N
  | 0, a, u, ts, t, v, rest, N, _, h => by cases h
  | m + 1, a, u, ts, t, v, rest, N, hN, h => by
    unfold loopT at h
    split at h
    · cases ho : opt ts.tail with
      | none => rw [ho] at h; cases h
      | some q =>
        obtain ⟨b, w, ts'⟩ := q
        rw [ho] at h
        have h1 := hk _ _ _ _ ho
        have h2 := lpc_tail ts
        refine loop_paid hk hl hp m _ _ _ _ _ _ N ?_ h
        rw [hp, hl, if_neg (Nat.lt_irrefl k)]
        omega
    · cases h; exact hN
theorem chain_paid {op : List Nat} {mk : Fm → Fm → Fm} {opt : List (List Nat) → Option (Fm × Bool × List (List Nat))} {k : Nat} (hk : Paid (k + 1) opt) (hl : ∀ a b, lvlF (mk a b) = k) (hp : ∀ a b, pcF (mk a b) = pcF a + (if lvlF a < k then 1 else 0) + (pcF b + (if lvlF b < k + 1 then 1 else 0))) : Paid k (chainT op mk opt) := fun ts t u rest h => by
  unfold chainT at h
  cases ho : opt ts with
  | none => rw [ho] at h; cases h
  | some q =>
    obtain ⟨b, w, ts'⟩ := q
    rw [ho] at h
    have h1 := hk _ _ _ _ ho
    refine loop_paid hk hl hp _ _ _ _ _ _ _ _ ?_ h
    have : (if lvlF b < k then 1 else 0) ≤ (if lvlF b < k + 1 then 1 else 0) := by
      split
      · rw [if_pos (by omega)]; exact Nat.le_refl _
      · exact Nat.zero_le _
    omega
theorem fac_paid (ix : List Nat → Option Nat) : ∀ n, Paid 2 (facT ix n)
  | 0 => fun ts t u rest h => by cases h
  | n + 1 => fun ts t u rest h => by
    have ih := fac_paid ix n
    have hand : Paid 1 (chainT [38, 38] .and (facT ix n)) := chain_paid ih (fun _ _ => rfl) (fun _ _ => rfl)
    have hor : Paid 0 (chainT [124, 124] .or (chainT [38, 38] .and (facT ix n))) := chain_paid hand (fun _ _ => rfl) (fun a b => by
      show pcF a + _ = _
      rw [if_neg (Nat.not_lt_zero _)]; rfl)
    cases ts with
    | nil => cases h
    | cons x ts =>
      unfold facT at h
      split at h
      · cases ho : facT ix n ts with
        | none => rw [ho] at h; cases h
        | some q =>
          obtain ⟨b, w, ts'⟩ := q
          rw [ho] at h
          have h1 := ih _ _ _ _ ho
          cases h
          rw [lpc_cons]
          rw [if_neg (show ¬ lvlF (Fm.not b) < 2 from Nat.lt_irrefl 2)]
          show pcF b + _ + 0 + _ ≤ _
          omega
      · split at h
        · rename_i hx
          cases ho : chainT [124, 124] .or (chainT [38, 38] .and (facT ix n)) ts with
          | none => rw [ho] at h; cases h
          | some q =>
            obtain ⟨b, w, ts'⟩ := q
            rw [ho] at h
            have h1 := hor _ _ _ _ ho
            rw [if_neg (Nat.not_lt_zero _)] at h1
            simp only at h
            split at h
            · cases h
              have h2 := lpc_tail ts'
              rw [lpc_cons, if_pos hx]
              have : (if lvlF t < 2 then 1 else 0) ≤ 1 := by split <;> omega
              omega
            · cases h
        · split at h
          · cases h
            rw [lpc_cons]
            unfold wordT
            split
            · rw [if_neg (show ¬ lvlF (Fm.c true, false).1 < 2 from Nat.lt_irrefl 2)]
              show 0 + 0 + _ ≤ _; omega
            · split
              · rw [if_neg (show ¬ lvlF (Fm.c false, false).1 < 2 from Nat.lt_irrefl 2)]
                show 0 + 0 + _ ≤ _; omega
              · rw [if_neg (show ¬ lvlF (Fm.v ((ix x).getD 0), (ix x).isNone).1 < 2 from Nat.lt_irrefl 2)]
                show 0 + 0 + _ ≤ _; omega
          · cases h
theorem whole_paid (ix : List Nat → Option Nat) (n : Nat) : Paid 0 (wholeT ix n) :=
  chain_paid (chain_paid (fac_paid ix n) (fun _ _ => rfl) (fun _ _ => rfl)) (fun _ _ => rfl) (fun a b => by
    show pcF a + _ = _
    rw [if_neg (Nat.not_lt_zero _)]; rfl)

/-- Parentheses in bytes and in tokens. -/
theorem count_lex : ∀ (n : Nat) (l : List Nat), l.length ≤ n → (lexF n l).2 = true → l.count 40 = lpc (lexF n l).1
  | n, [], _, _ => by cases n <;> rfl
  | 0, b :: l, h, _ => by simp at h
  | n + 1, b :: l, h, hf => by
    simp only [List.length_cons] at h
    have i1 := count_lex n l (by omega)
    have i2 := count_lex n l.tail (by rw [List.length_tail]; omega)
    have hd := dropWhile_len isId l
    have i3 := count_lex n (l.dropWhile isId) (by omega)
    simp only [lexF] at hf ⊢
    split at hf
    · rename_i hb
      rw [if_pos hb]
      rw [← i1 hf, List.count_cons_of_ne (by omega)]
    · rename_i hb
      rw [if_neg hb]
      split at hf
      · rename_i hb2
        rw [if_pos hb2]
        simp only at hf ⊢
        rw [lpc_cons, ← i1 hf, List.count_cons]
        simp
      · rename_i hb2
        rw [if_neg hb2]
        split at hf
        · rename_i hb3
          rw [if_pos hb3]
          simp only at hf ⊢
          rw [lpc_cons, ← i2 hf, if_neg (by simp), List.count_cons_of_ne (by omega)]
          cases l with
          | nil => simp at hb3
          | cons y l =>
            simp at hb3
            rw [List.count_cons_of_ne (by omega)]; simp
        · rename_i hb3
          rw [if_neg hb3]
          split at hf
          · rename_i hb4
            rw [if_pos hb4]
            simp only at hf ⊢
            have hne : (b :: l).takeWhile isId ≠ [40] := by
              rw [List.takeWhile_cons, if_pos (isId_let hb4)]
              intro e
              have : b = 40 := by simpa using congrArg List.head? e
              omega
            rw [lpc_cons, if_neg hne]
            rw [drop_let hb4] at hf ⊢
            rw [← i3 hf, List.count_cons_of_ne (by omega)]
            have e := List.takeWhile_append_dropWhile (p := isId) (l := l)
            conv => lhs; rw [← e]
            rw [List.count_append]
            have : (l.takeWhile isId).count 40 = 0 := by
              refine List.count_eq_zero_of_not_mem (fun hm => ?_)
              have := List.all_eq_true.1 (List.all_takeWhile (p := isId) (l := l)) 40 hm
              exact absurd this (by decide)
            omega
          · cases hf
theorem lpc_print (nm : List (List Nat)) (hnm : ∀ s ∈ nm, s ≠ [40]) : ∀ t : Fm, lpc (tkC nm t) = pcF t
  | .c b => by cases b <;> rfl
  | .v n => by
    have : nm[n]?.getD [] ≠ [40] := by
      cases h : nm[n]? with
      | none => simp
      | some s => exact hnm s (List.mem_of_getElem? h)
    show lpc [nm[n]?.getD []] = 0
    rw [lpc_cons, if_neg this]; rfl
  | .not a => by
    have ih := lpc_print nm hnm a
    show lpc ([33] :: parK _ _) = _
    rw [lpc_cons, if_neg (by decide)]
    unfold parK
    simp only [pcF]
    split
    · rename_i h
      rw [if_pos (of_decide_eq_true h)]
      show lpc ([40] :: (tkC nm a ++ [[41]])) = _
      rw [lpc_cons, if_pos rfl, ← ih]
      unfold lpc
      rw [List.count_append]; rfl
    · rename_i h
      rw [if_neg (fun hh => h (decide_eq_true hh)), ih]
  | .and a b => by
    have iha := lpc_print nm hnm a
    have ihb := lpc_print nm hnm b
    have hp : ∀ (c : Prop) [Decidable c] (t : Fm), lpc (tkC nm t) = pcF t → lpc (parK (decide c) (tkC nm t)) = pcF t + if c then 1 else 0 := fun c _ t ih => by
      unfold parK
      split
      · rename_i h
        rw [if_pos (of_decide_eq_true h)]
        show lpc ([40] :: (tkC nm t ++ [[41]])) = _
        rw [lpc_cons, if_pos rfl, ← ih]
        unfold lpc
        rw [List.count_append]; rfl
      · rename_i h
        rw [if_neg (fun hh => h (decide_eq_true hh)), ih]; rfl
    have h1 := hp (lvlF a < 1) a iha
    have h2 := hp (lvlF b < 2) b ihb
    show lpc (parK _ _ ++ [38, 38] :: parK _ _) = _
    simp only [pcF]
    unfold lpc at *
    rw [List.count_append, List.count_cons_of_ne (by decide), h1, h2]
  | .or a b => by
    have iha := lpc_print nm hnm a
    have ihb := lpc_print nm hnm b
    show lpc (tkC nm a ++ [124, 124] :: parK _ _) = _
    simp only [pcF]
    have h2 : lpc (parK (decide (lvlF b < 1)) (tkC nm b)) = pcF b + if lvlF b < 1 then 1 else 0 := by
      unfold parK
      split
      · rename_i h
        rw [if_pos (of_decide_eq_true h)]
        show lpc ([40] :: (tkC nm b ++ [[41]])) = _
        rw [lpc_cons, if_pos rfl, ← ihb]
        unfold lpc
        rw [List.count_append]; rfl
      · rename_i h
        rw [if_neg (fun hh => h (decide_eq_true hh)), ihb]; rfl
    unfold lpc at *
    rw [List.count_append, List.count_cons_of_ne (by decide), iha, h2]

/-- An expression of the same formula has at least as many. -/
theorem paren_min {nm : List (List Nat)} (hn : numsOk nm = true) {s : List Nat} {t : Fm} (h : parseP nm s = (postF t 0, 0)) : pcF t ≤ s.count 40 := by
  rw [parse_tok] at h
  unfold parseK at h
  rw [if_pos hn] at h
  split at h
  · rename_i hf
    cases ho : wholeT (ixN nm) (s.length + 1) (lexA s).1 with
    | none => rw [ho] at h; simp at h
    | some q =>
      obtain ⟨t', u, ts⟩ := q
      rw [ho] at h
      simp only at h
      split at h
      · simp at h
      · split at h
        · simp at h
        · split at h
          · simp at h
          · have e : postF t' 0 = postF t 0 := congrArg Prod.fst h
            have et : t' = t := by rw [← treeOf_post t', e, treeOf_post]
            subst et
            have h1 := whole_paid (ixN nm) (s.length + 1) _ _ _ _ ho
            have h2 := count_lex s.length s (Nat.le_refl _) hf
            rw [if_neg (Nat.not_lt_zero _)] at h1
            have : lpc (lexA s).1 = s.count 40 := h2.symm
            omega
  · simp at h

/-! ### Balanced texts -/
/-- How deep a text leads. -/
def depP (l : List Nat) : Int := (l.count 40 : Int) - (l.count 41 : Int)
theorem depP_app (l m : List Nat) : depP (l ++ m) = depP l + depP m := by unfold depP; rw [List.count_append, List.count_append]; omega
structure Bal (l : List Nat) : Prop where
  all : depP l = 0
  pre : ∀ k, 0 ≤ depP (l.take k)
theorem Bal.of_no {l : List Nat} (h : ∀ x ∈ l, x ≠ 40 ∧ x ≠ 41) : Bal l := by
  have z : ∀ m : List Nat, (∀ x ∈ m, x ∈ l) → depP m = 0 := fun m hm => by
    unfold depP
    rw [List.count_eq_zero_of_not_mem (fun hh => (h 40 (hm _ hh)).1 rfl), List.count_eq_zero_of_not_mem (fun hh => (h 41 (hm _ hh)).2 rfl)]; rfl
  exact ⟨z l (fun _ hx => hx), fun k => by rw [z _ (fun x hx => List.mem_of_mem_take hx)]; exact Int.le_refl _⟩
theorem Bal.app {l m : List Nat} (h : Bal l) (k : Bal m) : Bal (l ++ m) := by
  refine ⟨by rw [depP_app, h.all, k.all]; rfl, fun j => ?_⟩
  rw [List.take_append, depP_app]
  have := h.pre j
  have := k.pre (j - l.length)
  omega
theorem Bal.par {l : List Nat} (h : Bal l) (b : Bool) : Bal (parF b l) := by
  cases b with
  | false => exact h
  | true =>
    have e : parF true l = [40] ++ (l ++ [41]) := rfl
    rw [e]
    refine ⟨by rw [depP_app, depP_app, h.all]; decide, fun j => ?_⟩
    cases j with
    | zero => exact Int.le_refl _
    | succ j =>
      show 0 ≤ depP ([40] ++ (l ++ [41]).take j)
      rw [depP_app, List.take_append, depP_app]
      have h1 := h.pre j
      have h2 : depP [40] = 1 := by decide
      have h3 : -1 ≤ depP ([41].take (j - l.length)) := by
        cases j - l.length with
        | zero => decide
        | succ i => simp; decide
      omega
theorem word_no {s : List Nat} (h : nameOk s = true) : ∀ x ∈ s, x ≠ 40 ∧ x ≠ 41 := fun x hx => by
  have := (nameOk_word h).1.2 x hx
  refine ⟨fun e => ?_, fun e => ?_⟩ <;> (subst e; exact absurd this (by decide))
theorem bal_print {nm : List (List Nat)} (hn : nm.all nameOk = true) : ∀ t : Fm, Bal (prC nm t)
  | .c b => by
    cases b with
    | false => exact Bal.of_no (l := falseL) (by decide)
    | true => exact Bal.of_no (l := trueL) (by decide)
  | .v n => by
    show Bal (nm[n]?.getD [])
    cases h : nm[n]? with
    | none => exact Bal.of_no (fun x hx => by cases hx)
    | some s => exact Bal.of_no (word_no (List.all_eq_true.1 hn s (List.mem_of_getElem? h)))
  | .not a => by
    have := (bal_print hn a).par (decide (lvlF a < 2))
    show Bal ([33] ++ parF _ _)
    exact (Bal.of_no (by decide)).app this
  | .and a b => by
    have h1 := (bal_print hn a).par (decide (lvlF a < 1))
    have h2 := (bal_print hn b).par (decide (lvlF b < 2))
    exact (h1.app (Bal.of_no (by decide))).app h2
  | .or a b => by
    have h1 := (bal_print hn a).par (decide (lvlF a < 0))
    have h2 := (bal_print hn b).par (decide (lvlF b < 1))
    exact (h1.app (Bal.of_no (by decide))).app h2
end Go.Proofs.YtdbhjlpkopnebaaDoor
