/-
  Expressions: tokens; the parser of bytes does what a parser of tokens does.
  Expressions: printed formulas, token by token, are parsed to themselves.
  Formulas in postorder; lists of names.
  Conditions: none.
-/
import Derived.Test.YtedopgkbajhanaaGreatDoorKd
import Derived.Test.YtedopgkbajhanaaGreatDoorKh
namespace Go.Proofs.YtedopgkbajhanaaGreatDoor
section
open Go Go.RowKit

/-! ### Tokens -/
/-- The tokens of an expression, and whether all bytes belong to one. -/
def lexF : Nat → List Nat → List (List Nat) × Bool
  | 0, _ => ([], true)
  | _ + 1, [] => ([], true)
  | n + 1, b :: l =>
    if b = 32 ∨ b = 9 then lexF n l
    else if b = 40 ∨ b = 41 ∨ b = 33 then ([b] :: (lexF n l).1, (lexF n l).2)
    else if (b = 38 ∨ b = 124) ∧ l.head? = some b then ([b, b] :: (lexF n l.tail).1, (lexF n l.tail).2)
    else if isLet b then ((b :: l).takeWhile isId :: (lexF n ((b :: l).dropWhile isId)).1, (lexF n ((b :: l).dropWhile isId)).2)
    else ([], false)
def lexA (l : List Nat) : List (List Nat) × Bool := lexF l.length l

theorem isId_let {b : Nat} (h : isLet b = true) : isId b = true := by unfold isId; rw [h]; rfl
theorem drop_let {b : Nat} {l : List Nat} (h : isLet b = true) : (b :: l).dropWhile isId = l.dropWhile isId := by rw [List.dropWhile_cons, if_pos (isId_let h)]
theorem dropWhile_len (p : Nat → Bool) (l : List Nat) : (l.dropWhile p).length ≤ l.length := (List.dropWhile_suffix p).length_le

theorem lexF_fuel : ∀ (n m : Nat) (l : List Nat), l.length ≤ n → l.length ≤ m → lexF n l = lexF m l
  | n, m, [], _, _ => by cases n <;> cases m <;> rfl
  | 0, _, b :: l, h, _ => by simp at h
  | _ + 1, 0, b :: l, _, h => by simp at h
  | n + 1, m + 1, b :: l, h, h' => by
    simp only [List.length_cons] at h h'
    have e1 := lexF_fuel n m l (by omega) (by omega)
    have e2 := lexF_fuel n m l.tail (by rw [List.length_tail]; omega) (by rw [List.length_tail]; omega)
    have hd := dropWhile_len isId l
    have e3 := lexF_fuel n m (l.dropWhile isId) (by omega) (by omega)
    simp only [lexF]
    split
    · exact e1
    · split
      · rw [e1]
      · split
        · rw [e2]
        · split
          · rename_i hl
            rw [drop_let hl, e3]
          · rfl

theorem lexA_nil : lexA [] = ([], true) := rfl
theorem lexA_sp {b : Nat} {l : List Nat} (h : b = 32 ∨ b = 9) : lexA (b :: l) = lexA l := by
  show lexF (l.length + 1) (b :: l) = _
  rw [lexF, if_pos h]; rfl
theorem lexA_one {b : Nat} {l : List Nat} (h : b = 40 ∨ b = 41 ∨ b = 33) : lexA (b :: l) = ([b] :: (lexA l).1, (lexA l).2) := by
  show lexF (l.length + 1) (b :: l) = _
  rw [lexF, if_neg (by omega), if_pos h]; rfl
theorem lexA_two {b : Nat} {l : List Nat} (h : b = 38 ∨ b = 124) : lexA (b :: b :: l) = ([b, b] :: (lexA l).1, (lexA l).2) := by
  show lexF ((b :: l).length + 1) (b :: b :: l) = _
  rw [lexF, if_neg (by omega), if_neg (by omega), if_pos ⟨h, rfl⟩]
  have := lexF_fuel (b :: l).length l.length l (by simp) (Nat.le_refl _)
  rw [show (b :: l).tail = l from rfl, this]; rfl
theorem lexA_id {b : Nat} {l : List Nat} (h : isLet b = true) : lexA (b :: l) = ((b :: l).takeWhile isId :: (lexA ((b :: l).dropWhile isId)).1, (lexA ((b :: l).dropWhile isId)).2) := by
  have hb : b = 95 ∨ (97 ≤ b ∧ b ≤ 122) ∨ (65 ≤ b ∧ b ≤ 90) := by unfold isLet at h; simp at h; omega
  show lexF (l.length + 1) (b :: l) = _
  rw [lexF, if_neg (by omega), if_neg (by omega), if_neg (by omega), if_pos h, drop_let h]
  have := lexF_fuel l.length (l.dropWhile isId).length (l.dropWhile isId) (dropWhile_len _ _) (Nat.le_refl _)
  rw [this]; rfl
theorem lexA_bad {b : Nat} {l : List Nat} (h1 : ¬ (b = 32 ∨ b = 9)) (h2 : ¬ (b = 40 ∨ b = 41 ∨ b = 33)) (h3 : ¬ ((b = 38 ∨ b = 124) ∧ l.head? = some b)) (h4 : isLet b = false) : lexA (b :: l) = ([], false) := by
  show lexF (l.length + 1) (b :: l) = _
  rw [lexF, if_neg h1, if_neg h2, if_neg h3, if_neg (by rw [h4]; decide)]
theorem lexA_trim (l : List Nat) : lexA (trimB l) = lexA l := by
  induction l with
  | nil => rfl
  | cons b l ih =>
    unfold trimB at *
    rw [List.dropWhile_cons]
    split
    · rename_i h
      rw [ih, lexA_sp]
      simpa using h
    · rfl
theorem trim_head {l : List Nat} {b : Nat} {r : List Nat} (h : trimB l = b :: r) : ¬ (b = 32 ∨ b = 9) := by
  unfold trimB at h
  induction l with
  | nil => cases h
  | cons x l ih =>
    rw [List.dropWhile_cons] at h
    split at h
    · exact ih h
    · rename_i hx
      cases h
      simpa using hx

/-- A symbol is skipped exactly if it is the next token. -/
theorem skip_one {b : Nat} (hb : b = 40 ∨ b = 41 ∨ b = 33) (p : Ps) : match skipP [b] p with
    | (true, p') => lexA p.r = ([b] :: (lexA p'.r).1, (lexA p'.r).2) ∧ p'.f = p.f ∧ p'.u = p.u ∧ p'.r.length < p.r.length
    | (false, p') => (lexA p.r).1.head? ≠ some [b] ∧ p' = { p with r := trimB p.r } := by
  have hl := lexA_trim p.r
  have htl := trimB_len p.r
  rw [skipP_eq]
  cases ht : trimB p.r with
  | nil =>
    rw [ht] at hl
    simp only [List.isPrefixOf]
    refine ⟨?_, by simp⟩
    rw [← hl]; simp [lexA_nil]
  | cons x r =>
    have hx := trim_head ht
    rw [ht] at hl htl
    by_cases hxb : x = b
    · subst hxb
      simp only [List.isPrefixOf, beq_self_eq_true, Bool.true_and]
      refine ⟨by rw [← hl, lexA_one hb]; simp, trivial, trivial, by simp at htl ⊢; omega⟩
    · have : [b].isPrefixOf (x :: r) = false := by simp [List.isPrefixOf, Ne.symm hxb]
      rw [this]
      simp only
      refine ⟨fun h => ?_, by simp⟩
      rw [← hl] at h
      by_cases h2 : x = 40 ∨ x = 41 ∨ x = 33
      · rw [lexA_one h2] at h; simp at h; exact hxb h
      · by_cases h3 : (x = 38 ∨ x = 124) ∧ r.head? = some x
        · cases r with
          | nil => simp at h3
          | cons y r =>
            simp at h3
            obtain ⟨h3, rfl⟩ := h3
            rw [lexA_two h3] at h; simp at h
        · by_cases h4 : isLet x = true
          · rw [lexA_id h4, List.takeWhile_cons, if_pos (isId_let h4)] at h
            simp at h
            exact hxb h.1
          · rw [lexA_bad hx h2 h3 (by simpa using h4)] at h; simp at h
theorem skip_two {b : Nat} (hb : b = 38 ∨ b = 124) (p : Ps) : match skipP [b, b] p with
    | (true, p') => lexA p.r = ([b, b] :: (lexA p'.r).1, (lexA p'.r).2) ∧ p'.f = p.f ∧ p'.u = p.u ∧ p'.r.length < p.r.length
    | (false, p') => (lexA p.r).1.head? ≠ some [b, b] ∧ p' = { p with r := trimB p.r } := by
  have hl := lexA_trim p.r
  have htl := trimB_len p.r
  rw [skipP_eq]
  cases ht : trimB p.r with
  | nil =>
    rw [ht] at hl
    simp only [List.isPrefixOf]
    refine ⟨?_, by simp⟩
    rw [← hl]; simp [lexA_nil]
  | cons x r =>
    have hx := trim_head ht
    rw [ht] at hl htl
    by_cases hxb : x = b ∧ r.head? = some b
    · obtain ⟨rfl, hr⟩ := hxb
      cases r with
      | nil => simp at hr
      | cons y r =>
        simp at hr
        subst hr
        simp only [List.isPrefixOf, beq_self_eq_true, Bool.true_and]
        refine ⟨by rw [← hl, lexA_two hb]; simp, trivial, trivial, by simp at htl ⊢; omega⟩
    · have : [b, b].isPrefixOf (x :: r) = false := by
        rw [← Bool.not_eq_true]
        intro h
        cases r with
        | nil => simp [List.isPrefixOf] at h
        | cons y r => simp [List.isPrefixOf] at h; exact hxb ⟨h.1.symm, by simp [h.2]⟩
      rw [this]
      simp only
      refine ⟨fun h => ?_, by simp⟩
      rw [← hl] at h
      by_cases h2 : x = 40 ∨ x = 41 ∨ x = 33
      · rw [lexA_one h2] at h; simp at h
      · by_cases h3 : (x = 38 ∨ x = 124) ∧ r.head? = some x
        · cases r with
          | nil => simp at h3
          | cons y r =>
            simp at h3
            obtain ⟨h3, rfl⟩ := h3
            rw [lexA_two h3] at h; simp at h
            exact hxb ⟨h, by simp [h]⟩
        · by_cases h4 : isLet x = true
          · have hid : isId b = false := by rcases hb with rfl | rfl <;> decide
            rw [lexA_id h4, List.takeWhile_cons, if_pos (isId_let h4)] at h
            simp at h
            have hi := isId_let h4
            rw [h.1, hid] at hi; cases hi
          · rw [lexA_bad hx h2 h3 (by simpa using h4)] at h; simp at h

/-! ### A parser of tokens -/
def loopT (op : List Nat) (mk : Fm → Fm → Fm) (opd : List (List Nat) → Option (Fm × Bool × List (List Nat))) : Nat → Fm → Bool → List (List Nat) → Option (Fm × Bool × List (List Nat))
  | 0, _, _, _ => none
  | m + 1, a, u, ts => if ts.head? = some op then
      match opd ts.tail with
      | none => none
      | some (b, v, ts') => loopT op mk opd m (mk a b) (u || v) ts'
    else some (a, u, ts)
def chainT (op : List Nat) (mk : Fm → Fm → Fm) (opd : List (List Nat) → Option (Fm × Bool × List (List Nat))) (ts : List (List Nat)) : Option (Fm × Bool × List (List Nat)) := match opd ts with
  | none => none
  | some (a, u, ts') => loopT op mk opd (ts'.length + 1) a u ts'
/-- Is this token an identifier? -/
def isWord (t : List Nat) : Bool := match t with
  | [] => false
  | b :: _ => isLet b
def wordT (ix : List Nat → Option Nat) (t : List Nat) : Fm × Bool := if t = trueL then (.c true, false) else if t = falseL then (.c false, false) else (.v ((ix t).getD 0), (ix t).isNone)
def facT (ix : List Nat → Option Nat) : Nat → List (List Nat) → Option (Fm × Bool × List (List Nat))
  | 0, _ => none
  | _ + 1, [] => none
  | n + 1, t :: ts => if t = [33] then
      match facT ix n ts with
      | none => none
      | some (a, u, ts') => some (.not a, u, ts')
    else if t = [40] then
      match chainT [124, 124] .or (chainT [38, 38] .and (facT ix n)) ts with
      | none => none
      | some (a, u, ts') => if ts'.head? = some [41] then some (a, u, ts'.tail) else none
    else if isWord t then some ((wordT ix t).1, (wordT ix t).2, ts) else none
def wholeT (ix : List Nat → Option Nat) (n : Nat) (ts : List (List Nat)) : Option (Fm × Bool × List (List Nat)) := chainT [124, 124] .or (chainT [38, 38] .and (facT ix n)) ts

/-- The nodes of a formula behind k others, operands first. -/
def postF : Fm → Nat → List Fz
  | .c b, _ => [⟨if b then 1 else 0, 0, 0, 0⟩]
  | .v n, _ => [⟨2, (n : Nat), 0, 0⟩]
  | .not a, k => postF a k ++ [⟨3, 0, ((k + szF a - 1 : Nat) : Int), 0⟩]
  | .and a b, k => postF a k ++ postF b (k + szF a) ++ [⟨4, 0, ((k + szF a - 1 : Nat) : Int), ((k + szF a + szF b - 1 : Nat) : Int)⟩]
  | .or a b, k => postF a k ++ postF b (k + szF a) ++ [⟨5, 0, ((k + szF a - 1 : Nat) : Int), ((k + szF a + szF b - 1 : Nat) : Int)⟩]
theorem postF_len : ∀ (t : Fm) (k : Nat), (postF t k).length = szF t
  | .c _, _ => rfl
  | .v _, _ => rfl
  | .not a, k => by simp [postF, szF, postF_len a k]
  | .and a b, k => by simp [postF, szF, postF_len a k, postF_len b, Nat.add_assoc]
  | .or a b, k => by simp [postF, szF, postF_len a k, postF_len b, Nat.add_assoc]
theorem szF_pos : ∀ t : Fm, 0 < szF t
  | .c _ => Nat.one_pos
  | .v _ => Nat.one_pos
  | .not _ => Nat.succ_pos _
  | .and _ _ => Nat.succ_pos _
  | .or _ _ => Nat.succ_pos _

/-- The byte parser does what the token parser does. -/
def Cor (p : Ps) (r : Option (Nat × Ps)) (rt : Option (Fm × Bool × List (List Nat))) : Prop := match rt with
  | none => r = none
  | some (t, u, ts) => ∃ p', r = some (p.f.length + szF t - 1, p') ∧ p'.f = p.f ++ postF t p.f.length ∧ p'.u = (p.u || u) ∧ lexA p'.r = (ts, (lexA p.r).2) ∧ p'.r.length < p.r.length

def CorO (opd : Ps → Option (Nat × Ps)) (opt : List (List Nat) → Option (Fm × Bool × List (List Nat))) : Prop := ∀ p, Cor p (opd p) (opt (lexA p.r).1)
/-- An operand takes at least one token. -/
def LimT (opt : List (List Nat) → Option (Fm × Bool × List (List Nat))) : Prop := ∀ ts t u ts', opt ts = some (t, u, ts') → ts'.length < ts.length

theorem loop_cor {op : List Nat} {o : Int} {mk : Fm → Fm → Fm} {opd : Ps → Option (Nat × Ps)} {opt : List (List Nat) → Option (Fm × Bool × List (List Nat))}
    (hsk : ∀ p, match skipP op p with
      | (true, p') => lexA p.r = (op :: (lexA p'.r).1, (lexA p'.r).2) ∧ p'.f = p.f ∧ p'.u = p.u ∧ p'.r.length < p.r.length
      | (false, p') => (lexA p.r).1.head? ≠ some op ∧ p' = { p with r := trimB p.r })
    (hmk : ∀ a b k, postF (mk a b) k = postF a k ++ postF b (k + szF a) ++ [⟨o, 0, ((k + szF a - 1 : Nat) : Int), ((k + szF a + szF b - 1 : Nat) : Int)⟩]) (hsz : ∀ a b, szF (mk a b) = szF a + szF b + 1) (H : CorO opd opt) (hl : LimT opt) :
    ∀ (m m' : Nat) (a : Fm) (u : Bool) (p0 p : Ps), p.f = p0.f ++ postF a p0.f.length → p.u = (p0.u || u) → (lexA p.r).2 = (lexA p0.r).2 → p.r.length < p0.r.length → p.r.length < m → (lexA p.r).1.length < m' →
      Cor p0 (loopP op o opd m (p0.f.length + szF a - 1) p) (loopT op mk opt m' a u (lexA p.r).1)
  | 0, m', a, u, p0, p, _, _, _, _, h, _ => by omega
  | m + 1, 0, a, u, p0, p, _, _, _, _, _, h => by omega
  | m + 1, m' + 1, a, u, p0, p, hf, hu, hl2, hr, hm, hm' => by
    have hs := hsk p
    unfold loopP loopT
    cases hsp : skipP op p with
    | mk b p1 =>
    rw [hsp] at hs
    cases b with
    | false =>
      obtain ⟨h1, rfl⟩ := hs
      rw [if_neg h1]
      refine ⟨_, rfl, hf, hu, ?_, ?_⟩
      · simp only; rw [lexA_trim, ← hl2]
      · have := trimB_len p.r; simp only; omega
    | true =>
      obtain ⟨h1, h2, h3, h4⟩ := hs
      have hh := congrArg Prod.fst h1
      have hh2 := congrArg Prod.snd h1
      simp only at hh hh2
      rw [hh, List.head?_cons, if_pos rfl, List.tail_cons]
      simp only
      have hc := H p1
      cases ho : opt (lexA p1.r).1 with
      | none =>
        rw [ho] at hc
        simp only [Cor] at hc ⊢
        rw [hc]
      | some q =>
        obtain ⟨t, v, ts⟩ := q
        rw [ho] at hc
        obtain ⟨p2, e1, e2, e3, e4, e5⟩ := hc
        rw [e1]
        simp only
        have hlt := hl _ _ _ _ ho
        have pa := szF_pos a
        have pt := szF_pos t
        rw [hf] at h2
        have hfl : p1.f.length = p0.f.length + szF a := by rw [h2, List.length_append, postF_len]
        have ih := loop_cor hsk hmk hsz H hl m m' (mk a t) (u || v) p0 { p2 with f := p2.f ++ [⟨o, 0, ((p0.f.length + szF a - 1 : Nat) : Int), ((p1.f.length + szF t - 1 : Nat) : Int)⟩] }
          (by simp only; rw [e2, h2, hmk, List.length_append, postF_len]; simp) (by simp only; rw [e3, h3, hu, Bool.or_assoc]) (by simp only; rw [e4, ← hh2, hl2]) (by simp only; omega) (by simp only; omega)
          (by simp only; rw [e4]; simp only; rw [hh] at hm'; simp only [List.length_cons] at hm'; omega)
        simp only [e4] at ih
        have hx : p2.f.length = p0.f.length + szF (mk a t) - 1 := by rw [e2, List.length_append, postF_len, hfl, hsz]; omega
        rw [hx]
        exact ih
theorem chain_cor {op : List Nat} {o : Int} {mk : Fm → Fm → Fm} {opd : Ps → Option (Nat × Ps)} {opt : List (List Nat) → Option (Fm × Bool × List (List Nat))}
    (hsk : ∀ p, match skipP op p with
      | (true, p') => lexA p.r = (op :: (lexA p'.r).1, (lexA p'.r).2) ∧ p'.f = p.f ∧ p'.u = p.u ∧ p'.r.length < p.r.length
      | (false, p') => (lexA p.r).1.head? ≠ some op ∧ p' = { p with r := trimB p.r })
    (hmk : ∀ a b k, postF (mk a b) k = postF a k ++ postF b (k + szF a) ++ [⟨o, 0, ((k + szF a - 1 : Nat) : Int), ((k + szF a + szF b - 1 : Nat) : Int)⟩]) (hsz : ∀ a b, szF (mk a b) = szF a + szF b + 1) (H : CorO opd opt) (hl : LimT opt) : CorO (chainP op o opd) (chainT op mk opt) := fun p => by
  have hc := H p
  unfold chainP chainT
  cases ho : opt (lexA p.r).1 with
  | none =>
    rw [ho] at hc
    simp only [Cor] at hc ⊢
    rw [hc]
  | some q =>
    obtain ⟨t, v, ts⟩ := q
    rw [ho] at hc
    obtain ⟨p2, e1, e2, e3, e4, e5⟩ := hc
    rw [e1]
    simp only
    have := loop_cor hsk hmk hsz H hl (p2.r.length + 1) (ts.length + 1) t v p p2 e2 e3 (by rw [e4]) e5 (by omega) (by rw [e4]; exact Nat.lt_succ_self _)
    rw [e4] at this
    exact this
theorem loopT_lim {op : List Nat} {mk : Fm → Fm → Fm} {opt : List (List Nat) → Option (Fm × Bool × List (List Nat))} (hl : LimT opt) : ∀ (m : Nat) (a : Fm) (u : Bool) (ts : List (List Nat)) (t : Fm) (v : Bool) (ts' : List (List Nat)), loopT op mk opt m a u ts = some (t, v, ts') → ts'.length ≤ ts.length
  | 0, a, u, ts, t, v, ts', h => by cases h
  | m + 1, a, u, ts, t, v, ts', h => by
    unfold loopT at h
    split at h
    · cases ho : opt ts.tail with
      | none => rw [ho] at h; cases h
      | some q =>
        obtain ⟨b, v2, ts2⟩ := q
        rw [ho] at h
        have h1 := loopT_lim hl m _ _ _ _ _ _ h
        have h2 := hl _ _ _ _ ho
        rw [List.length_tail] at h2
        omega
    · cases h; exact Nat.le_refl _
theorem chainT_lim {op : List Nat} {mk : Fm → Fm → Fm} {opt : List (List Nat) → Option (Fm × Bool × List (List Nat))} (hl : LimT opt) : LimT (chainT op mk opt) := fun ts t u ts' h => by
  unfold chainT at h
  cases ho : opt ts with
  | none => rw [ho] at h; cases h
  | some q =>
    obtain ⟨b, v2, ts2⟩ := q
    rw [ho] at h
    have h1 := loopT_lim hl _ _ _ _ _ _ _ h
    have h2 := hl _ _ _ _ ho
    omega
theorem facT_lim (ix : List Nat → Option Nat) : ∀ n, LimT (facT ix n)
  | 0 => fun ts t u ts' h => by cases h
  | n + 1 => fun ts t u ts' h => by
    have ih := facT_lim ix n
    cases ts with
    | nil => cases h
    | cons x ts =>
      unfold facT at h
      split at h
      · cases ho : facT ix n ts with
        | none => rw [ho] at h; cases h
        | some q =>
          obtain ⟨b, v2, ts2⟩ := q
          rw [ho] at h
          have := ih _ _ _ _ ho
          cases h; simp; omega
      · split at h
        · cases ho : chainT [124, 124] .or (chainT [38, 38] .and (facT ix n)) ts with
          | none => rw [ho] at h; cases h
          | some q =>
            obtain ⟨b, v2, ts2⟩ := q
            rw [ho] at h
            have := chainT_lim (op := [124, 124]) (mk := .or) (chainT_lim (op := [38, 38]) (mk := .and) ih) _ _ _ _ ho
            simp only at h
            split at h
            · cases h; simp [List.length_tail]; omega
            · cases h
        · split at h
          · cases h; simp
          · cases h

theorem take_tw (p : Nat → Bool) (l : List Nat) : l.take (l.takeWhile p).length = l.takeWhile p := by
  induction l with
  | nil => rfl
  | cons x l ih =>
    rw [List.takeWhile_cons]
    split
    · rw [List.length_cons, List.take_succ_cons, ih]
    · rfl
theorem drop_tw (p : Nat → Bool) (l : List Nat) : l.drop (l.takeWhile p).length = l.dropWhile p := by
  induction l with
  | nil => rfl
  | cons x l ih =>
    rw [List.takeWhile_cons, List.dropWhile_cons]
    split
    · rw [List.length_cons, List.drop_succ_cons, ih]
    · rfl
theorem trim_idem (l : List Nat) : trimB (trimB l) = trimB l := by
  cases h : trimB l with
  | nil => rfl
  | cons b r =>
    have := trim_head h
    unfold trimB
    rw [List.dropWhile_cons, if_neg (by simpa using this)]
theorem idLen_let {x : Nat} {r : List Nat} (h : idLen (x :: r) ≠ 0) : isLet x = true ∧ idLen (x :: r) = ((x :: r).takeWhile isId).length := by
  have e : idLen (x :: r) = if isDig x then 0 else ((x :: r).takeWhile isId).length := rfl
  rw [e] at h ⊢
  split at h
  · exact absurd rfl h
  · rename_i hd
    rw [if_neg hd]
    refine ⟨?_, rfl⟩
    rw [List.takeWhile_cons] at h
    split at h
    · rename_i hi
      unfold isId at hi
      rw [Bool.or_eq_true] at hi
      exact hi.resolve_right hd
    · exact absurd rfl h
theorem idLen_not {x : Nat} {r : List Nat} (h : idLen (x :: r) = 0) : isLet x = false := by
  have e : idLen (x :: r) = if isDig x then 0 else ((x :: r).takeWhile isId).length := rfl
  rw [e] at h
  rw [← Bool.not_eq_true]
  intro hl
  have hb : x = 95 ∨ (97 ≤ x ∧ x ≤ 122) ∨ (65 ≤ x ∧ x ≤ 90) := by unfold isLet at hl; simp at hl; omega
  rw [if_neg (by unfold isDig; simp; omega), List.takeWhile_cons, if_pos (isId_let hl)] at h
  simp at h
theorem word_let {x : Nat} {r : List Nat} (h : isLet x = true) : isWord ((x :: r).takeWhile isId) = true := by
  rw [List.takeWhile_cons, if_pos (isId_let h)]; exact h

theorem fac_cor (ix : List Nat → Option Nat) : ∀ n, CorO (facP ix n) (facT ix n)
  | 0 => fun p => rfl
  | n + 1 => fun p => by
    have ih := fac_cor ix n
    have hlim := facT_lim ix n
    have s1 := skip_one (b := 33) (by omega) p
    cases hk : skipP [33] p with
    | mk b p1 =>
    rw [hk] at s1
    cases b with
    | true =>
      obtain ⟨h1, h2, h3, h4⟩ := s1
      rw [facP_not ix n hk, h1]
      have hc := ih p1
      unfold facT
      rw [if_pos rfl]
      cases ho : facT ix n (lexA p1.r).1 with
      | none =>
        rw [ho] at hc
        simp only [Cor] at hc ⊢
        rw [hc]
      | some q =>
        obtain ⟨t, v, ts⟩ := q
        rw [ho] at hc
        obtain ⟨p2, e1, e2, e3, e4, e5⟩ := hc
        rw [e1]
        have pt := szF_pos t
        refine ⟨(putP ⟨3, 0, ((p1.f.length + szF t - 1 : Nat) : Int), 0⟩ p2).2, ?_, ?_, ?_, ?_, ?_⟩
        · simp only [putP]
          rw [e2, List.length_append, postF_len, h2]
          rfl
        · simp only [putP]
          rw [e2, h2]
          simp [postF]
        · simp only [putP]; rw [e3, h3]
        · simp only [putP]; rw [e4, h1]
        · simp only [putP]; omega
    | false =>
      obtain ⟨h1, rfl⟩ := s1
      have s2 := skip_one (b := 40) (by omega) { p with r := trimB p.r }
      cases hk2 : skipP [40] { p with r := trimB p.r } with
      | mk b p2 =>
      rw [hk2] at s2
      have htl := trimB_len p.r
      cases b with
      | true =>
        obtain ⟨h5, h6, h7, h8⟩ := s2
        simp only [lexA_trim] at h5 h6 h7 h8
        rw [facP_par ix n hk hk2, h5]
        have hc := chain_cor (op := [124, 124]) (o := 5) (mk := .or) (fun p => skip_two (by omega) p) (fun a b k => rfl) (fun a b => rfl) (chain_cor (op := [38, 38]) (o := 4) (mk := .and) (fun p => skip_two (by omega) p) (fun a b k => rfl) (fun a b => rfl) ih hlim) (chainT_lim hlim) p2
        unfold facT
        rw [if_neg (by decide), if_pos rfl]
        unfold wholeP
        cases ho : chainT [124, 124] Fm.or (chainT [38, 38] Fm.and (facT ix n)) (lexA p2.r).1 with
        | none =>
          rw [ho] at hc
          simp only [Cor] at hc ⊢
          rw [hc]
        | some q =>
          obtain ⟨t, v, ts⟩ := q
          rw [ho] at hc
          obtain ⟨p3, e1, e2, e3, e4, e5⟩ := hc
          rw [e1]
          simp only
          have s3 := skip_one (b := 41) (by omega) p3
          cases hk3 : skipP [41] p3 with
          | mk b p4 =>
          rw [hk3] at s3
          cases b with
          | true =>
            obtain ⟨g1, g2, g3, g4⟩ := s3
            have ht := congrArg Prod.fst (e4.symm.trans g1)
            have ht2 := congrArg Prod.snd (e4.symm.trans g1)
            simp only at ht ht2
            rw [ht, List.head?_cons, if_pos rfl, List.tail_cons]
            refine ⟨_, by rw [h6], by rw [g2, e2, h6], by rw [g3, e3, h7], ?_, ?_⟩
            · rw [h5]; simp only; rw [ht2]
            · omega
          | false =>
            obtain ⟨g1, rfl⟩ := s3
            rw [e4] at g1
            simp only at g1
            rw [if_neg g1]
            rfl
      | false =>
        obtain ⟨h5, rfl⟩ := s2
        simp only [lexA_trim] at h5
        rw [facP_id ix n hk hk2]
        simp only [trim_idem]
        have hl := lexA_trim p.r
        cases ht : trimB p.r with
        | nil =>
          rw [ht, lexA_nil] at hl
          rw [← hl]
          rfl
        | cons x r =>
          have hx := trim_head ht
          rw [ht] at hl htl
          rw [← hl] at h1 h5 ⊢
          by_cases hid : idLen (x :: r) = 0
          · rw [if_pos hid]
            have h4 := idLen_not hid
            have : facT ix (n + 1) (lexA (x :: r)).1 = none := by
              by_cases h2 : x = 40 ∨ x = 41 ∨ x = 33
              · rw [lexA_one h2] at h1 h5 ⊢
                simp only [List.head?_cons, ne_eq, Option.some.injEq, List.cons.injEq, and_true] at h1 h5
                have : x = 41 := by omega
                subst this
                rfl
              · by_cases h3 : (x = 38 ∨ x = 124) ∧ r.head? = some x
                · cases r with
                  | nil => simp at h3
                  | cons y r =>
                    simp at h3
                    obtain ⟨h3, rfl⟩ := h3
                    rw [lexA_two h3]
                    rcases h3 with rfl | rfl <;> rfl
                · rw [lexA_bad hx h2 h3 h4]; rfl
            rw [this]
            rfl
          · rw [if_neg hid]
            obtain ⟨hl1, hl2⟩ := idLen_let hid
            rw [hl2, take_tw, drop_tw]
            have hlex := lexA_id (l := r) hl1
            rw [hlex] at h1 h5 hl ⊢
            simp only [List.head?_cons, ne_eq, Option.some.injEq] at h1 h5
            unfold facT
            rw [if_neg h1, if_neg h5, if_pos (word_let hl1)]
            have hlen : ((x :: r).dropWhile isId).length < p.r.length := by
              rw [drop_let hl1]
              have := dropWhile_len isId r
              simp only [List.length_cons] at htl; omega
            unfold wordT
            by_cases ht1 : (x :: r).takeWhile isId = trueL
            · rw [if_pos ht1, if_pos ht1]
              exact ⟨_, rfl, rfl, by simp, by simp only; rw [← hl], hlen⟩
            · rw [if_neg ht1, if_neg ht1]
              by_cases ht2 : (x :: r).takeWhile isId = falseL
              · rw [if_pos ht2, if_pos ht2]
                exact ⟨_, rfl, rfl, by simp, by simp only; rw [← hl], hlen⟩
              · rw [if_neg ht2, if_neg ht2]
                exact ⟨_, rfl, rfl, rfl, by simp only; rw [← hl], hlen⟩

theorem whole_cor (ix : List Nat → Option Nat) (n : Nat) : CorO (wholeP ix n) (wholeT ix n) :=
  chain_cor (op := [124, 124]) (o := 5) (mk := .or) (fun p => skip_two (by omega) p) (fun _ _ _ => rfl) (fun _ _ => rfl) (chain_cor (op := [38, 38]) (o := 4) (mk := .and) (fun p => skip_two (by omega) p) (fun _ _ _ => rfl) (fun _ _ => rfl) (fac_cor ix n) (facT_lim ix n)) (chainT_lim (facT_lim ix n))

theorem lexA_empty (l : List Nat) : trimB l = [] ↔ lexA l = ([], true) := by
  rw [← lexA_trim l]
  cases h : trimB l with
  | nil => simp [lexA_nil]
  | cons x r =>
    have hx := trim_head h
    simp only [reduceCtorEq, false_iff]
    intro e
    by_cases h2 : x = 40 ∨ x = 41 ∨ x = 33
    · rw [lexA_one h2] at e; simp at e
    · by_cases h3 : (x = 38 ∨ x = 124) ∧ r.head? = some x
      · cases r with
        | nil => simp at h3
        | cons y r =>
          simp at h3
          obtain ⟨h3, rfl⟩ := h3
          rw [lexA_two h3] at e; simp at e
      · by_cases h4 : isLet x = true
        · rw [lexA_id h4] at e; simp at e
        · rw [lexA_bad hx h2 h3 (by simpa using h4)] at e; simp at e

/-- What a parse yields, by tokens. -/
def parseK (names : List (List Nat)) (s : List Nat) : List Fz × Int := if numsOk names then
    if (lexA s).2 then match wholeT (ixN names) (s.length + 1) (lexA s).1 with
      | none => ([], 31)
      | some (t, u, ts) => if ts ≠ [] then ([], 31) else if u then ([], 3) else if 512 < szF t then ([], 2) else (postF t 0, 0)
    else ([], 31)
  else ([], 1)
theorem parse_tok (names : List (List Nat)) (s : List Nat) : parseP names s = parseK names s := by
  unfold parseP parseK
  by_cases hn : numsOk names = true
  · rw [if_pos hn, if_pos hn]
    have hc := whole_cor (ixN names) (s.length + 1) ⟨s, [], false⟩
    simp only at hc
    cases ho : wholeT (ixN names) (s.length + 1) (lexA s).1 with
    | none =>
      rw [ho] at hc
      simp only [Cor] at hc
      rw [hc]
      simp
    | some q =>
      obtain ⟨t, v, ts⟩ := q
      rw [ho] at hc
      obtain ⟨p2, e1, e2, e3, e4, e5⟩ := hc
      rw [e1]
      simp only at e2 e3 e4 ⊢
      simp only [List.nil_append, List.length_nil, Bool.false_or] at e2 e3
      have he := lexA_empty p2.r
      rw [e4] at he
      by_cases hf : (lexA s).2 = true
      · rw [if_pos hf]
        rw [hf] at he
        simp only [Prod.mk.injEq, and_true] at he
        rw [e3, e2, postF_len]
        by_cases hts : ts = []
        · rw [if_neg (fun h => h (he.2 hts)), if_neg (c := ts ≠ []) (fun h => h hts)]
        · rw [if_pos (fun h => hts (he.1 h)), if_pos hts]
      · rw [if_neg hf, if_pos (fun h => hf (by have := congrArg Prod.snd (he.1 h); simpa using this))]
  · rw [if_neg hn, if_neg hn]
end

section
open Go Go.RowKit

/-! ### Printed formulas, token by token -/
def parK (b : Bool) (ts : List (List Nat)) : List (List Nat) := if b then [40] :: ts ++ [[41]] else ts
def tkC (nm : List (List Nat)) : Fm → List (List Nat)
  | .c b => [if b then trueL else falseL]
  | .v n => [nm[n]?.getD []]
  | .not a => [33] :: parK (decide (lvlF a < 2)) (tkC nm a)
  | .and a b => parK (decide (lvlF a < 1)) (tkC nm a) ++ [38, 38] :: parK (decide (lvlF b < 2)) (tkC nm b)
  | .or a b => tkC nm a ++ [124, 124] :: parK (decide (lvlF b < 1)) (tkC nm b)

theorem tkC_pos (nm : List (List Nat)) : ∀ t : Fm, 0 < (tkC nm t).length
  | .c _ => Nat.one_pos
  | .v _ => Nat.one_pos
  | .not _ => Nat.succ_pos _
  | .and _ _ => by simp only [tkC, List.length_append, List.length_cons]; omega
  | .or _ _ => by simp only [tkC, List.length_append, List.length_cons]; omega
/-- What follows does not go on with an identifier. -/
def Stop (l : List Nat) : Prop := ∀ b r, l = b :: r → isId b = false
theorem Stop.nil : Stop [] := fun _ _ h => by cases h
theorem Stop.cons {b : Nat} {r : List Nat} (h : isId b = false) : Stop (b :: r) := fun _ _ e => by cases e; exact h
/-- A word's bytes. -/
def WordB (w : List Nat) : Prop := (∃ b r, w = b :: r ∧ isLet b = true) ∧ ∀ x ∈ w, isId x = true
theorem tw_stop {w rest : List Nat} (h : ∀ x ∈ w, isId x = true) (hs : Stop rest) : (w ++ rest).takeWhile isId = w ∧ (w ++ rest).dropWhile isId = rest := by
  induction w with
  | nil =>
    cases rest with
    | nil => exact ⟨rfl, rfl⟩
    | cons b r =>
      have := hs b r rfl
      rw [List.nil_append, List.takeWhile_cons, List.dropWhile_cons, if_neg (by rw [this]; decide), if_neg (by rw [this]; decide)]
      exact ⟨rfl, rfl⟩
  | cons x w ih =>
    obtain ⟨h1, h2⟩ := ih (fun y hy => h y (by simp [hy]))
    have hx := h x (by simp)
    rw [List.cons_append, List.takeWhile_cons, List.dropWhile_cons, if_pos hx, if_pos hx, h1, h2]
    exact ⟨rfl, rfl⟩
theorem lex_word {w rest : List Nat} (h : WordB w) (hs : Stop rest) : lexA (w ++ rest) = (w :: (lexA rest).1, (lexA rest).2) := by
  obtain ⟨⟨b, r, rfl, hb⟩, hall⟩ := h
  obtain ⟨h1, h2⟩ := tw_stop hall hs
  rw [List.cons_append] at h1 h2 ⊢
  rw [lexA_id hb, h1, h2]
theorem wordB_isWord {w : List Nat} (h : WordB w) : isWord w = true := by
  obtain ⟨⟨b, r, rfl, hb⟩, _⟩ := h
  exact hb
theorem nameOk_word {s : List Nat} (h : nameOk s = true) : WordB s ∧ s ≠ trueL ∧ s ≠ falseL := by
  unfold nameOk at h
  rw [decide_eq_true_eq] at h
  obtain ⟨h1, h2, h3, h4⟩ := h
  cases s with
  | nil => exact absurd rfl h1
  | cons b r =>
    obtain ⟨hl, he⟩ := idLen_let (x := b) (r := r) (by rw [h2]; simp)
    rw [he] at h2
    refine ⟨⟨⟨b, r, rfl, hl⟩, fun x hx => ?_⟩, h3, h4⟩
    have : (b :: r).takeWhile isId = b :: r := (List.takeWhile_prefix isId).eq_of_length h2
    rw [← this] at hx
    exact (List.all_eq_true.1 (List.all_takeWhile (p := isId) (l := b :: r))) x hx
theorem true_word : WordB trueL := ⟨⟨116, _, rfl, by decide⟩, by decide⟩
theorem false_word : WordB falseL := ⟨⟨102, _, rfl, by decide⟩, by decide⟩
/-- The names are words, each known by its number. -/
structure NmOk (nm : List (List Nat)) (ix : List Nat → Option Nat) : Prop where
  word : ∀ k, k < nm.length → nameOk (nm[k]?.getD []) = true
  ix : ∀ k, k < nm.length → ix (nm[k]?.getD []) = some k

/-- These bytes are these tokens, whatever follows. -/
def LexS (s : List Nat) (ts : List (List Nat)) : Prop := ∀ rest, Stop rest → lexA (s ++ rest) = (ts ++ (lexA rest).1, (lexA rest).2)
theorem LexS.par {s : List Nat} {ts : List (List Nat)} (h : LexS s ts) (b : Bool) : LexS (parF b s) (parK b ts) := by
  cases b with
  | false => exact h
  | true =>
    intro rest hs
    show lexA (40 :: s ++ [41] ++ rest) = _
    rw [List.cons_append, List.cons_append, lexA_one (by omega), List.append_assoc, List.singleton_append, h (41 :: rest) (Stop.cons (by decide)), lexA_one (by omega)]
    simp [parK]
theorem LexS.word {w : List Nat} (h : WordB w) : LexS w [w] := fun _ hs => lex_word h hs
theorem lex_print {nm : List (List Nat)} {ix : List Nat → Option Nat} (hn : NmOk nm ix) : ∀ (t : Fm), VarsIn nm.length t → LexS (prC nm t) (tkC nm t)
  | .c b, _ => by
    cases b with
    | true => exact LexS.word true_word
    | false => exact LexS.word false_word
  | .v n, h => LexS.word (nameOk_word (hn.word n h)).1
  | .not a, h => by
    have ih := (lex_print hn a h).par (decide (lvlF a < 2))
    intro rest hs
    show lexA (33 :: parF _ _ ++ rest) = _
    rw [List.cons_append, lexA_one (by omega), ih rest hs]
    rfl
  | .and a b, h => by
    have iha := (lex_print hn a h.1).par (decide (lvlF a < 1))
    have ihb := (lex_print hn b h.2).par (decide (lvlF b < 2))
    intro rest hs
    show lexA (parF _ _ ++ [32, 38, 38, 32] ++ parF _ _ ++ rest) = _
    rw [List.append_assoc, List.append_assoc, show [32, 38, 38, 32] ++ (parF (decide (lvlF b < 2)) (prC nm b) ++ rest) = 32 :: 38 :: 38 :: 32 :: (parF (decide (lvlF b < 2)) (prC nm b) ++ rest) from rfl]
    rw [iha _ (Stop.cons (b := 32) (by decide)), lexA_sp (by omega), lexA_two (by omega), lexA_sp (by omega), ihb rest hs]
    simp [tkC]
  | .or a b, h => by
    have iha := lex_print hn a h.1
    have ihb := (lex_print hn b h.2).par (decide (lvlF b < 1))
    intro rest hs
    show lexA (parF (decide (lvlF a < 0)) _ ++ [32, 124, 124, 32] ++ parF _ _ ++ rest) = _
    rw [show decide (lvlF a < 0) = false from decide_eq_false (by omega)]
    show lexA (prC nm a ++ [32, 124, 124, 32] ++ parF _ _ ++ rest) = _
    rw [List.append_assoc, List.append_assoc, show [32, 124, 124, 32] ++ (parF (decide (lvlF b < 1)) (prC nm b) ++ rest) = 32 :: 124 :: 124 :: 32 :: (parF (decide (lvlF b < 1)) (prC nm b) ++ rest) from rfl]
    rw [iha _ (Stop.cons (b := 32) (by decide)), lexA_sp (by omega), lexA_two (by omega), lexA_sp (by omega), ihb rest hs]
    simp [tkC]
theorem lex_prF {nm : List (List Nat)} {ix : List Nat → Option Nat} (hn : NmOk nm ix) (t : Fm) (h : VarsIn nm.length t) : lexA (prF nm 0 t) = (tkC nm t, true) := by
  have := lex_print hn t h [] Stop.nil
  unfold prF
  rw [show decide (lvlF t < 0) = false from decide_eq_false (by omega)]
  simp only [List.append_nil, lexA_nil] at this
  exact this

theorem loopT_fuel {op : List Nat} {mk : Fm → Fm → Fm} {opt : List (List Nat) → Option (Fm × Bool × List (List Nat))} (hl : LimT opt) : ∀ (m m' : Nat) (a : Fm) (u : Bool) (ts : List (List Nat)), ts.length < m → ts.length < m' → loopT op mk opt m a u ts = loopT op mk opt m' a u ts
  | 0, _, _, _, _, h, _ => by omega
  | _ + 1, 0, _, _, _, _, h => by omega
  | m + 1, m' + 1, a, u, ts, h, h' => by
    unfold loopT
    split
    · cases ho : opt ts.tail with
      | none => rfl
      | some q =>
        obtain ⟨b, v, ts'⟩ := q
        have := hl _ _ _ _ ho
        rw [List.length_tail] at this
        exact loopT_fuel hl m m' _ _ ts' (by omega) (by omega)
    · rfl
theorem loopT_stop {op : List Nat} {mk : Fm → Fm → Fm} {opt : List (List Nat) → Option (Fm × Bool × List (List Nat))} {m : Nat} {a : Fm} {u : Bool} {ts : List (List Nat)} (h : ts.head? ≠ some op) : loopT op mk opt (m + 1) a u ts = some (a, u, ts) := by
  unfold loopT; rw [if_neg h]
theorem loopT_op {op : List Nat} {mk : Fm → Fm → Fm} {opt : List (List Nat) → Option (Fm × Bool × List (List Nat))} (hl : LimT opt) {m : Nat} {a b : Fm} {u v : Bool} {ts ts' : List (List Nat)} (h : opt ts = some (b, v, ts')) : loopT op mk opt ((op :: ts).length + m) a u (op :: ts) = loopT op mk opt (ts'.length + 1) (mk a b) (u || v) ts' := by
  have := hl _ _ _ _ h
  have e : loopT op mk opt ((ts.length + m) + 1) a u (op :: ts) = loopT op mk opt (ts.length + m) (mk a b) (u || v) ts' := by
    rw [loopT, List.head?_cons, if_pos rfl, List.tail_cons, h]
  rw [List.length_cons, show ts.length + 1 + m = (ts.length + m) + 1 by omega, e]
  exact loopT_fuel hl _ _ _ _ _ (by omega) (by omega)

theorem wordT_c (ix : List Nat → Option Nat) (b : Bool) : wordT ix (if b then trueL else falseL) = (.c b, false) := by cases b <;> rfl
theorem wordT_v {nm : List (List Nat)} {ix : List Nat → Option Nat} (hn : NmOk nm ix) {n : Nat} (h : n < nm.length) : wordT ix (nm[n]?.getD []) = (.v n, false) := by
  obtain ⟨_, h1, h2⟩ := nameOk_word (hn.word n h)
  unfold wordT
  rw [if_neg h1, if_neg h2, hn.ix n h]; rfl
theorem not_sym {w : List Nat} (h : WordB w) : w ≠ [33] ∧ w ≠ [40] ∧ w ≠ [41] ∧ w ≠ [38, 38] ∧ w ≠ [124, 124] := by
  obtain ⟨⟨b, r, rfl, hb⟩, _⟩ := h
  refine ⟨?_, ?_, ?_, ?_, ?_⟩ <;> (intro e; cases e; exact absurd hb (by decide))
theorem facT_word {ix : List Nat → Option Nat} {n : Nat} {w : List Nat} {rest : List (List Nat)} (h : WordB w) : facT ix (n + 1) (w :: rest) = some ((wordT ix w).1, (wordT ix w).2, rest) := by
  have := not_sym h
  unfold facT
  rw [if_neg this.1, if_neg this.2.1, if_pos (wordB_isWord h)]

abbrev andT (ix : List Nat → Option Nat) (n : Nat) := chainT [38, 38] Fm.and (facT ix n)
abbrev orT (ix : List Nat → Option Nat) (n : Nat) := chainT [124, 124] Fm.or (andT ix n)
theorem andT_lim (ix : List Nat → Option Nat) (n : Nat) : LimT (andT ix n) := chainT_lim (facT_lim ix n)
theorem chainT_of {op : List Nat} {mk : Fm → Fm → Fm} {opt : List (List Nat) → Option (Fm × Bool × List (List Nat))} {ts ts' : List (List Nat)} {a : Fm} {u : Bool} (h : opt ts = some (a, u, ts')) : chainT op mk opt ts = loopT op mk opt (ts'.length + 1) a u ts' := by
  unfold chainT; rw [h]
def FacOk (nm : List (List Nat)) (ix : List Nat → Option Nat) (n : Nat) : Prop := ∀ (t : Fm) (rest : List (List Nat)), VarsIn nm.length t → (parK (decide (lvlF t < 2)) (tkC nm t)).length ≤ n → facT ix n (parK (decide (lvlF t < 2)) (tkC nm t) ++ rest) = some (t, false, rest)
theorem and_ok {nm : List (List Nat)} {ix : List Nat → Option Nat} {n : Nat} (F : FacOk nm ix n) : ∀ (t : Fm) (rest : List (List Nat)), VarsIn nm.length t → (parK (decide (lvlF t < 1)) (tkC nm t)).length ≤ n →
    andT ix n (parK (decide (lvlF t < 1)) (tkC nm t) ++ rest) = loopT [38, 38] .and (facT ix n) (rest.length + 1) t false rest := by
  intro t
  have base : ∀ t, decide (lvlF t < 1) = decide (lvlF t < 2) → ∀ rest, VarsIn nm.length t → (parK (decide (lvlF t < 1)) (tkC nm t)).length ≤ n → andT ix n (parK (decide (lvlF t < 1)) (tkC nm t) ++ rest) = loopT [38, 38] .and (facT ix n) (rest.length + 1) t false rest := by
    intro t e rest hv hl
    rw [e] at hl ⊢
    exact chainT_of (F t rest hv hl)
  induction t with
  | c b => exact base _ rfl
  | v k => exact base _ rfl
  | not a _ => exact base _ rfl
  | or a b _ _ => exact base _ rfl
  | and a b iha _ =>
    intro rest hv hl
    have e : parK (decide (lvlF (.and a b) < 1)) (tkC nm (.and a b)) = parK (decide (lvlF a < 1)) (tkC nm a) ++ [38, 38] :: parK (decide (lvlF b < 2)) (tkC nm b) := rfl
    rw [e, List.length_append, List.length_cons] at hl
    rw [e, List.append_assoc, List.cons_append, iha _ hv.1 (by omega)]
    have hf := F b rest hv.2 (by omega)
    exact loopT_op (facT_lim ix n) (m := 1) hf
theorem or_ok {nm : List (List Nat)} {ix : List Nat → Option Nat} {n : Nat} (F : FacOk nm ix n) : ∀ (t : Fm) (rest : List (List Nat)), VarsIn nm.length t → (tkC nm t).length ≤ n → rest.head? ≠ some [38, 38] →
    orT ix n (tkC nm t ++ rest) = loopT [124, 124] .or (andT ix n) (rest.length + 1) t false rest := by
  intro t
  have base : ∀ t, decide (lvlF t < 1) = false → ∀ rest, VarsIn nm.length t → (tkC nm t).length ≤ n → rest.head? ≠ some [38, 38] → orT ix n (tkC nm t ++ rest) = loopT [124, 124] .or (andT ix n) (rest.length + 1) t false rest := by
    intro t e rest hv hl hs
    have := and_ok F t rest hv (by rw [e]; exact hl)
    rw [e, loopT_stop hs] at this
    exact chainT_of this
  induction t with
  | c b => exact base _ rfl
  | v k => exact base _ rfl
  | not a _ => exact base _ rfl
  | and a b _ _ => exact base _ rfl
  | or a b iha _ =>
    intro rest hv hl hs
    have e : tkC nm (.or a b) = tkC nm a ++ [124, 124] :: parK (decide (lvlF b < 1)) (tkC nm b) := rfl
    rw [e, List.length_append, List.length_cons] at hl
    rw [e, List.append_assoc, List.cons_append, iha _ hv.1 (by omega) (by simp)]
    have hf := and_ok F b rest hv.2 (by omega)
    rw [loopT_stop hs] at hf
    exact loopT_op (andT_lim ix n) (m := 1) hf
theorem fac_ok {nm : List (List Nat)} {ix : List Nat → Option Nat} (hn : NmOk nm ix) : ∀ n, FacOk nm ix n
  | 0 => fun t rest hv hl => by
    have : ∀ (b : Bool), 0 < (parK b (tkC nm t)).length := by
      intro b
      have := tkC_pos nm t
      cases b with
      | true => simp [parK]
      | false => exact this
    have := this (decide (lvlF t < 2)); omega
  | n + 1 => fun t rest hv hl => by
    have F := fac_ok hn n
    by_cases h2 : lvlF t < 2
    · rw [decide_eq_true h2] at hl ⊢
      have e : parK true (tkC nm t) ++ rest = [40] :: (tkC nm t ++ [41] :: rest) := by simp [parK]
      have hl' : (tkC nm t).length ≤ n := by simp [parK] at hl; omega
      rw [e]
      have ho := or_ok F t ([41] :: rest) hv hl' (by simp)
      rw [loopT_stop (by simp)] at ho
      unfold facT
      have ho' : chainT [124, 124] Fm.or (chainT [38, 38] Fm.and (facT ix n)) (tkC nm t ++ [41] :: rest) = some (t, false, [41] :: rest) := ho
      rw [if_neg (by decide), if_pos rfl, ho']
      simp
    · rw [decide_eq_false h2] at hl ⊢
      cases t with
      | c b =>
        show facT ix (n + 1) ((if b then trueL else falseL) :: rest) = _
        rw [facT_word (by cases b; exact false_word; exact true_word), wordT_c]
      | v k =>
        show facT ix (n + 1) (nm[k]?.getD [] :: rest) = _
        rw [facT_word (nameOk_word (hn.word k hv)).1, wordT_v hn hv]
      | not a =>
        have hl' : (parK (decide (lvlF a < 2)) (tkC nm a)).length ≤ n := by
          have : (parK false (tkC nm (.not a))).length = (parK (decide (lvlF a < 2)) (tkC nm a)).length + 1 := rfl
          omega
        show facT ix (n + 1) ([33] :: (parK (decide (lvlF a < 2)) (tkC nm a) ++ rest)) = _
        unfold facT
        rw [if_pos rfl, F a rest hv hl']
      | and a b => exact absurd (show lvlF (.and a b) < 2 by simp [lvlF]) h2
      | or a b => exact absurd (show lvlF (.or a b) < 2 by simp [lvlF]) h2
/-- A printed formula is parsed to itself. -/
theorem whole_print {nm : List (List Nat)} {ix : List Nat → Option Nat} (hn : NmOk nm ix) (t : Fm) (hv : VarsIn nm.length t) {n : Nat} (hl : (tkC nm t).length ≤ n) : wholeT ix n (tkC nm t) = some (t, false, []) := by
  have := or_ok (fac_ok hn n) t [] hv hl (by simp)
  rw [List.append_nil, loopT_stop (by simp)] at this
  exact this

theorem tok_le : ∀ (n : Nat) (l : List Nat), (lexF n l).1.length ≤ l.length
  | 0, l => Nat.zero_le _
  | n + 1, [] => Nat.zero_le _
  | n + 1, b :: l => by
    have i1 := tok_le n l
    have i2 := tok_le n l.tail
    rw [List.length_tail] at i2
    simp only [lexF, List.length_cons]
    split
    · omega
    · split
      · simp only [List.length_cons]; omega
      · split
        · rename_i h
          cases l with
          | nil => simp at h
          | cons y l => simp only [List.length_cons] at i2 ⊢; omega
        · split
          · rename_i h
            have i3 := tok_le n (l.dropWhile isId)
            have := dropWhile_len isId l
            rw [drop_let h]
            simp only [List.length_cons]; omega
          · simp
theorem parse_print {nm : List (List Nat)} (hn : numsOk nm = true) (hi : NmOk nm (ixN nm)) (t : Fm) (hv : VarsIn nm.length t) (hs : szF t ≤ 512) : parseP nm (prF nm 0 t) = (postF t 0, 0) := by
  rw [parse_tok]
  unfold parseK
  have hl := lex_prF hi t hv
  have hle : (tkC nm t).length ≤ (prF nm 0 t).length + 1 := by
    have := tok_le (prF nm 0 t).length (prF nm 0 t)
    have e : lexF (prF nm 0 t).length (prF nm 0 t) = (tkC nm t, true) := hl
    rw [e] at this
    exact Nat.le_succ_of_le this
  rw [if_pos hn, hl]
  simp only
  rw [if_pos trivial, whole_print hi t hv hle]
  simp only
  rw [if_neg (c := ([] : List (List Nat)) ≠ []) (fun h => h rfl), if_neg (by decide), if_neg (by omega)]
end

section
open Go Go.RowKit

/-! ### Lists of names -/
theorem keys_in (a : ByteArray) (v : Value) : ∀ m : List (ByteArray × Value), a ∈ m.map Prod.fst → (assocSet a v m).map Prod.fst = m.map Prod.fst
  | [], h => by simp at h
  | (b, u) :: m, h => by
    unfold assocSet
    by_cases e : a = b
    · subst e; rw [if_pos rfl]; rfl
    · rw [if_neg e, List.map_cons, keys_in a v m (by simp only [List.map_cons, List.mem_cons] at h; exact h.resolve_left e)]; rfl
theorem keys_out (a : ByteArray) (v : Value) : ∀ m : List (ByteArray × Value), a ∉ m.map Prod.fst → (assocSet a v m).map Prod.fst = m.map Prod.fst ++ [a]
  | [], _ => rfl
  | (b, u) :: m, h => by
    simp only [List.map_cons, List.mem_cons, not_or] at h
    unfold assocSet
    rw [if_neg h.1, List.map_cons, keys_out a v m h.2]; rfl
theorem len_in (a : ByteArray) (v : Value) (m : List (ByteArray × Value)) (h : a ∈ m.map Prod.fst) : (assocSet a v m).length = m.length := by
  have := congrArg List.length (keys_in a v m h); simpa using this
theorem len_out (a : ByteArray) (v : Value) (m : List (ByteArray × Value)) (h : a ∉ m.map Prod.fst) : (assocSet a v m).length = m.length + 1 := by
  have := congrArg List.length (keys_out a v m h); simpa using this
theorem nameM_le : ∀ (l : List (List Nat)) (i : Nat) (m : List (ByteArray × Value)), (nameM l i m).length ≤ m.length + l.length
  | [], _, m => Nat.le_refl _
  | s :: l, i, m => by
    have := nameM_le l (i + 1) (assocSet (strOf s) (.int .i64 (i : Nat)) m)
    simp only [nameM, List.length_cons]
    by_cases h : strOf s ∈ m.map Prod.fst
    · have := len_in _ (.int .i64 (i : Nat)) m h; omega
    · have := len_out _ (.int .i64 (i : Nat)) m h; omega
theorem nameM_iff : ∀ (l : List (List Nat)) (i : Nat) (m : List (ByteArray × Value)), (∀ s ∈ l, ∀ x ∈ s, x < 256) → ((nameM l i m).length = m.length + l.length ↔ l.Nodup ∧ ∀ s ∈ l, strOf s ∉ m.map Prod.fst)
  | [], _, m, _ => by simp [nameM]
  | s :: l, i, m, hb => by
    have hs := hb s (by simp)
    have ih := nameM_iff l (i + 1) (assocSet (strOf s) (.int .i64 (i : Nat)) m) (fun t ht => hb t (by simp [ht]))
    have hle := nameM_le l (i + 1) (assocSet (strOf s) (.int .i64 (i : Nat)) m)
    simp only [nameM, List.length_cons]
    by_cases h : strOf s ∈ m.map Prod.fst
    · have hl := len_in _ (.int .i64 (i : Nat)) m h
      constructor
      · intro e; omega
      · intro e; exact absurd h (e.2 s (by simp))
    · have hl := len_out _ (.int .i64 (i : Nat)) m h
      have hk := keys_out _ (.int .i64 (i : Nat)) m h
      rw [show m.length + (l.length + 1) = (assocSet (strOf s) (.int .i64 (i : Nat)) m).length + l.length by omega, ih, hk]
      simp only [List.nodup_cons, List.mem_append, not_or, List.mem_cons]
      constructor
      · rintro ⟨h1, h2⟩
        refine ⟨⟨fun hm => (h2 s hm).2.1 rfl, h1⟩, fun t ht => ?_⟩
        rcases ht with rfl | ht
        · exact h
        · exact (h2 t ht).1
      · rintro ⟨⟨h1, h2⟩, h3⟩
        refine ⟨h2, fun t ht => ⟨h3 t (.inr ht), fun e => ?_, by simp⟩⟩
        have := strOf_inj (hb t (by simp [ht])) hs e
        subst this
        exact h1 ht
theorem numsOk_iff {names : List (List Nat)} (hb : NamesOk names) : numsOk names = true ↔ names.all nameOk = true ∧ names.Nodup ∧ names.length ≤ 64 := by
  have := nameM_iff names 0 [] (fun s hs => (hb s hs).1)
  simp only [List.length_nil, Nat.zero_add, List.map_nil, List.not_mem_nil, not_false_eq_true, implies_true, and_true] at this
  unfold numsOk
  rw [decide_eq_true_eq, this]
theorem ixR_no (l : List Nat) : ∀ (names : List (List Nat)) (i : Nat) (acc : Option Nat), l ∉ names → ixR l names i acc = acc
  | [], _, _, _ => rfl
  | s :: names, i, acc, h => by
    simp only [List.mem_cons, not_or] at h
    rw [ixR, if_neg (fun e => h.1 e.symm), ixR_no l names (i + 1) acc h.2]
theorem ixR_at : ∀ (names : List (List Nat)) (k i : Nat) (acc : Option Nat) (l : List Nat), names.Nodup → names[k]? = some l → ixR l names i acc = some (i + k)
  | [], k, i, acc, l, _, h => by simp at h
  | s :: names, 0, i, acc, l, hn, h => by
    simp at h
    subst h
    rw [ixR, if_pos rfl, ixR_no _ _ _ _ (List.nodup_cons.1 hn).1]; rfl
  | s :: names, k + 1, i, acc, l, hn, h => by
    have h' : names[k]? = some l := by simpa using h
    rw [ixR, ixR_at names k (i + 1) _ l (List.nodup_cons.1 hn).2 h']
    congr 1; omega
theorem nmOk_of {names : List (List Nat)} (hb : NamesOk names) (h : numsOk names = true) : NmOk names (ixN names) := by
  obtain ⟨h1, h2, h3⟩ := (numsOk_iff hb).1 h
  refine ⟨fun k hk => ?_, fun k hk => ?_⟩
  · rw [List.getElem?_eq_getElem hk]
    exact List.all_eq_true.1 h1 _ (List.getElem_mem hk)
  · rw [List.getElem?_eq_getElem hk]
    have := ixR_at names k 0 none names[k] h2 (List.getElem?_eq_getElem hk)
    rw [Nat.zero_add] at this
    exact this

/-! ### Postorder -/
theorem rep_post : ∀ (t : Fm) (pre suf : List Fz), RepF (pre ++ postF t pre.length ++ suf) t (pre.length + szF t - 1)
  | .c b, pre, suf => by
    show (pre ++ [_] ++ suf)[pre.length + 1 - 1]? = _
    simp
  | .v n, pre, suf => by
    show (pre ++ [_] ++ suf)[pre.length + 1 - 1]? = _
    simp
  | .not a, pre, suf => by
    have pa := szF_pos a
    refine ⟨pre.length + szF a - 1, by simp only [szF]; omega, ?_, ?_⟩
    · simp only [szF, postF]
      rw [List.append_assoc, List.getElem?_append_right (by omega), List.append_assoc, List.getElem?_append_right (by rw [postF_len]; omega), postF_len, show pre.length + (szF a + 1) - 1 - pre.length - szF a = 0 by omega]
      rfl
    · have := rep_post a pre ([⟨3, 0, ((pre.length + szF a - 1 : Nat) : Int), 0⟩] ++ suf)
      simpa [postF] using this
  | .and a b, pre, suf => by
    have pa := szF_pos a
    have pb := szF_pos b
    refine ⟨pre.length + szF a - 1, pre.length + szF a + szF b - 1, by simp only [szF]; omega, by simp only [szF]; omega, ?_, ?_, ?_⟩
    · simp only [szF, postF]
      rw [List.append_assoc, List.getElem?_append_right (by omega), List.append_assoc, List.getElem?_append_right (by rw [List.length_append, postF_len, postF_len]; omega), List.length_append, postF_len, postF_len, show pre.length + (szF a + szF b + 1) - 1 - pre.length - (szF a + szF b) = 0 by omega]
      rfl
    · have := rep_post a pre (postF b (pre.length + szF a) ++ [⟨4, 0, ((pre.length + szF a - 1 : Nat) : Int), ((pre.length + szF a + szF b - 1 : Nat) : Int)⟩] ++ suf)
      simpa [postF] using this
    · have := rep_post b (pre ++ postF a pre.length) ([⟨4, 0, ((pre.length + szF a - 1 : Nat) : Int), ((pre.length + szF a + szF b - 1 : Nat) : Int)⟩] ++ suf)
      rw [List.length_append, postF_len] at this
      simpa [postF] using this
  | .or a b, pre, suf => by
    have pa := szF_pos a
    have pb := szF_pos b
    refine ⟨pre.length + szF a - 1, pre.length + szF a + szF b - 1, by simp only [szF]; omega, by simp only [szF]; omega, ?_, ?_, ?_⟩
    · simp only [szF, postF]
      rw [List.append_assoc, List.getElem?_append_right (by omega), List.append_assoc, List.getElem?_append_right (by rw [List.length_append, postF_len, postF_len]; omega), List.length_append, postF_len, postF_len, show pre.length + (szF a + szF b + 1) - 1 - pre.length - (szF a + szF b) = 0 by omega]
      rfl
    · have := rep_post a pre (postF b (pre.length + szF a) ++ [⟨5, 0, ((pre.length + szF a - 1 : Nat) : Int), ((pre.length + szF a + szF b - 1 : Nat) : Int)⟩] ++ suf)
      simpa [postF] using this
    · have := rep_post b (pre ++ postF a pre.length) ([⟨5, 0, ((pre.length + szF a - 1 : Nat) : Int), ((pre.length + szF a + szF b - 1 : Nat) : Int)⟩] ++ suf)
      rw [List.length_append, postF_len] at this
      simpa [postF] using this
theorem treeOf_post (t : Fm) : treeOf (postF t 0) = t := by
  refine treeOf_eq ?_
  have := rep_post t [] []
  rw [postF_len]
  simpa using this

theorem app_cases {α : Type} {l m : List α} {i : Nat} {x : α} (h : (l ++ m)[i]? = some x) : (i < l.length ∧ l[i]? = some x) ∨ (l.length ≤ i ∧ m[i - l.length]? = some x) := by
  by_cases hi : i < l.length
  · rw [List.getElem?_append_left hi] at h; exact .inl ⟨hi, h⟩
  · rw [List.getElem?_append_right (by omega)] at h; exact .inr ⟨by omega, h⟩
theorem one_cases {α : Type} {y x : α} {i : Nat} (h : [y][i]? = some x) : i = 0 ∧ x = y := by
  cases i with
  | zero => simp at h; exact ⟨rfl, h.symm⟩
  | succ i => simp at h
theorem fzP_not {j i : Nat} (h : j < i) : fzP ⟨3, 0, (j : Nat), 0⟩ i := by
  refine ⟨show 0 ≤ fAr 3 by decide, rfl, ?_, rfl⟩
  show if 0 < fAr 3 then _ else _
  rw [if_pos (by decide)]; simp only; omega
theorem fzP_and {j k i : Nat} (h : j < i) (h' : k < i) : fzP ⟨4, 0, (j : Nat), (k : Nat)⟩ i := by
  refine ⟨show 0 ≤ fAr 4 by decide, rfl, ?_, ?_⟩
  · show if 0 < fAr 4 then _ else _
    rw [if_pos (by decide)]; simp only; omega
  · show if 1 < fAr 4 then _ else _
    rw [if_pos (by decide)]; simp only; omega
theorem fzP_or {j k i : Nat} (h : j < i) (h' : k < i) : fzP ⟨5, 0, (j : Nat), (k : Nat)⟩ i := by
  refine ⟨show 0 ≤ fAr 5 by decide, rfl, ?_, ?_⟩
  · show if 0 < fAr 5 then _ else _
    rw [if_pos (by decide)]; simp only; omega
  · show if 1 < fAr 5 then _ else _
    rw [if_pos (by decide)]; simp only; omega
theorem post_node : ∀ (t : Fm) (k i : Nat) (x : Fz), VarsIn 64 t → (postF t k)[i]? = some x → fzP x (k + i)
  | .c b, k, i, x, _, h => by
    obtain ⟨rfl, rfl⟩ := one_cases h
    cases b <;> exact ⟨by decide, rfl, rfl, rfl⟩
  | .v n, k, i, x, hv, h => by
    obtain ⟨rfl, rfl⟩ := one_cases h
    refine ⟨show 0 ≤ fAr 2 by decide, ?_, rfl, rfl⟩
    have : n < 64 := hv
    rw [if_pos rfl]; simp only; omega
  | .not a, k, i, x, hv, h => by
    have pa := szF_pos a
    rcases app_cases h with ⟨hi, h⟩ | ⟨hi, h⟩
    · exact post_node a k i x hv h
    · rw [postF_len] at hi h
      obtain ⟨e, rfl⟩ := one_cases h
      exact fzP_not (by omega)
  | .and a b, k, i, x, hv, h => by
    have pa := szF_pos a
    have pb := szF_pos b
    rcases app_cases h with ⟨hi, h⟩ | ⟨hi, h⟩
    · rcases app_cases h with ⟨hi, h⟩ | ⟨hi, h⟩
      · exact post_node a k i x hv.1 h
      · rw [postF_len] at hi h
        have := post_node b (k + szF a) (i - szF a) x hv.2 h
        rwa [show k + szF a + (i - szF a) = k + i by omega] at this
    · rw [List.length_append, postF_len, postF_len] at hi h
      obtain ⟨e, rfl⟩ := one_cases h
      exact fzP_and (by omega) (by omega)
  | .or a b, k, i, x, hv, h => by
    have pa := szF_pos a
    have pb := szF_pos b
    rcases app_cases h with ⟨hi, h⟩ | ⟨hi, h⟩
    · rcases app_cases h with ⟨hi, h⟩ | ⟨hi, h⟩
      · exact post_node a k i x hv.1 h
      · rw [postF_len] at hi h
        have := post_node b (k + szF a) (i - szF a) x hv.2 h
        rwa [show k + szF a + (i - szF a) = k + i by omega] at this
    · rw [List.length_append, postF_len, postF_len] at hi h
      obtain ⟨e, rfl⟩ := one_cases h
      exact fzP_or (by omega) (by omega)
theorem fkids_app (l m : List Fz) : fkids (l ++ m) = fkids l ++ fkids m := by simp [fkids]
theorem fkids_not (j : Nat) : fkids [⟨3, 0, (j : Nat), 0⟩] = [j] := by
  show fKids _ ++ [] = _
  unfold fKids
  rw [show fAr (Fz.o ⟨3, 0, (j : Nat), 0⟩) = 1 from rfl]; simp
theorem fkids_and (j k : Nat) : fkids [⟨4, 0, (j : Nat), (k : Nat)⟩] = [j, k] := by
  show fKids _ ++ [] = _
  unfold fKids
  rw [show fAr (Fz.o ⟨4, 0, (j : Nat), (k : Nat)⟩) = 2 from rfl]; simp
theorem fkids_or (j k : Nat) : fkids [⟨5, 0, (j : Nat), (k : Nat)⟩] = [j, k] := by
  show fKids _ ++ [] = _
  unfold fKids
  rw [show fAr (Fz.o ⟨5, 0, (j : Nat), (k : Nat)⟩) = 2 from rfl]; simp
theorem post_kids : ∀ (t : Fm) (k j : Nat), (fkids (postF t k)).count j = if k ≤ j ∧ j + 1 < k + szF t then 1 else 0
  | .c b, k, j => by
    rw [if_neg (by simp only [szF]; omega)]
    cases b <;> rfl
  | .v n, k, j => by
    rw [if_neg (by simp only [szF]; omega)]; rfl
  | .not a, k, j => by
    have pa := szF_pos a
    show _ = if k ≤ j ∧ j + 1 < k + (szF a + 1) then 1 else 0
    simp only [postF]
    rw [fkids_app, List.count_append, fkids_not, post_kids a k j, List.count_singleton]
    simp only [beq_iff_eq]
    by_cases h1 : k ≤ j ∧ j + 1 < k + szF a
    · rw [if_pos h1, if_neg (by omega), if_pos (by omega)]
    · rw [if_neg h1]
      by_cases h2 : k + szF a - 1 = j
      · rw [if_pos h2, if_pos (by omega)]
      · rw [if_neg h2, if_neg (by omega)]
  | .and a b, k, j => by
    have pa := szF_pos a
    have pb := szF_pos b
    show _ = if k ≤ j ∧ j + 1 < k + (szF a + szF b + 1) then 1 else 0
    simp only [postF]
    rw [fkids_app, fkids_app, List.count_append, List.count_append, fkids_and, post_kids a k j, post_kids b _ j, List.count_cons, List.count_singleton]
    simp only [beq_iff_eq]
    by_cases h1 : k ≤ j ∧ j + 1 < k + szF a
    · rw [if_pos h1, if_neg (by omega), if_neg (by omega), if_neg (by omega), if_pos (by omega)]
    · rw [if_neg h1]
      by_cases h2 : k + szF a ≤ j ∧ j + 1 < k + szF a + szF b
      · rw [if_pos h2, if_neg (by omega), if_neg (by omega), if_pos (by omega)]
      · rw [if_neg h2]
        by_cases h3 : k + szF a - 1 = j
        · rw [if_neg (by omega), if_pos h3, if_pos (by omega)]
        · rw [if_neg h3]
          by_cases h4 : k + szF a + szF b - 1 = j
          · rw [if_pos h4, if_pos (by omega)]
          · rw [if_neg h4, if_neg (by omega)]
  | .or a b, k, j => by
    have pa := szF_pos a
    have pb := szF_pos b
    show _ = if k ≤ j ∧ j + 1 < k + (szF a + szF b + 1) then 1 else 0
    simp only [postF]
    rw [fkids_app, fkids_app, List.count_append, List.count_append, fkids_or, post_kids a k j, post_kids b _ j, List.count_cons, List.count_singleton]
    simp only [beq_iff_eq]
    by_cases h1 : k ≤ j ∧ j + 1 < k + szF a
    · rw [if_pos h1, if_neg (by omega), if_neg (by omega), if_neg (by omega), if_pos (by omega)]
    · rw [if_neg h1]
      by_cases h2 : k + szF a ≤ j ∧ j + 1 < k + szF a + szF b
      · rw [if_pos h2, if_neg (by omega), if_neg (by omega), if_pos (by omega)]
      · rw [if_neg h2]
        by_cases h3 : k + szF a - 1 = j
        · rw [if_neg (by omega), if_pos h3, if_pos (by omega)]
        · rw [if_neg h3]
          by_cases h4 : k + szF a + szF b - 1 = j
          · rw [if_pos h4, if_pos (by omega)]
          · rw [if_neg h4, if_neg (by omega)]
theorem post_FV {t : Fm} (hv : VarsIn 64 t) (hs : szF t ≤ 512) : FV (postF t 0) := by
  refine ⟨by rw [postF_len]; exact hs, by rw [postF_len]; exact szF_pos t, fun i x hx => by have := post_node t 0 i x hv hx; rwa [Nat.zero_add] at this, fun i hi => ?_⟩
  rw [post_kids, if_pos]
  rw [postF_len] at hi
  omega
instance decVars (n : Nat) : ∀ t : Fm, Decidable (VarsIn n t)
  | .c _ => isTrue trivial
  | .v k => inferInstanceAs (Decidable (k < n))
  | .not a => decVars n a
  | .and a b => @instDecidableAnd _ _ (decVars n a) (decVars n b)
  | .or a b => @instDecidableAnd _ _ (decVars n a) (decVars n b)
theorem VarsIn.mono {n m : Nat} (h : n ≤ m) : ∀ {t : Fm}, VarsIn n t → VarsIn m t
  | .c _, _ => trivial
  | .v _, hv => Nat.lt_of_lt_of_le hv h
  | .not a, hv => VarsIn.mono (t := a) h hv
  | .and _ _, hv => ⟨VarsIn.mono h hv.1, VarsIn.mono h hv.2⟩
  | .or _ _, hv => ⟨VarsIn.mono h hv.1, VarsIn.mono h hv.2⟩
theorem post_vars : ∀ (t : Fm) (n k : Nat), VarsIn n t → varsOk n (postF t k)
  | .c b, n, k, _ => fun x hx ho => by
    simp only [postF, List.mem_singleton] at hx
    subst hx
    cases b <;> simp at ho
  | .v j, n, k, hv => fun x hx ho => by
    simp only [postF, List.mem_singleton] at hx
    subst hx
    have : j < n := hv
    simp only; omega
  | .not a, n, k, hv => fun x hx ho => by
    simp only [postF, List.mem_append, List.mem_singleton] at hx
    rcases hx with hx | rfl
    · exact post_vars a n k hv x hx ho
    · simp at ho
  | .and a b, n, k, hv => fun x hx ho => by
    simp only [postF, List.mem_append, List.mem_singleton] at hx
    rcases hx with (hx | hx) | rfl
    · exact post_vars a n k hv.1 x hx ho
    · exact post_vars b n _ hv.2 x hx ho
    · simp at ho
  | .or a b, n, k, hv => fun x hx ho => by
    simp only [postF, List.mem_append, List.mem_singleton] at hx
    rcases hx with (hx | hx) | rfl
    · exact post_vars a n k hv.1 x hx ho
    · exact post_vars b n _ hv.2 x hx ho
    · simp at ho
theorem print_post {names : List (List Nat)} (h : numsOk names = true) {t : Fm} (hv : VarsIn names.length t) (hl : names.length ≤ 64) (hs : szF t ≤ 512) : printP names (postF t 0) = (prF names 0 t, 0) := by
  rw [printP_ok h (post_FV (hv.mono hl) hs) (post_vars t _ 0 hv), treeOf_post]
end
end Go.Proofs.YtedopgkbajhanaaGreatDoor
