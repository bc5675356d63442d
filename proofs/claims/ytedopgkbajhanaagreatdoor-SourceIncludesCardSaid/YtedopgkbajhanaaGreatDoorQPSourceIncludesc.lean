/-
  What PSourceIncludes rests on, part 3: the texts of this work, without what it does not use; printed by a program (wip/shake.py).
  Conditions: none.
-/
import Derived.Test.YtedopgkbajhanaaGreatDoorQPSourceIncludesb
namespace Go.Proofs.YtedopgkbajhanaaGreatDoor
section
section
open Go Go.RowKit

/-! ### Tokens -/
/-- The tokens of an expression, and whether all bytes belong to one. -/
def lexF : Nat → List Nat → List (List Nat) × Bool
  | 0, _ => ([], true)
  | _ + 1, [] => ([], true)
  | n + 1, b :: l =>
    if b = 32 ∨ b = 9 then lexF n l
    else if b = 40 ∨ b = 41 ∨ b = 33 then ([b] :: (lexF n l).1, (lexF n l).2)
    else if (b = 38 ∨ b = 124) ∧ l.head? = some b then ([b, b] :: (lexF n l.tail).1, (lexF n l.tail).2)
    else if isLet b then ((b :: l).takeWhile isId :: (lexF n ((b :: l).dropWhile isId)).1, (lexF n ((b :: l).dropWhile isId)).2)
    else ([], false)
def lexA (l : List Nat) : List (List Nat) × Bool := lexF l.length l

theorem isId_let {b : Nat} (h : isLet b = true) : isId b = true := by unfold isId; rw [h]; rfl
theorem drop_let {b : Nat} {l : List Nat} (h : isLet b = true) : (b :: l).dropWhile isId = l.dropWhile isId := by rw [List.dropWhile_cons, if_pos (isId_let h)]
theorem dropWhile_len (p : Nat → Bool) (l : List Nat) : (l.dropWhile p).length ≤ l.length := (List.dropWhile_suffix p).length_le

theorem lexF_fuel : ∀ (n m : Nat) (l : List Nat), l.length ≤ n → l.length ≤ m → lexF n l = lexF m l
  | n, m, [], _, _ => by cases n <;> cases m <;> rfl
  | 0, _, b :: l, h, _ => by simp at h
  | _ + 1, 0, b :: l, _, h => by simp at h
  | n + 1, m + 1, b :: l, h, h' => by
    simp only [List.length_cons] at h h'
    have e1 := lexF_fuel n m l (by omega) (by omega)
    have e2 := lexF_fuel n m l.tail (by rw [List.length_tail]; omega) (by rw [List.length_tail]; omega)
    have hd := dropWhile_len isId l
    have e3 := lexF_fuel n m (l.dropWhile isId) (by omega) (by omega)
    simp only [lexF]
    split
    · exact e1
    · split
      · rw [e1]
      · split
        · rw [e2]
        · split
          · rename_i hl
            rw [drop_let hl, e3]
          · rfl

theorem lexA_nil : lexA [] = ([], true) := rfl
theorem lexA_sp {b : Nat} {l : List Nat} (h : b = 32 ∨ b = 9) : lexA (b :: l) = lexA l := by
  show lexF (l.length + 1) (b :: l) = _
  rw [lexF, if_pos h]; rfl
theorem lexA_one {b : Nat} {l : List Nat} (h : b = 40 ∨ b = 41 ∨ b = 33) : lexA (b :: l) = ([b] :: (lexA l).1, (lexA l).2) := by
  show lexF (l.length + 1) (b :: l) = _
  rw [lexF, if_neg (by omega), if_pos h]; rfl
theorem lexA_two {b : Nat} {l : List Nat} (h : b = 38 ∨ b = 124) : lexA (b :: b :: l) = ([b, b] :: (lexA l).1, (lexA l).2) := by
  show lexF ((b :: l).length + 1) (b :: b :: l) = _
  rw [lexF, if_neg (by omega), if_neg (by omega), if_pos ⟨h, rfl⟩]
  have := lexF_fuel (b :: l).length l.length l (by simp) (Nat.le_refl _)
  rw [show (b :: l).tail = l from rfl, this]; rfl
theorem lexA_id {b : Nat} {l : List Nat} (h : isLet b = true) : lexA (b :: l) = ((b :: l).takeWhile isId :: (lexA ((b :: l).dropWhile isId)).1, (lexA ((b :: l).dropWhile isId)).2) := by
  have hb : b = 95 ∨ (97 ≤ b ∧ b ≤ 122) ∨ (65 ≤ b ∧ b ≤ 90) := by unfold isLet at h; simp at h; omega
  show lexF (l.length + 1) (b :: l) = _
  rw [lexF, if_neg (by omega), if_neg (by omega), if_neg (by omega), if_pos h, drop_let h]
  have := lexF_fuel l.length (l.dropWhile isId).length (l.dropWhile isId) (dropWhile_len _ _) (Nat.le_refl _)
  rw [this]; rfl
theorem lexA_bad {b : Nat} {l : List Nat} (h1 : ¬ (b = 32 ∨ b = 9)) (h2 : ¬ (b = 40 ∨ b = 41 ∨ b = 33)) (h3 : ¬ ((b = 38 ∨ b = 124) ∧ l.head? = some b)) (h4 : isLet b = false) : lexA (b :: l) = ([], false) := by
  show lexF (l.length + 1) (b :: l) = _
  rw [lexF, if_neg h1, if_neg h2, if_neg h3, if_neg (by rw [h4]; decide)]
theorem lexA_trim (l : List Nat) : lexA (trimB l) = lexA l := by
  induction l with
  | nil => rfl
  | cons b l ih =>
    unfold trimB at *
    rw [List.dropWhile_cons]
    split
    · rename_i h
      rw [ih, lexA_sp]
      simpa using h
    · rfl
theorem trim_head {l : List Nat} {b : Nat} {r : List Nat} (h : trimB l = b :: r) : ¬ (b = 32 ∨ b = 9) := by
  unfold trimB at h
  induction l with
  | nil => cases h
  | cons x l ih =>
    rw [List.dropWhile_cons] at h
    split at h
    · exact ih h
    · rename_i hx
      cases h
      simpa using hx

/-- A symbol is skipped exactly if it is the next token. -/
theorem skip_one {b : Nat} (hb : b = 40 ∨ b = 41 ∨ b = 33) (p : Ps) : match skipP [b] p with
    | (true, p') => lexA p.r = ([b] :: (lexA p'.r).1, (lexA p'.r).2) ∧ p'.f = p.f ∧ p'.u = p.u ∧ p'.r.length < p.r.length
    | (false, p') => (lexA p.r).1.head? ≠ some [b] ∧ p' = { p with r := trimB p.r } := by
  have hl := lexA_trim p.r
  have htl := trimB_len p.r
  rw [skipP_eq]
  cases ht : trimB p.r with
  | nil =>
    rw [ht] at hl
    simp only [List.isPrefixOf]
    refine ⟨?_, by simp⟩
    rw [← hl]; simp [lexA_nil]
  | cons x r =>
    have hx := trim_head ht
    rw [ht] at hl htl
    by_cases hxb : x = b
    · subst hxb
      simp only [List.isPrefixOf, beq_self_eq_true, Bool.true_and]
      refine ⟨by rw [← hl, lexA_one hb]; simp, trivial, trivial, by simp at htl ⊢; omega⟩
    · have : [b].isPrefixOf (x :: r) = false := by simp [List.isPrefixOf, Ne.symm hxb]
      rw [this]
      simp only
      refine ⟨fun h => ?_, by simp⟩
      rw [← hl] at h
      by_cases h2 : x = 40 ∨ x = 41 ∨ x = 33
      · rw [lexA_one h2] at h; simp at h; exact hxb h
      · by_cases h3 : (x = 38 ∨ x = 124) ∧ r.head? = some x
        · cases r with
          | nil => simp at h3
          | cons y r =>
            simp at h3
            obtain ⟨h3, rfl⟩ := h3
            rw [lexA_two h3] at h; simp at h
        · by_cases h4 : isLet x = true
          · rw [lexA_id h4, List.takeWhile_cons, if_pos (isId_let h4)] at h
            simp at h
            exact hxb h.1
          · rw [lexA_bad hx h2 h3 (by simpa using h4)] at h; simp at h
theorem skip_two {b : Nat} (hb : b = 38 ∨ b = 124) (p : Ps) : match skipP [b, b] p with
    | (true, p') => lexA p.r = ([b, b] :: (lexA p'.r).1, (lexA p'.r).2) ∧ p'.f = p.f ∧ p'.u = p.u ∧ p'.r.length < p.r.length
    | (false, p') => (lexA p.r).1.head? ≠ some [b, b] ∧ p' = { p with r := trimB p.r } := by
  have hl := lexA_trim p.r
  have htl := trimB_len p.r
  rw [skipP_eq]
  cases ht : trimB p.r with
  | nil =>
    rw [ht] at hl
    simp only [List.isPrefixOf]
    refine ⟨?_, by simp⟩
    rw [← hl]; simp [lexA_nil]
  | cons x r =>
    have hx := trim_head ht
    rw [ht] at hl htl
    by_cases hxb : x = b ∧ r.head? = some b
    · obtain ⟨rfl, hr⟩ := hxb
      cases r with
      | nil => simp at hr
      | cons y r =>
        simp at hr
        subst hr
        simp only [List.isPrefixOf, beq_self_eq_true, Bool.true_and]
        refine ⟨by rw [← hl, lexA_two hb]; simp, trivial, trivial, by simp at htl ⊢; omega⟩
    · have : [b, b].isPrefixOf (x :: r) = false := by
        rw [← Bool.not_eq_true]
        intro h
        cases r with
        | nil => simp [List.isPrefixOf] at h
        | cons y r => simp [List.isPrefixOf] at h; exact hxb ⟨h.1.symm, by simp [h.2]⟩
      rw [this]
      simp only
      refine ⟨fun h => ?_, by simp⟩
      rw [← hl] at h
      by_cases h2 : x = 40 ∨ x = 41 ∨ x = 33
      · rw [lexA_one h2] at h; simp at h
      · by_cases h3 : (x = 38 ∨ x = 124) ∧ r.head? = some x
        · cases r with
          | nil => simp at h3
          | cons y r =>
            simp at h3
            obtain ⟨h3, rfl⟩ := h3
            rw [lexA_two h3] at h; simp at h
            exact hxb ⟨h, by simp [h]⟩
        · by_cases h4 : isLet x = true
          · have hid : isId b = false := by rcases hb with rfl | rfl <;> decide
            rw [lexA_id h4, List.takeWhile_cons, if_pos (isId_let h4)] at h
            simp at h
            have hi := isId_let h4
            rw [h.1, hid] at hi; cases hi
          · rw [lexA_bad hx h2 h3 (by simpa using h4)] at h; simp at h

/-! ### A parser of tokens -/
def loopT (op : List Nat) (mk : Fm → Fm → Fm) (opd : List (List Nat) → Option (Fm × Bool × List (List Nat))) : Nat → Fm → Bool → List (List Nat) → Option (Fm × Bool × List (List Nat))
  | 0, _, _, _ => none
  | m + 1, a, u, ts => if ts.head? = some op then
      match opd ts.tail with
      | none => none
      | some (b, v, ts') => loopT op mk opd m (mk a b) (u || v) ts'
    else some (a, u, ts)
def chainT (op : List Nat) (mk : Fm → Fm → Fm) (opd : List (List Nat) → Option (Fm × Bool × List (List Nat))) (ts : List (List Nat)) : Option (Fm × Bool × List (List Nat)) := match opd ts with
  | none => none
  | some (a, u, ts') => loopT op mk opd (ts'.length + 1) a u ts'
/-- Is this token an identifier? -/
def isWord (t : List Nat) : Bool := match t with
  | [] => false
  | b :: _ => isLet b
def wordT (ix : List Nat → Option Nat) (t : List Nat) : Fm × Bool := if t = trueL then (.c true, false) else if t = falseL then (.c false, false) else (.v ((ix t).getD 0), (ix t).isNone)
def facT (ix : List Nat → Option Nat) : Nat → List (List Nat) → Option (Fm × Bool × List (List Nat))
  | 0, _ => none
  | _ + 1, [] => none
  | n + 1, t :: ts => if t = [33] then
      match facT ix n ts with
      | none => none
      | some (a, u, ts') => some (.not a, u, ts')
    else if t = [40] then
      match chainT [124, 124] .or (chainT [38, 38] .and (facT ix n)) ts with
      | none => none
      | some (a, u, ts') => if ts'.head? = some [41] then some (a, u, ts'.tail) else none
    else if isWord t then some ((wordT ix t).1, (wordT ix t).2, ts) else none
def wholeT (ix : List Nat → Option Nat) (n : Nat) (ts : List (List Nat)) : Option (Fm × Bool × List (List Nat)) := chainT [124, 124] .or (chainT [38, 38] .and (facT ix n)) ts

/-- The nodes of a formula behind k others, operands first. -/
def postF : Fm → Nat → List Fz
  | .c b, _ => [⟨if b then 1 else 0, 0, 0, 0⟩]
  | .v n, _ => [⟨2, (n : Nat), 0, 0⟩]
  | .not a, k => postF a k ++ [⟨3, 0, ((k + szF a - 1 : Nat) : Int), 0⟩]
  | .and a b, k => postF a k ++ postF b (k + szF a) ++ [⟨4, 0, ((k + szF a - 1 : Nat) : Int), ((k + szF a + szF b - 1 : Nat) : Int)⟩]
  | .or a b, k => postF a k ++ postF b (k + szF a) ++ [⟨5, 0, ((k + szF a - 1 : Nat) : Int), ((k + szF a + szF b - 1 : Nat) : Int)⟩]
theorem postF_len : ∀ (t : Fm) (k : Nat), (postF t k).length = szF t
  | .c _, _ => rfl
  | .v _, _ => rfl
  | .not a, k => by simp [postF, szF, postF_len a k]
  | .and a b, k => by simp [postF, szF, postF_len a k, postF_len b, Nat.add_assoc]
  | .or a b, k => by simp [postF, szF, postF_len a k, postF_len b, Nat.add_assoc]
theorem szF_pos : ∀ t : Fm, 0 < szF t
  | .c _ => Nat.one_pos
  | .v _ => Nat.one_pos
  | .not _ => Nat.succ_pos _
  | .and _ _ => Nat.succ_pos _
  | .or _ _ => Nat.succ_pos _

/-- The byte parser does what the token parser does. -/
def Cor (p : Ps) (r : Option (Nat × Ps)) (rt : Option (Fm × Bool × List (List Nat))) : Prop := match rt with
  | none => r = none
  | some (t, u, ts) => ∃ p', r = some (p.f.length + szF t - 1, p') ∧ p'.f = p.f ++ postF t p.f.length ∧ p'.u = (p.u || u) ∧ lexA p'.r = (ts, (lexA p.r).2) ∧ p'.r.length < p.r.length

def CorO (opd : Ps → Option (Nat × Ps)) (opt : List (List Nat) → Option (Fm × Bool × List (List Nat))) : Prop := ∀ p, Cor p (opd p) (opt (lexA p.r).1)
/-- An operand takes at least one token. -/
def LimT (opt : List (List Nat) → Option (Fm × Bool × List (List Nat))) : Prop := ∀ ts t u ts', opt ts = some (t, u, ts') → ts'.length < ts.length

theorem loop_cor {op : List Nat} {o : Int} {mk : Fm → Fm → Fm} {opd : Ps → Option (Nat × Ps)} {opt : List (List Nat) → Option (Fm × Bool × List (List Nat))}
    (hsk : ∀ p, match skipP op p with
      | (true, p') => lexA p.r = (op :: (lexA p'.r).1, (lexA p'.r).2) ∧ p'.f = p.f ∧ p'.u = p.u ∧ p'.r.length < p.r.length
      | (false, p') => (lexA p.r).1.head? ≠ some op ∧ p' = { p with r := trimB p.r })
    (hmk : ∀ a b k, postF (mk a b) k = postF a k ++ postF b (k + szF a) ++ [⟨o, 0, ((k + szF a - 1 : Nat) : Int), ((k + szF a + szF b - 1 : Nat) : Int)⟩]) (hsz : ∀ a b, szF (mk a b) = szF a + szF b + 1) (H : CorO opd opt) (hl : LimT opt) :
    ∀ (m m' : Nat) (a : Fm) (u : Bool) (p0 p : Ps), p.f = p0.f ++ postF a p0.f.length → p.u = (p0.u || u) → (lexA p.r).2 = (lexA p0.r).2 → p.r.length < p0.r.length → p.r.length < m → (lexA p.r).1.length < m' →
      Cor p0 (loopP op o opd m (p0.f.length + szF a - 1) p) (loopT op mk opt m' a u (lexA p.r).1)
  | 0, m', a, u, p0, p, _, _, _, _, h, _ => by omega
  | m + 1, 0, a, u, p0, p, _, _, _, _, _, h => by omega
  | m + 1, m' + 1, a, u, p0, p, hf, hu, hl2, hr, hm, hm' => by
    have hs := hsk p
    unfold loopP loopT
    cases hsp : skipP op p with
    | mk b p1 =>
    rw [hsp] at hs
    cases b with
    | false =>
      obtain ⟨h1, rfl⟩ := hs
      rw [if_neg h1]
      refine ⟨_, rfl, hf, hu, ?_, ?_⟩
      · simp only; rw [lexA_trim, ← hl2]
      · have := trimB_len p.r; simp only; omega
    | true =>
      obtain ⟨h1, h2, h3, h4⟩ := hs
      have hh := congrArg Prod.fst h1
      have hh2 := congrArg Prod.snd h1
      simp only at hh hh2
      rw [hh, List.head?_cons, if_pos rfl, List.tail_cons]
      simp only
      have hc := H p1
      cases ho : opt (lexA p1.r).1 with
      | none =>
        rw [ho] at hc
        simp only [Cor] at hc ⊢
        rw [hc]
      | some q =>
        obtain ⟨t, v, ts⟩ := q
        rw [ho] at hc
        obtain ⟨p2, e1, e2, e3, e4, e5⟩ := hc
        rw [e1]
        simp only
        have hlt := hl _ _ _ _ ho
        have pa := szF_pos a
        have pt := szF_pos t
        rw [hf] at h2
        have hfl : p1.f.length = p0.f.length + szF a := by rw [h2, List.length_append, postF_len]
        have ih := loop_cor hsk hmk hsz H hl m m' (mk a t) (u || v) p0 { p2 with f := p2.f ++ [⟨o, 0, ((p0.f.length + szF a - 1 : Nat) : Int), ((p1.f.length + szF t - 1 : Nat) : Int)⟩] }
          (by simp only; rw [e2, h2, hmk, List.length_append, postF_len]; simp) (by simp only; rw [e3, h3, hu, Bool.or_assoc]) (by simp only; rw [e4, ← hh2, hl2]) (by simp only; omega) (by simp only; omega)
          (by simp only; rw [e4]; simp only; rw [hh] at hm'; simp only [List.length_cons] at hm'; omega)
        simp only [e4] at ih
        have hx : p2.f.length = p0.f.length + szF (mk a t) - 1 := by rw [e2, List.length_append, postF_len, hfl, hsz]; omega
        rw [hx]
        exact ih
theorem chain_cor {op : List Nat} {o : Int} {mk : Fm → Fm → Fm} {opd : Ps → Option (Nat × Ps)} {opt : List (List Nat) → Option (Fm × Bool × List (List Nat))}
    (hsk : ∀ p, match skipP op p with
      | (true, p') => lexA p.r = (op :: (lexA p'.r).1, (lexA p'.r).2) ∧ p'.f = p.f ∧ p'.u = p.u ∧ p'.r.length < p.r.length
      | (false, p') => (lexA p.r).1.head? ≠ some op ∧ p' = { p with r := trimB p.r })
    (hmk : ∀ a b k, postF (mk a b) k = postF a k ++ postF b (k + szF a) ++ [⟨o, 0, ((k + szF a - 1 : Nat) : Int), ((k + szF a + szF b - 1 : Nat) : Int)⟩]) (hsz : ∀ a b, szF (mk a b) = szF a + szF b + 1) (H : CorO opd opt) (hl : LimT opt) : CorO (chainP op o opd) (chainT op mk opt) := fun p => by
  have hc := H p
  unfold chainP chainT
  cases ho : opt (lexA p.r).1 with
  | none =>
    rw [ho] at hc
    simp only [Cor] at hc ⊢
    rw [hc]
  | some q =>
    obtain ⟨t, v, ts⟩ := q
    rw [ho] at hc
    obtain ⟨p2, e1, e2, e3, e4, e5⟩ := hc
    rw [e1]
    simp only
    have := loop_cor hsk hmk hsz H hl (p2.r.length + 1) (ts.length + 1) t v p p2 e2 e3 (by rw [e4]) e5 (by omega) (by rw [e4]; exact Nat.lt_succ_self _)
    rw [e4] at this
    exact this
theorem loopT_lim {op : List Nat} {mk : Fm → Fm → Fm} {opt : List (List Nat) → Option (Fm × Bool × List (List Nat))} (hl : LimT opt) : ∀ (m : Nat) (a : Fm) (u : Bool) (ts : List (List Nat)) (t : Fm) (v : Bool) (ts' : List (List Nat)), loopT op mk opt m a u ts = some (t, v, ts') → ts'.length ≤ ts.length
  | 0, a, u, ts, t, v, ts', h => by cases h
  | m + 1, a, u, ts, t, v, ts', h => by
    unfold loopT at h
    split at h
    · cases ho : opt ts.tail with
      | none => rw [ho] at h; cases h
      | some q =>
        obtain ⟨b, v2, ts2⟩ := q
        rw [ho] at h
        have h1 := loopT_lim hl m _ _ _ _ _ _ h
        have h2 := hl _ _ _ _ ho
        rw [List.length_tail] at h2
        omega
    · cases h; exact Nat.le_refl _
theorem chainT_lim {op : List Nat} {mk : Fm → Fm → Fm} {opt : List (List Nat) → Option (Fm × Bool × List (List Nat))} (hl : LimT opt) : LimT (chainT op mk opt) := fun ts t u ts' h => by
  unfold chainT at h
  cases ho : opt ts with
  | none => rw [ho] at h; cases h
  | some q =>
    obtain ⟨b, v2, ts2⟩ := q
    rw [ho] at h
    have h1 := loopT_lim hl _ _ _ _ _ _ _ h
    have h2 := hl _ _ _ _ ho
    omega
theorem facT_lim (ix : List Nat → Option Nat) : ∀ n, LimT (facT ix n)
  | 0 => fun ts t u ts' h => by cases h
  | n + 1 => fun ts t u ts' h => by
    have ih := facT_lim ix n
    cases ts with
    | nil => cases h
    | cons x ts =>
      unfold facT at h
      split at h
      · cases ho : facT ix n ts with
        | none => rw [ho] at h; cases h
        | some q =>
          obtain ⟨b, v2, ts2⟩ := q
          rw [ho] at h
          have := ih _ _ _ _ ho
          cases h; simp; omega
      · split at h
        · cases ho : chainT [124, 124] .or (chainT [38, 38] .and (facT ix n)) ts with
          | none => rw [ho] at h; cases h
          | some q =>
            obtain ⟨b, v2, ts2⟩ := q
            rw [ho] at h
            have := chainT_lim (op := [124, 124]) (mk := .or) (chainT_lim (op := [38, 38]) (mk := .and) ih) _ _ _ _ ho
            simp only at h
            split at h
            · cases h; simp [List.length_tail]; omega
            · cases h
        · split at h
          · cases h; simp
          · cases h

theorem take_tw (p : Nat → Bool) (l : List Nat) : l.take (l.takeWhile p).length = l.takeWhile p := by
  induction l with
  | nil => rfl
  | cons x l ih =>
    rw [List.takeWhile_cons]
    split
    · rw [List.length_cons, List.take_succ_cons, ih]
    · rfl
theorem drop_tw (p : Nat → Bool) (l : List Nat) : l.drop (l.takeWhile p).length = l.dropWhile p := by
  induction l with
  | nil => rfl
  | cons x l ih =>
    rw [List.takeWhile_cons, List.dropWhile_cons]
    split
    · rw [List.length_cons, List.drop_succ_cons, ih]
    · rfl
theorem trim_idem (l : List Nat) : trimB (trimB l) = trimB l := by
  cases h : trimB l with
  | nil => rfl
  | cons b r =>
    have := trim_head h
    unfold trimB
    rw [List.dropWhile_cons, if_neg (by simpa using this)]
theorem idLen_let {x : Nat} {r : List Nat} (h : idLen (x :: r) ≠ 0) : isLet x = true ∧ idLen (x :: r) = ((x :: r).takeWhile isId).length := by
  have e : idLen (x :: r) = if isDig x then 0 else ((x :: r).takeWhile isId).length := rfl
  rw [e] at h ⊢
  split at h
  · exact absurd rfl h
  · rename_i hd
    rw [if_neg hd]
    refine ⟨?_, rfl⟩
    rw [List.takeWhile_cons] at h
    split at h
    · rename_i hi
      unfold isId at hi
      rw [Bool.or_eq_true] at hi
      exact hi.resolve_right hd
    · exact absurd rfl h
theorem idLen_not {x : Nat} {r : List Nat} (h : idLen (x :: r) = 0) : isLet x = false := by
  have e : idLen (x :: r) = if isDig x then 0 else ((x :: r).takeWhile isId).length := rfl
  rw [e] at h
  rw [← Bool.not_eq_true]
  intro hl
  have hb : x = 95 ∨ (97 ≤ x ∧ x ≤ 122) ∨ (65 ≤ x ∧ x ≤ 90) := by unfold isLet at hl; simp at hl; omega
  rw [if_neg (by unfold isDig; simp; omega), List.takeWhile_cons, if_pos (isId_let hl)] at h
  simp at h
theorem word_let {x : Nat} {r : List Nat} (h : isLet x = true) : isWord ((x :: r).takeWhile isId) = true := by
  rw [List.takeWhile_cons, if_pos (isId_let h)]; exact h

theorem fac_cor (ix : List Nat → Option Nat) : ∀ n, CorO (facP ix n) (facT ix n)
  | 0 => fun p => rfl
  | n + 1 => fun p => by
    have ih := fac_cor ix n
    have hlim := facT_lim ix n
    have s1 := skip_one (b := 33) (by omega) p
    cases hk : skipP [33] p with
    | mk b p1 =>
    rw [hk] at s1
    cases b with
    | true =>
      obtain ⟨h1, h2, h3, h4⟩ := s1
      rw [facP_not ix n hk, h1]
      have hc := ih p1
      unfold facT
      rw [if_pos rfl]
      cases ho : facT ix n (lexA p1.r).1 with
      | none =>
        rw [ho] at hc
        simp only [Cor] at hc ⊢
        rw [hc]
      | some q =>
        obtain ⟨t, v, ts⟩ := q
        rw [ho] at hc
        obtain ⟨p2, e1, e2, e3, e4, e5⟩ := hc
        rw [e1]
        have pt := szF_pos t
        refine ⟨(putP ⟨3, 0, ((p1.f.length + szF t - 1 : Nat) : Int), 0⟩ p2).2, ?_, ?_, ?_, ?_, ?_⟩
        · simp only [putP]
          rw [e2, List.length_append, postF_len, h2]
          rfl
        · simp only [putP]
          rw [e2, h2]
          simp [postF]
        · simp only [putP]; rw [e3, h3]
        · simp only [putP]; rw [e4, h1]
        · simp only [putP]; omega
    | false =>
      obtain ⟨h1, rfl⟩ := s1
      have s2 := skip_one (b := 40) (by omega) { p with r := trimB p.r }
      cases hk2 : skipP [40] { p with r := trimB p.r } with
      | mk b p2 =>
      rw [hk2] at s2
      have htl := trimB_len p.r
      cases b with
      | true =>
        obtain ⟨h5, h6, h7, h8⟩ := s2
        simp only [lexA_trim] at h5 h6 h7 h8
        rw [facP_par ix n hk hk2, h5]
        have hc := chain_cor (op := [124, 124]) (o := 5) (mk := .or) (fun p => skip_two (by omega) p) (fun a b k => rfl) (fun a b => rfl) (chain_cor (op := [38, 38]) (o := 4) (mk := .and) (fun p => skip_two (by omega) p) (fun a b k => rfl) (fun a b => rfl) ih hlim) (chainT_lim hlim) p2
        unfold facT
        rw [if_neg (by decide), if_pos rfl]
        unfold wholeP
        cases ho : chainT [124, 124] Fm.or (chainT [38, 38] Fm.and (facT ix n)) (lexA p2.r).1 with
        | none =>
          rw [ho] at hc
          simp only [Cor] at hc ⊢
          rw [hc]
        | some q =>
          obtain ⟨t, v, ts⟩ := q
          rw [ho] at hc
          obtain ⟨p3, e1, e2, e3, e4, e5⟩ := hc
          rw [e1]
          simp only
          have s3 := skip_one (b := 41) (by omega) p3
          cases hk3 : skipP [41] p3 with
          | mk b p4 =>
          rw [hk3] at s3
          cases b with
          | true =>
            obtain ⟨g1, g2, g3, g4⟩ := s3
            have ht := congrArg Prod.fst (e4.symm.trans g1)
            have ht2 := congrArg Prod.snd (e4.symm.trans g1)
            simp only at ht ht2
            rw [ht, List.head?_cons, if_pos rfl, List.tail_cons]
            refine ⟨_, by rw [h6], by rw [g2, e2, h6], by rw [g3, e3, h7], ?_, ?_⟩
            · rw [h5]; simp only; rw [ht2]
            · omega
          | false =>
            obtain ⟨g1, rfl⟩ := s3
            rw [e4] at g1
            simp only at g1
            rw [if_neg g1]
            rfl
      | false =>
        obtain ⟨h5, rfl⟩ := s2
        simp only [lexA_trim] at h5
        rw [facP_id ix n hk hk2]
        simp only [trim_idem]
        have hl := lexA_trim p.r
        cases ht : trimB p.r with
        | nil =>
          rw [ht, lexA_nil] at hl
          rw [← hl]
          rfl
        | cons x r =>
          have hx := trim_head ht
          rw [ht] at hl htl
          rw [← hl] at h1 h5 ⊢
          by_cases hid : idLen (x :: r) = 0
          · rw [if_pos hid]
            have h4 := idLen_not hid
            have : facT ix (n + 1) (lexA (x :: r)).1 = none := by
              by_cases h2 : x = 40 ∨ x = 41 ∨ x = 33
              · rw [lexA_one h2] at h1 h5 ⊢
                simp only [List.head?_cons, ne_eq, Option.some.injEq, List.cons.injEq, and_true] at h1 h5
                have : x = 41 := by omega
                subst this
                rfl
              · by_cases h3 : (x = 38 ∨ x = 124) ∧ r.head? = some x
                · cases r with
                  | nil => simp at h3
                  | cons y r =>
                    simp at h3
                    obtain ⟨h3, rfl⟩ := h3
                    rw [lexA_two h3]
                    rcases h3 with rfl | rfl <;> rfl
                · rw [lexA_bad hx h2 h3 h4]; rfl
            rw [this]
            rfl
          · rw [if_neg hid]
            obtain ⟨hl1, hl2⟩ := idLen_let hid
            rw [hl2, take_tw, drop_tw]
            have hlex := lexA_id (l := r) hl1
            rw [hlex] at h1 h5 hl ⊢
            simp only [List.head?_cons, ne_eq, Option.some.injEq] at h1 h5
            unfold facT
            rw [if_neg h1, if_neg h5, if_pos (word_let hl1)]
            have hlen : ((x :: r).dropWhile isId).length < p.r.length := by
              rw [drop_let hl1]
              have := dropWhile_len isId r
              simp only [List.length_cons] at htl; omega
            unfold wordT
            by_cases ht1 : (x :: r).takeWhile isId = trueL
            · rw [if_pos ht1, if_pos ht1]
              exact ⟨_, rfl, rfl, by simp, by simp only; rw [← hl], hlen⟩
            · rw [if_neg ht1, if_neg ht1]
              by_cases ht2 : (x :: r).takeWhile isId = falseL
              · rw [if_pos ht2, if_pos ht2]
                exact ⟨_, rfl, rfl, by simp, by simp only; rw [← hl], hlen⟩
              · rw [if_neg ht2, if_neg ht2]
                exact ⟨_, rfl, rfl, rfl, by simp only; rw [← hl], hlen⟩

theorem whole_cor (ix : List Nat → Option Nat) (n : Nat) : CorO (wholeP ix n) (wholeT ix n) :=
  chain_cor (op := [124, 124]) (o := 5) (mk := .or) (fun p => skip_two (by omega) p) (fun _ _ _ => rfl) (fun _ _ => rfl) (chain_cor (op := [38, 38]) (o := 4) (mk := .and) (fun p => skip_two (by omega) p) (fun _ _ _ => rfl) (fun _ _ => rfl) (fac_cor ix n) (facT_lim ix n)) (chainT_lim (facT_lim ix n))

theorem lexA_empty (l : List Nat) : trimB l = [] ↔ lexA l = ([], true) := by
  rw [← lexA_trim l]
  cases h : trimB l with
  | nil => simp [lexA_nil]
  | cons x r =>
    have hx := trim_head h
    simp only [reduceCtorEq, false_iff]
    intro e
    by_cases h2 : x = 40 ∨ x = 41 ∨ x = 33
    · rw [lexA_one h2] at e; simp at e
    · by_cases h3 : (x = 38 ∨ x = 124) ∧ r.head? = some x
      · cases r with
        | nil => simp at h3
        | cons y r =>
          simp at h3
          obtain ⟨h3, rfl⟩ := h3
          rw [lexA_two h3] at e; simp at e
      · by_cases h4 : isLet x = true
        · rw [lexA_id h4] at e; simp at e
        · rw [lexA_bad hx h2 h3 (by simpa using h4)] at e; simp at e

/-- What a parse yields, by tokens. -/
def parseK (names : List (List Nat)) (s : List Nat) : List Fz × Int := if numsOk names then
    if (lexA s).2 then match wholeT (ixN names) (s.length + 1) (lexA s).1 with
      | none => ([], 31)
      | some (t, u, ts) => if ts ≠ [] then ([], 31) else if u then ([], 3) else if 512 < szF t then ([], 2) else (postF t 0, 0)
    else ([], 31)
  else ([], 1)
theorem parse_tok (names : List (List Nat)) (s : List Nat) : parseP names s = parseK names s := by
  unfold parseP parseK
  by_cases hn : numsOk names = true
  · rw [if_pos hn, if_pos hn]
    have hc := whole_cor (ixN names) (s.length + 1) ⟨s, [], false⟩
    simp only at hc
    cases ho : wholeT (ixN names) (s.length + 1) (lexA s).1 with
    | none =>
      rw [ho] at hc
      simp only [Cor] at hc
      rw [hc]
      simp
    | some q =>
      obtain ⟨t, v, ts⟩ := q
      rw [ho] at hc
      obtain ⟨p2, e1, e2, e3, e4, e5⟩ := hc
      rw [e1]
      simp only at e2 e3 e4 ⊢
      simp only [List.nil_append, List.length_nil, Bool.false_or] at e2 e3
      have he := lexA_empty p2.r
      rw [e4] at he
      by_cases hf : (lexA s).2 = true
      · rw [if_pos hf]
        rw [hf] at he
        simp only [Prod.mk.injEq, and_true] at he
        rw [e3, e2, postF_len]
        by_cases hts : ts = []
        · rw [if_neg (fun h => h (he.2 hts)), if_neg (c := ts ≠ []) (fun h => h hts)]
        · rw [if_pos (fun h => hts (he.1 h)), if_pos hts]
      · rw [if_neg hf, if_pos (fun h => hf (by have := congrArg Prod.snd (he.1 h); simpa using this))]
  · rw [if_neg hn, if_neg hn]
end

section
open Go Go.RowKit

/-! ### Printed formulas, token by token -/
def parK (b : Bool) (ts : List (List Nat)) : List (List Nat) := if b then [40] :: ts ++ [[41]] else ts
def tkC (nm : List (List Nat)) : Fm → List (List Nat)
  | .c b => [if b then trueL else falseL]
  | .v n => [nm[n]?.getD []]
  | .not a => [33] :: parK (decide (lvlF a < 2)) (tkC nm a)
  | .and a b => parK (decide (lvlF a < 1)) (tkC nm a) ++ [38, 38] :: parK (decide (lvlF b < 2)) (tkC nm b)
  | .or a b => tkC nm a ++ [124, 124] :: parK (decide (lvlF b < 1)) (tkC nm b)

theorem tkC_pos (nm : List (List Nat)) : ∀ t : Fm, 0 < (tkC nm t).length
  | .c _ => Nat.one_pos
  | .v _ => Nat.one_pos
  | .not _ => Nat.succ_pos _
  | .and _ _ => by simp only [tkC, List.length_append, List.length_cons]; omega
  | .or _ _ => by simp only [tkC, List.length_append, List.length_cons]; omega
/-- What follows does not go on with an identifier. -/
def Stop (l : List Nat) : Prop := ∀ b r, l = b :: r → isId b = false
theorem Stop.nil : Stop [] := fun _ _ h => by cases h
theorem Stop.cons {b : Nat} {r : List Nat} (h : isId b = false) : Stop (b :: r) := fun _ _ e => by cases e; exact h
/-- A word's bytes. -/
def WordB (w : List Nat) : Prop := (∃ b r, w = b :: r ∧ isLet b = true) ∧ ∀ x ∈ w, isId x = true
theorem tw_stop {w rest : List Nat} (h : ∀ x ∈ w, isId x = true) (hs : Stop rest) : (w ++ rest).takeWhile isId = w ∧ (w ++ rest).dropWhile isId = rest := by
  induction w with
  | nil =>
    cases rest with
    | nil => exact ⟨rfl, rfl⟩
    | cons b r =>
      have := hs b r rfl
      rw [List.nil_append, List.takeWhile_cons, List.dropWhile_cons, if_neg (by rw [this]; decide), if_neg (by rw [this]; decide)]
      exact ⟨rfl, rfl⟩
  | cons x w ih =>
    obtain ⟨h1, h2⟩ := ih (fun y hy => h y (by simp [hy]))
    have hx := h x (by simp)
    rw [List.cons_append, List.takeWhile_cons, List.dropWhile_cons, if_pos hx, if_pos hx, h1, h2]
    exact ⟨rfl, rfl⟩
theorem lex_word {w rest : List Nat} (h : WordB w) (hs : Stop rest) : lexA (w ++ rest) = (w :: (lexA rest).1, (lexA rest).2) := by
  obtain ⟨⟨b, r, rfl, hb⟩, hall⟩ := h
  obtain ⟨h1, h2⟩ := tw_stop hall hs
  rw [List.cons_append] at h1 h2 ⊢
  rw [lexA_id hb, h1, h2]
theorem wordB_isWord {w : List Nat} (h : WordB w) : isWord w = true := by
  obtain ⟨⟨b, r, rfl, hb⟩, _⟩ := h
  exact hb
theorem nameOk_word {s : List Nat} (h : nameOk s = true) : WordB s ∧ s ≠ trueL ∧ s ≠ falseL := by
  unfold nameOk at h
  rw [decide_eq_true_eq] at h
  obtain ⟨h1, h2, h3, h4⟩ := h
  cases s with
  | nil => exact absurd rfl h1
  | cons b r =>
    obtain ⟨hl, he⟩ := idLen_let (x := b) (r := r) (by rw [h2]; simp)
    rw [he] at h2
    refine ⟨⟨⟨b, r, rfl, hl⟩, fun x hx => ?_⟩, h3, h4⟩
    have : (b :: r).takeWhile isId = b :: r := (List.takeWhile_prefix isId).eq_of_length h2
    rw [← this] at hx
    exact (List.all_eq_true.1 (List.all_takeWhile (p := isId) (l := b :: r))) x hx
theorem true_word : WordB trueL := ⟨⟨116, _, rfl, by decide⟩, by decide⟩
theorem false_word : WordB falseL := ⟨⟨102, _, rfl, by decide⟩, by decide⟩
/-- The names are words, each known by its number. -/
structure NmOk (nm : List (List Nat)) (ix : List Nat → Option Nat) : Prop where
  word : ∀ k, k < nm.length → nameOk (nm[k]?.getD []) = true
  ix : ∀ k, k < nm.length → ix (nm[k]?.getD []) = some k

/-- These bytes are these tokens, whatever follows. -/
def LexS (s : List Nat) (ts : List (List Nat)) : Prop := ∀ rest, Stop rest → lexA (s ++ rest) = (ts ++ (lexA rest).1, (lexA rest).2)
theorem LexS.par {s : List Nat} {ts : List (List Nat)} (h : LexS s ts) (b : Bool) : LexS (parF b s) (parK b ts) := by
  cases b with
  | false => exact h
  | true =>
    intro rest hs
    show lexA (40 :: s ++ [41] ++ rest) = _
    rw [List.cons_append, List.cons_append, lexA_one (by omega), List.append_assoc, List.singleton_append, h (41 :: rest) (Stop.cons (by decide)), lexA_one (by omega)]
    simp [parK]
theorem LexS.word {w : List Nat} (h : WordB w) : LexS w [w] := fun _ hs => lex_word h hs
theorem lex_print {nm : List (List Nat)} {ix : List Nat → Option Nat} (hn : NmOk nm ix) : ∀ (t : Fm), VarsIn nm.length t → LexS (prC nm t) (tkC nm t)
  | .c b, _ => by
    cases b with
    | true => exact LexS.word true_word
    | false => exact LexS.word false_word
  | .v n, h => LexS.word (nameOk_word (hn.word n h)).1
  | .not a, h => by
    have ih := (lex_print hn a h).par (decide (lvlF a < 2))
    intro rest hs
    show lexA (33 :: parF _ _ ++ rest) = _
    rw [List.cons_append, lexA_one (by omega), ih rest hs]
    rfl
  | .and a b, h => by
    have iha := (lex_print hn a h.1).par (decide (lvlF a < 1))
    have ihb := (lex_print hn b h.2).par (decide (lvlF b < 2))
    intro rest hs
    show lexA (parF _ _ ++ [32, 38, 38, 32] ++ parF _ _ ++ rest) = _
    rw [List.append_assoc, List.append_assoc, show [32, 38, 38, 32] ++ (parF (decide (lvlF b < 2)) (prC nm b) ++ rest) = 32 :: 38 :: 38 :: 32 :: (parF (decide (lvlF b < 2)) (prC nm b) ++ rest) from rfl]
    rw [iha _ (Stop.cons (b := 32) (by decide)), lexA_sp (by omega), lexA_two (by omega), lexA_sp (by omega), ihb rest hs]
    simp [tkC]
  | .or a b, h => by
    have iha := lex_print hn a h.1
    have ihb := (lex_print hn b h.2).par (decide (lvlF b < 1))
    intro rest hs
    show lexA (parF (decide (lvlF a < 0)) _ ++ [32, 124, 124, 32] ++ parF _ _ ++ rest) = _
    rw [show decide (lvlF a < 0) = false from decide_eq_false (by omega)]
    show lexA (prC nm a ++ [32, 124, 124, 32] ++ parF _ _ ++ rest) = _
    rw [List.append_assoc, List.append_assoc, show [32, 124, 124, 32] ++ (parF (decide (lvlF b < 1)) (prC nm b) ++ rest) = 32 :: 124 :: 124 :: 32 :: (parF (decide (lvlF b < 1)) (prC nm b) ++ rest) from rfl]
    rw [iha _ (Stop.cons (b := 32) (by decide)), lexA_sp (by omega), lexA_two (by omega), lexA_sp (by omega), ihb rest hs]
    simp [tkC]
theorem lex_prF {nm : List (List Nat)} {ix : List Nat → Option Nat} (hn : NmOk nm ix) (t : Fm) (h : VarsIn nm.length t) : lexA (prF nm 0 t) = (tkC nm t, true) := by
  have := lex_print hn t h [] Stop.nil
  unfold prF
  rw [show decide (lvlF t < 0) = false from decide_eq_false (by omega)]
  simp only [List.append_nil, lexA_nil] at this
  exact this

theorem loopT_fuel {op : List Nat} {mk : Fm → Fm → Fm} {opt : List (List Nat) → Option (Fm × Bool × List (List Nat))} (hl : LimT opt) : ∀ (m m' : Nat) (a : Fm) (u : Bool) (ts : List (List Nat)), ts.length < m → ts.length < m' → loopT op mk opt m a u ts = loopT op mk opt m' a u ts
  | 0, _, _, _, _, h, _ => by omega
  | _ + 1, 0, _, _, _, _, h => by omega
  | m + 1, m' + 1, a, u, ts, h, h' => by
    unfold loopT
    split
    · cases ho : opt ts.tail with
      | none => rfl
      | some q =>
        obtain ⟨b, v, ts'⟩ := q
        have := hl _ _ _ _ ho
        rw [List.length_tail] at this
        exact loopT_fuel hl m m' _ _ ts' (by omega) (by omega)
    · rfl
theorem loopT_stop {op : List Nat} {mk : Fm → Fm → Fm} {opt : List (List Nat) → Option (Fm × Bool × List (List Nat))} {m : Nat} {a : Fm} {u : Bool} {ts : List (List Nat)} (h : ts.head? ≠ some op) : loopT op mk opt (m + 1) a u ts = some (a, u, ts) := by
  unfold loopT; rw [if_neg h]
theorem loopT_op {op : List Nat} {mk : Fm → Fm → Fm} {opt : List (List Nat) → Option (Fm × Bool × List (List Nat))} (hl : LimT opt) {m : Nat} {a b : Fm} {u v : Bool} {ts ts' : List (List Nat)} (h : opt ts = some (b, v, ts')) : loopT op mk opt ((op :: ts).length + m) a u (op :: ts) = loopT op mk opt (ts'.length + 1) (mk a b) (u || v) ts' := by
  have := hl _ _ _ _ h
  have e : loopT op mk opt ((ts.length + m) + 1) a u (op :: ts) = loopT op mk opt (ts.length + m) (mk a b) (u || v) ts' := by
    rw [loopT, List.head?_cons, if_pos rfl, List.tail_cons, h]
  rw [List.length_cons, show ts.length + 1 + m = (ts.length + m) + 1 by omega, e]
  exact loopT_fuel hl _ _ _ _ _ (by omega) (by omega)

theorem wordT_c (ix : List Nat → Option Nat) (b : Bool) : wordT ix (if b then trueL else falseL) = (.c b, false) := by cases b <;> rfl
theorem wordT_v {nm : List (List Nat)} {ix : List Nat → Option Nat} (hn : NmOk nm ix) {n : Nat} (h : n < nm.length) : wordT ix (nm[n]?.getD []) = (.v n, false) := by
  obtain ⟨_, h1, h2⟩ := nameOk_word (hn.word n h)
  unfold wordT
  rw [if_neg h1, if_neg h2, hn.ix n h]; rfl
theorem not_sym {w : List Nat} (h : WordB w) : w ≠ [33] ∧ w ≠ [40] ∧ w ≠ [41] ∧ w ≠ [38, 38] ∧ w ≠ [124, 124] := by
  obtain ⟨⟨b, r, rfl, hb⟩, _⟩ := h
  refine ⟨?_, ?_, ?_, ?_, ?_⟩ <;> (intro e; cases e; exact absurd hb (by decide))
theorem facT_word {ix : List Nat → Option Nat} {n : Nat} {w : List Nat} {rest : List (List Nat)} (h : WordB w) : facT ix (n + 1) (w :: rest) = some ((wordT ix w).1, (wordT ix w).2, rest) := by
  have := not_sym h
  unfold facT
  rw [if_neg this.1, if_neg this.2.1, if_pos (wordB_isWord h)]

abbrev andT (ix : List Nat → Option Nat) (n : Nat) := chainT [38, 38] Fm.and (facT ix n)
abbrev orT (ix : List Nat → Option Nat) (n : Nat) := chainT [124, 124] Fm.or (andT ix n)
theorem andT_lim (ix : List Nat → Option Nat) (n : Nat) : LimT (andT ix n) := chainT_lim (facT_lim ix n)
theorem chainT_of {op : List Nat} {mk : Fm → Fm → Fm} {opt : List (List Nat) → Option (Fm × Bool × List (List Nat))} {ts ts' : List (List Nat)} {a : Fm} {u : Bool} (h : opt ts = some (a, u, ts')) : chainT op mk opt ts = loopT op mk opt (ts'.length + 1) a u ts' := by
  unfold chainT; rw [h]
def FacOk (nm : List (List Nat)) (ix : List Nat → Option Nat) (n : Nat) : Prop := ∀ (t : Fm) (rest : List (List Nat)), VarsIn nm.length t → (parK (decide (lvlF t < 2)) (tkC nm t)).length ≤ n → facT ix n (parK (decide (lvlF t < 2)) (tkC nm t) ++ rest) = some (t, false, rest)
theorem and_ok {nm : List (List Nat)} {ix : List Nat → Option Nat} {n : Nat} (F : FacOk nm ix n) : ∀ (t : Fm) (rest : List (List Nat)), VarsIn nm.length t → (parK (decide (lvlF t < 1)) (tkC nm t)).length ≤ n →
    andT ix n (parK (decide (lvlF t < 1)) (tkC nm t) ++ rest) = loopT [38, 38] .and (facT ix n) (rest.length + 1) t false rest := by
  intro t
  have base : ∀ t, decide (lvlF t < 1) = decide (lvlF t < 2) → ∀ rest, VarsIn nm.length t → (parK (decide (lvlF t < 1)) (tkC nm t)).length ≤ n → andT ix n (parK (decide (lvlF t < 1)) (tkC nm t) ++ rest) = loopT [38, 38] .and (facT ix n) (rest.length + 1) t false rest := by
    intro t e rest hv hl
    rw [e] at hl ⊢
    exact chainT_of (F t rest hv hl)
  induction t with
  | c b => exact base _ rfl
  | v k => exact base _ rfl
  | not a _ => exact base _ rfl
  | or a b _ _ => exact base _ rfl
  | and a b iha _ =>
    intro rest hv hl
    have e : parK (decide (lvlF (.and a b) < 1)) (tkC nm (.and a b)) = parK (decide (lvlF a < 1)) (tkC nm a) ++ [38, 38] :: parK (decide (lvlF b < 2)) (tkC nm b) := rfl
    rw [e, List.length_append, List.length_cons] at hl
    rw [e, List.append_assoc, List.cons_append, iha _ hv.1 (by omega)]
    have hf := F b rest hv.2 (by omega)
    exact loopT_op (facT_lim ix n) (m := 1) hf
theorem or_ok {nm : List (List Nat)} {ix : List Nat → Option Nat} {n : Nat} (F : FacOk nm ix n) : ∀ (t : Fm) (rest : List (List Nat)), VarsIn nm.length t → (tkC nm t).length ≤ n → rest.head? ≠ some [38, 38] →
    orT ix n (tkC nm t ++ rest) = loopT [124, 124] .or (andT ix n) (rest.length + 1) t false rest := by
  intro t
  have base : ∀ t, decide (lvlF t < 1) = false → ∀ rest, VarsIn nm.length t → (tkC nm t).length ≤ n → rest.head? ≠ some [38, 38] → orT ix n (tkC nm t ++ rest) = loopT [124, 124] .or (andT ix n) (rest.length + 1) t false rest := by
    intro t e rest hv hl hs
    have := and_ok F t rest hv (by rw [e]; exact hl)
    rw [e, loopT_stop hs] at this
    exact chainT_of this
  induction t with
  | c b => exact base _ rfl
  | v k => exact base _ rfl
  | not a _ => exact base _ rfl
  | and a b _ _ => exact base _ rfl
  | or a b iha _ =>
    intro rest hv hl hs
    have e : tkC nm (.or a b) = tkC nm a ++ [124, 124] :: parK (decide (lvlF b < 1)) (tkC nm b) := rfl
    rw [e, List.length_append, List.length_cons] at hl
    rw [e, List.append_assoc, List.cons_append, iha _ hv.1 (by omega) (by simp)]
    have hf := and_ok F b rest hv.2 (by omega)
    rw [loopT_stop hs] at hf
    exact loopT_op (andT_lim ix n) (m := 1) hf
theorem fac_ok {nm : List (List Nat)} {ix : List Nat → Option Nat} (hn : NmOk nm ix) : ∀ n, FacOk nm ix n
  | 0 => fun t rest hv hl => by
    have : ∀ (b : Bool), 0 < (parK b (tkC nm t)).length := by
      intro b
      have := tkC_pos nm t
      cases b with
      | true => simp [parK]
      | false => exact this
    have := this (decide (lvlF t < 2)); omega
  | n + 1 => fun t rest hv hl => by
    have F := fac_ok hn n
    by_cases h2 : lvlF t < 2
    · rw [decide_eq_true h2] at hl ⊢
      have e : parK true (tkC nm t) ++ rest = [40] :: (tkC nm t ++ [41] :: rest) := by simp [parK]
      have hl' : (tkC nm t).length ≤ n := by simp [parK] at hl; omega
      rw [e]
      have ho := or_ok F t ([41] :: rest) hv hl' (by simp)
      rw [loopT_stop (by simp)] at ho
      unfold facT
      have ho' : chainT [124, 124] Fm.or (chainT [38, 38] Fm.and (facT ix n)) (tkC nm t ++ [41] :: rest) = some (t, false, [41] :: rest) := ho
      rw [if_neg (by decide), if_pos rfl, ho']
      simp
    · rw [decide_eq_false h2] at hl ⊢
      cases t with
      | c b =>
        show facT ix (n + 1) ((if b then trueL else falseL) :: rest) = _
        rw [facT_word (by cases b; exact false_word; exact true_word), wordT_c]
      | v k =>
        show facT ix (n + 1) (nm[k]?.getD [] :: rest) = _
        rw [facT_word (nameOk_word (hn.word k hv)).1, wordT_v hn hv]
      | not a =>
        have hl' : (parK (decide (lvlF a < 2)) (tkC nm a)).length ≤ n := by
          have : (parK false (tkC nm (.not a))).length = (parK (decide (lvlF a < 2)) (tkC nm a)).length + 1 := rfl
          omega
        show facT ix (n + 1) ([33] :: (parK (decide (lvlF a < 2)) (tkC nm a) ++ rest)) = _
        unfold facT
        rw [if_pos rfl, F a rest hv hl']
      | and a b => exact absurd (show lvlF (.and a b) < 2 by simp [lvlF]) h2
      | or a b => exact absurd (show lvlF (.or a b) < 2 by simp [lvlF]) h2
/-- A printed formula is parsed to itself. -/
theorem whole_print {nm : List (List Nat)} {ix : List Nat → Option Nat} (hn : NmOk nm ix) (t : Fm) (hv : VarsIn nm.length t) {n : Nat} (hl : (tkC nm t).length ≤ n) : wholeT ix n (tkC nm t) = some (t, false, []) := by
  have := or_ok (fac_ok hn n) t [] hv hl (by simp)
  rw [List.append_nil, loopT_stop (by simp)] at this
  exact this

theorem tok_le : ∀ (n : Nat) (l : List Nat), (lexF n l).1.length ≤ l.length
  | 0, l => Nat.zero_le _
  | n + 1, [] => Nat.zero_le _
  | n + 1, b :: l => by
    have i1 := tok_le n l
    have i2 := tok_le n l.tail
    rw [List.length_tail] at i2
    simp only [lexF, List.length_cons]
    split
    · omega
    · split
      · simp only [List.length_cons]; omega
      · split
        · rename_i h
          cases l with
          | nil => simp at h
          | cons y l => simp only [List.length_cons] at i2 ⊢; omega
        · split
          · rename_i h
            have i3 := tok_le n (l.dropWhile isId)
            have := dropWhile_len isId l
            rw [drop_let h]
            simp only [List.length_cons]; omega
          · simp
theorem parse_print {nm : List (List Nat)} (hn : numsOk nm = true) (hi : NmOk nm (ixN nm)) (t : Fm) (hv : VarsIn nm.length t) (hs : szF t ≤ 512) : parseP nm (prF nm 0 t) = (postF t 0, 0) := by
  rw [parse_tok]
  unfold parseK
  have hl := lex_prF hi t hv
  have hle : (tkC nm t).length ≤ (prF nm 0 t).length + 1 := by
    have := tok_le (prF nm 0 t).length (prF nm 0 t)
    have e : lexF (prF nm 0 t).length (prF nm 0 t) = (tkC nm t, true) := hl
    rw [e] at this
    exact Nat.le_succ_of_le this
  rw [if_pos hn, hl]
  simp only
  rw [if_pos trivial, whole_print hi t hv hle]
  simp only
  rw [if_neg (c := ([] : List (List Nat)) ≠ []) (fun h => h rfl), if_neg (by decide), if_neg (by omega)]
end

section
open Go Go.RowKit

/-! ### Lists of names -/
theorem keys_in (a : ByteArray) (v : Value) : ∀ m : List (ByteArray × Value), a ∈ m.map Prod.fst → (assocSet a v m).map Prod.fst = m.map Prod.fst
  | [], h => by simp at h
  | (b, u) :: m, h => by
    unfold assocSet
    by_cases e : a = b
    · subst e; rw [if_pos rfl]; rfl
    · rw [if_neg e, List.map_cons, keys_in a v m (by simp only [List.map_cons, List.mem_cons] at h; exact h.resolve_left e)]; rfl
theorem keys_out (a : ByteArray) (v : Value) : ∀ m : List (ByteArray × Value), a ∉ m.map Prod.fst → (assocSet a v m).map Prod.fst = m.map Prod.fst ++ [a]
  | [], _ => rfl
  | (b, u) :: m, h => by
    simp only [List.map_cons, List.mem_cons, not_or] at h
    unfold assocSet
    rw [if_neg h.1, List.map_cons, keys_out a v m h.2]; rfl
theorem len_in (a : ByteArray) (v : Value) (m : List (ByteArray × Value)) (h : a ∈ m.map Prod.fst) : (assocSet a v m).length = m.length := by
  have := congrArg List.length (keys_in a v m h); simpa using this
theorem len_out (a : ByteArray) (v : Value) (m : List (ByteArray × Value)) (h : a ∉ m.map Prod.fst) : (assocSet a v m).length = m.length + 1 := by
  have := congrArg List.length (keys_out a v m h); simpa using this
theorem nameM_le : ∀ (l : List (List Nat)) (i : Nat) (m : List (ByteArray × Value)), (nameM l i m).length ≤ m.length + l.length
  | [], _, m => Nat.le_refl _
  | s :: l, i, m => by
    have := nameM_le l (i + 1) (assocSet (strOf s) (.int .i64 (i : Nat)) m)
    simp only [nameM, List.length_cons]
    by_cases h : strOf s ∈ m.map Prod.fst
    · have := len_in _ (.int .i64 (i : Nat)) m h; omega
    · have := len_out _ (.int .i64 (i : Nat)) m h; omega
theorem nameM_iff : ∀ (l : List (List Nat)) (i : Nat) (m : List (ByteArray × Value)), (∀ s ∈ l, ∀ x ∈ s, x < 256) → ((nameM l i m).length = m.length + l.length ↔ l.Nodup ∧ ∀ s ∈ l, strOf s ∉ m.map Prod.fst)
  | [], _, m, _ => by simp [nameM]
  | s :: l, i, m, hb => by
    have hs := hb s (by simp)
    have ih := nameM_iff l (i + 1) (assocSet (strOf s) (.int .i64 (i : Nat)) m) (fun t ht => hb t (by simp [ht]))
    have hle := nameM_le l (i + 1) (assocSet (strOf s) (.int .i64 (i : Nat)) m)
    simp only [nameM, List.length_cons]
    by_cases h : strOf s ∈ m.map Prod.fst
    · have hl := len_in _ (.int .i64 (i : Nat)) m h
      constructor
      · intro e; omega
      · intro e; exact absurd h (e.2 s (by simp))
    · have hl := len_out _ (.int .i64 (i : Nat)) m h
      have hk := keys_out _ (.int .i64 (i : Nat)) m h
      rw [show m.length + (l.length + 1) = (assocSet (strOf s) (.int .i64 (i : Nat)) m).length + l.length by omega, ih, hk]
      simp only [List.nodup_cons, List.mem_append, not_or, List.mem_cons]
      constructor
      · rintro ⟨h1, h2⟩
        refine ⟨⟨fun hm => (h2 s hm).2.1 rfl, h1⟩, fun t ht => ?_⟩
        rcases ht with rfl | ht
        · exact h
        · exact (h2 t ht).1
      · rintro ⟨⟨h1, h2⟩, h3⟩
        refine ⟨h2, fun t ht => ⟨h3 t (.inr ht), fun e => ?_, by simp⟩⟩
        have := strOf_inj (hb t (by simp [ht])) hs e
        subst this
        exact h1 ht
theorem numsOk_iff {names : List (List Nat)} (hb : NamesOk names) : numsOk names = true ↔ names.all nameOk = true ∧ names.Nodup ∧ names.length ≤ 64 := by
  have := nameM_iff names 0 [] (fun s hs => (hb s hs).1)
  simp only [List.length_nil, Nat.zero_add, List.map_nil, List.not_mem_nil, not_false_eq_true, implies_true, and_true] at this
  unfold numsOk
  rw [decide_eq_true_eq, this]
theorem ixR_no (l : List Nat) : ∀ (names : List (List Nat)) (i : Nat) (acc : Option Nat), l ∉ names → ixR l names i acc = acc
  | [], _, _, _ => rfl
  | s :: names, i, acc, h => by
    simp only [List.mem_cons, not_or] at h
    rw [ixR, if_neg (fun e => h.1 e.symm), ixR_no l names (i + 1) acc h.2]
theorem ixR_at : ∀ (names : List (List Nat)) (k i : Nat) (acc : Option Nat) (l : List Nat), names.Nodup → names[k]? = some l → ixR l names i acc = some (i + k)
  | [], k, i, acc, l, _, h => by simp at h
  | s :: names, 0, i, acc, l, hn, h => by
    simp at h
    subst h
    rw [ixR, if_pos rfl, ixR_no _ _ _ _ (List.nodup_cons.1 hn).1]; rfl
  | s :: names, k + 1, i, acc, l, hn, h => by
    have h' : names[k]? = some l := by simpa using h
    rw [ixR, ixR_at names k (i + 1) _ l (List.nodup_cons.1 hn).2 h']
    congr 1; omega
theorem nmOk_of {names : List (List Nat)} (hb : NamesOk names) (h : numsOk names = true) : NmOk names (ixN names) := by
  obtain ⟨h1, h2, h3⟩ := (numsOk_iff hb).1 h
  refine ⟨fun k hk => ?_, fun k hk => ?_⟩
  · rw [List.getElem?_eq_getElem hk]
    exact List.all_eq_true.1 h1 _ (List.getElem_mem hk)
  · rw [List.getElem?_eq_getElem hk]
    have := ixR_at names k 0 none names[k] h2 (List.getElem?_eq_getElem hk)
    rw [Nat.zero_add] at this
    exact this

/-! ### Postorder -/
theorem rep_post : ∀ (t : Fm) (pre suf : List Fz), RepF (pre ++ postF t pre.length ++ suf) t (pre.length + szF t - 1)
  | .c b, pre, suf => by
    show (pre ++ [_] ++ suf)[pre.length + 1 - 1]? = _
    simp
  | .v n, pre, suf => by
    show (pre ++ [_] ++ suf)[pre.length + 1 - 1]? = _
    simp
  | .not a, pre, suf => by
    have pa := szF_pos a
    refine ⟨pre.length + szF a - 1, by simp only [szF]; omega, ?_, ?_⟩
    · simp only [szF, postF]
      rw [List.append_assoc, List.getElem?_append_right (by omega), List.append_assoc, List.getElem?_append_right (by rw [postF_len]; omega), postF_len, show pre.length + (szF a + 1) - 1 - pre.length - szF a = 0 by omega]
      rfl
    · have := rep_post a pre ([⟨3, 0, ((pre.length + szF a - 1 : Nat) : Int), 0⟩] ++ suf)
      simpa [postF] using this
  | .and a b, pre, suf => by
    have pa := szF_pos a
    have pb := szF_pos b
    refine ⟨pre.length + szF a - 1, pre.length + szF a + szF b - 1, by simp only [szF]; omega, by simp only [szF]; omega, ?_, ?_, ?_⟩
    · simp only [szF, postF]
      rw [List.append_assoc, List.getElem?_append_right (by omega), List.append_assoc, List.getElem?_append_right (by rw [List.length_append, postF_len, postF_len]; omega), List.length_append, postF_len, postF_len, show pre.length + (szF a + szF b + 1) - 1 - pre.length - (szF a + szF b) = 0 by omega]
      rfl
    · have := rep_post a pre (postF b (pre.length + szF a) ++ [⟨4, 0, ((pre.length + szF a - 1 : Nat) : Int), ((pre.length + szF a + szF b - 1 : Nat) : Int)⟩] ++ suf)
      simpa [postF] using this
    · have := rep_post b (pre ++ postF a pre.length) ([⟨4, 0, ((pre.length + szF a - 1 : Nat) : Int), ((pre.length + szF a + szF b - 1 : Nat) : Int)⟩] ++ suf)
      rw [List.length_append, postF_len] at this
      simpa [postF] using this
  | .or a b, pre, suf => by
    have pa := szF_pos a
    have pb := szF_pos b
    refine ⟨pre.length + szF a - 1, pre.length + szF a + szF b - 1, by simp only [szF]; omega, by simp only [szF]; omega, ?_, ?_, ?_⟩
    · simp only [szF, postF]
      rw [List.append_assoc, List.getElem?_append_right (by omega), List.append_assoc, List.getElem?_append_right (by rw [List.length_append, postF_len, postF_len]; omega), List.length_append, postF_len, postF_len, show pre.length + (szF a + szF b + 1) - 1 - pre.length - (szF a + szF b) = 0 by omega]
      rfl
    · have := rep_post a pre (postF b (pre.length + szF a) ++ [⟨5, 0, ((pre.length + szF a - 1 : Nat) : Int), ((pre.length + szF a + szF b - 1 : Nat) : Int)⟩] ++ suf)
      simpa [postF] using this
    · have := rep_post b (pre ++ postF a pre.length) ([⟨5, 0, ((pre.length + szF a - 1 : Nat) : Int), ((pre.length + szF a + szF b - 1 : Nat) : Int)⟩] ++ suf)
      rw [List.length_append, postF_len] at this
      simpa [postF] using this
theorem treeOf_post (t : Fm) : treeOf (postF t 0) = t := by
  refine treeOf_eq ?_
  have := rep_post t [] []
  rw [postF_len]
  simpa using this

theorem app_cases {α : Type} {l m : List α} {i : Nat} {x : α} (h : (l ++ m)[i]? = some x) : (i < l.length ∧ l[i]? = some x) ∨ (l.length ≤ i ∧ m[i - l.length]? = some x) := by
  by_cases hi : i < l.length
  · rw [List.getElem?_append_left hi] at h; exact .inl ⟨hi, h⟩
  · rw [List.getElem?_append_right (by omega)] at h; exact .inr ⟨by omega, h⟩
theorem one_cases {α : Type} {y x : α} {i : Nat} (h : [y][i]? = some x) : i = 0 ∧ x = y := by
  cases i with
  | zero => simp at h; exact ⟨rfl, h.symm⟩
  | succ i => simp at h
theorem fzP_not {j i : Nat} (h : j < i) : fzP ⟨3, 0, (j : Nat), 0⟩ i := by
  refine ⟨show 0 ≤ fAr 3 by decide, rfl, ?_, rfl⟩
  show if 0 < fAr 3 then _ else _
  rw [if_pos (by decide)]; simp only; omega
theorem fzP_and {j k i : Nat} (h : j < i) (h' : k < i) : fzP ⟨4, 0, (j : Nat), (k : Nat)⟩ i := by
  refine ⟨show 0 ≤ fAr 4 by decide, rfl, ?_, ?_⟩
  · show if 0 < fAr 4 then _ else _
    rw [if_pos (by decide)]; simp only; omega
  · show if 1 < fAr 4 then _ else _
    rw [if_pos (by decide)]; simp only; omega
theorem fzP_or {j k i : Nat} (h : j < i) (h' : k < i) : fzP ⟨5, 0, (j : Nat), (k : Nat)⟩ i := by
  refine ⟨show 0 ≤ fAr 5 by decide, rfl, ?_, ?_⟩
  · show if 0 < fAr 5 then _ else _
    rw [if_pos (by decide)]; simp only; omega
  · show if 1 < fAr 5 then _ else _
    rw [if_pos (by decide)]; simp only; omega
theorem post_node : ∀ (t : Fm) (k i : Nat) (x : Fz), VarsIn 64 t → (postF t k)[i]? = some x → fzP x (k + i)
  | .c b, k, i, x, _, h => by
    obtain ⟨rfl, rfl⟩ := one_cases h
    cases b <;> exact ⟨by decide, rfl, rfl, rfl⟩
  | .v n, k, i, x, hv, h => by
    obtain ⟨rfl, rfl⟩ := one_cases h
    refine ⟨show 0 ≤ fAr 2 by decide, ?_, rfl, rfl⟩
    have : n < 64 := hv
    rw [if_pos rfl]; simp only; omega
  | .not a, k, i, x, hv, h => by
    have pa := szF_pos a
    rcases app_cases h with ⟨hi, h⟩ | ⟨hi, h⟩
    · exact post_node a k i x hv h
    · rw [postF_len] at hi h
      obtain ⟨e, rfl⟩ := one_cases h
      exact fzP_not (by omega)
  | .and a b, k, i, x, hv, h => by
    have pa := szF_pos a
    have pb := szF_pos b
    rcases app_cases h with ⟨hi, h⟩ | ⟨hi, h⟩
    · rcases app_cases h with ⟨hi, h⟩ | ⟨hi, h⟩
      · exact post_node a k i x hv.1 h
      · rw [postF_len] at hi h
        have := post_node b (k + szF a) (i - szF a) x hv.2 h
        rwa [show k + szF a + (i - szF a) = k + i by omega] at this
    · rw [List.length_append, postF_len, postF_len] at hi h
      obtain ⟨e, rfl⟩ := one_cases h
      exact fzP_and (by omega) (by omega)
  | .or a b, k, i, x, hv, h => by
    have pa := szF_pos a
    have pb := szF_pos b
    rcases app_cases h with ⟨hi, h⟩ | ⟨hi, h⟩
    · rcases app_cases h with ⟨hi, h⟩ | ⟨hi, h⟩
      · exact post_node a k i x hv.1 h
      · rw [postF_len] at hi h
        have := post_node b (k + szF a) (i - szF a) x hv.2 h
        rwa [show k + szF a + (i - szF a) = k + i by omega] at this
    · rw [List.length_append, postF_len, postF_len] at hi h
      obtain ⟨e, rfl⟩ := one_cases h
      exact fzP_or (by omega) (by omega)
theorem fkids_app (l m : List Fz) : fkids (l ++ m) = fkids l ++ fkids m := by simp [fkids]
theorem fkids_not (j : Nat) : fkids [⟨3, 0, (j : Nat), 0⟩] = [j] := by
  show fKids _ ++ [] = _
  unfold fKids
  rw [show fAr (Fz.o ⟨3, 0, (j : Nat), 0⟩) = 1 from rfl]; simp
theorem fkids_and (j k : Nat) : fkids [⟨4, 0, (j : Nat), (k : Nat)⟩] = [j, k] := by
  show fKids _ ++ [] = _
  unfold fKids
  rw [show fAr (Fz.o ⟨4, 0, (j : Nat), (k : Nat)⟩) = 2 from rfl]; simp
theorem fkids_or (j k : Nat) : fkids [⟨5, 0, (j : Nat), (k : Nat)⟩] = [j, k] := by
  show fKids _ ++ [] = _
  unfold fKids
  rw [show fAr (Fz.o ⟨5, 0, (j : Nat), (k : Nat)⟩) = 2 from rfl]; simp
theorem post_kids : ∀ (t : Fm) (k j : Nat), (fkids (postF t k)).count j = if k ≤ j ∧ j + 1 < k + szF t then 1 else 0
  | .c b, k, j => by
    rw [if_neg (by simp only [szF]; omega)]
    cases b <;> rfl
  | .v n, k, j => by
    rw [if_neg (by simp only [szF]; omega)]; rfl
  | .not a, k, j => by
    have pa := szF_pos a
    show _ = if k ≤ j ∧ j + 1 < k + (szF a + 1) then 1 else 0
    simp only [postF]
    rw [fkids_app, List.count_append, fkids_not, post_kids a k j, List.count_singleton]
    simp only [beq_iff_eq]
    by_cases h1 : k ≤ j ∧ j + 1 < k + szF a
    · rw [if_pos h1, if_neg (by omega), if_pos (by omega)]
    · rw [if_neg h1]
      by_cases h2 : k + szF a - 1 = j
      · rw [if_pos h2, if_pos (by omega)]
      · rw [if_neg h2, if_neg (by omega)]
  | .and a b, k, j => by
    have pa := szF_pos a
    have pb := szF_pos b
    show _ = if k ≤ j ∧ j + 1 < k + (szF a + szF b + 1) then 1 else 0
    simp only [postF]
    rw [fkids_app, fkids_app, List.count_append, List.count_append, fkids_and, post_kids a k j, post_kids b _ j, List.count_cons, List.count_singleton]
    simp only [beq_iff_eq]
    by_cases h1 : k ≤ j ∧ j + 1 < k + szF a
    · rw [if_pos h1, if_neg (by omega), if_neg (by omega), if_neg (by omega), if_pos (by omega)]
    · rw [if_neg h1]
      by_cases h2 : k + szF a ≤ j ∧ j + 1 < k + szF a + szF b
      · rw [if_pos h2, if_neg (by omega), if_neg (by omega), if_pos (by omega)]
      · rw [if_neg h2]
        by_cases h3 : k + szF a - 1 = j
        · rw [if_neg (by omega), if_pos h3, if_pos (by omega)]
        · rw [if_neg h3]
          by_cases h4 : k + szF a + szF b - 1 = j
          · rw [if_pos h4, if_pos (by omega)]
          · rw [if_neg h4, if_neg (by omega)]
  | .or a b, k, j => by
    have pa := szF_pos a
    have pb := szF_pos b
    show _ = if k ≤ j ∧ j + 1 < k + (szF a + szF b + 1) then 1 else 0
    simp only [postF]
    rw [fkids_app, fkids_app, List.count_append, List.count_append, fkids_or, post_kids a k j, post_kids b _ j, List.count_cons, List.count_singleton]
    simp only [beq_iff_eq]
    by_cases h1 : k ≤ j ∧ j + 1 < k + szF a
    · rw [if_pos h1, if_neg (by omega), if_neg (by omega), if_neg (by omega), if_pos (by omega)]
    · rw [if_neg h1]
      by_cases h2 : k + szF a ≤ j ∧ j + 1 < k + szF a + szF b
      · rw [if_pos h2, if_neg (by omega), if_neg (by omega), if_pos (by omega)]
      · rw [if_neg h2]
        by_cases h3 : k + szF a - 1 = j
        · rw [if_neg (by omega), if_pos h3, if_pos (by omega)]
        · rw [if_neg h3]
          by_cases h4 : k + szF a + szF b - 1 = j
          · rw [if_pos h4, if_pos (by omega)]
          · rw [if_neg h4, if_neg (by omega)]
theorem post_FV {t : Fm} (hv : VarsIn 64 t) (hs : szF t ≤ 512) : FV (postF t 0) := by
  refine ⟨by rw [postF_len]; exact hs, by rw [postF_len]; exact szF_pos t, fun i x hx => by have := post_node t 0 i x hv hx; rwa [Nat.zero_add] at this, fun i hi => ?_⟩
  rw [post_kids, if_pos]
  rw [postF_len] at hi
  omega
instance decVars (n : Nat) : ∀ t : Fm, Decidable (VarsIn n t)
  | .c _ => isTrue trivial
  | .v k => inferInstanceAs (Decidable (k < n))
  | .not a => decVars n a
  | .and a b => @instDecidableAnd _ _ (decVars n a) (decVars n b)
  | .or a b => @instDecidableAnd _ _ (decVars n a) (decVars n b)
theorem VarsIn.mono {n m : Nat} (h : n ≤ m) : ∀ {t : Fm}, VarsIn n t → VarsIn m t
  | .c _, _ => trivial
  | .v _, hv => Nat.lt_of_lt_of_le hv h
  | .not a, hv => VarsIn.mono (t := a) h hv
  | .and _ _, hv => ⟨VarsIn.mono h hv.1, VarsIn.mono h hv.2⟩
  | .or _ _, hv => ⟨VarsIn.mono h hv.1, VarsIn.mono h hv.2⟩
theorem post_vars : ∀ (t : Fm) (n k : Nat), VarsIn n t → varsOk n (postF t k)
  | .c b, n, k, _ => fun x hx ho => by
    simp only [postF, List.mem_singleton] at hx
    subst hx
    cases b <;> simp at ho
  | .v j, n, k, hv => fun x hx ho => by
    simp only [postF, List.mem_singleton] at hx
    subst hx
    have : j < n := hv
    simp only; omega
  | .not a, n, k, hv => fun x hx ho => by
    simp only [postF, List.mem_append, List.mem_singleton] at hx
    rcases hx with hx | rfl
    · exact post_vars a n k hv x hx ho
    · simp at ho
  | .and a b, n, k, hv => fun x hx ho => by
    simp only [postF, List.mem_append, List.mem_singleton] at hx
    rcases hx with (hx | hx) | rfl
    · exact post_vars a n k hv.1 x hx ho
    · exact post_vars b n _ hv.2 x hx ho
    · simp at ho
  | .or a b, n, k, hv => fun x hx ho => by
    simp only [postF, List.mem_append, List.mem_singleton] at hx
    rcases hx with (hx | hx) | rfl
    · exact post_vars a n k hv.1 x hx ho
    · exact post_vars b n _ hv.2 x hx ho
    · simp at ho
end
end
end Go.Proofs.YtedopgkbajhanaaGreatDoor

namespace Go.Proofs.YtedopgkbajhanaaGreatDoor
section
section
open Go Go.RowKit

theorem dg_wrap {w1 w2 w : World} {g : Nat} {r : (List Br × Int) × Int} {A : Option Addr} {n c : Nat} (hE : Ext w w1) (hM : Mod (· = g) w1 w2) (hg : w.heap.size ≤ g) (hs : SB w1 A n c r.1.1) (hr : ∀ i, rowS A i → g < i) :
    Ext w w2 ∧ SB w2 A n c r.1.1 ∧ ∀ i, rowS A i → w.heap.size ≤ i :=
  ⟨hM.ext hE (fun i hi => by omega), ⟨hs.1.modS hM (fun _ i hi e => by have := hr i hi; omega), hs.2⟩, fun i hi => by have := hr i hi; omega⟩

end

section
open Go Go.RowKit

theorem namesOk_of {names : List (List Nat)} (h : names.all (fun s => s.all (fun x => decide (x < 256)) && decide (s.length ≤ 100)) = true) : NamesOk names := fun s hs => by
  have := List.all_eq_true.1 h s hs
  rw [Bool.and_eq_true, decide_eq_true_eq] at this
  exact ⟨fun x hx => by have := List.all_eq_true.1 this.1 x hx; simpa using this, by omega⟩
theorem rd0_var {k : Int} (h0 : 0 ≤ k) (h1 : k ≤ 63) : Rd0 [⟨k, 0, 1⟩] := fun j b hb => by
  obtain ⟨rfl, rfl⟩ := one_cases hb
  refine ⟨h0, h1, Int.le_refl 0, ?_, (by decide : (0 : Int) ≤ 1), ?_, (by decide : (0 : Int) ≠ 1), by simp, ?_, ?_⟩
  · simp only; omega
  · simp only; omega
  · rw [lvl_one (by simp only; omega)]; simp only; omega
  · rw [lvl_one (by simp only; omega)]; simp only; omega
theorem vd_var {k : Int} (h0 : 0 ≤ k) (h1 : k ≤ 63) : VD [⟨k, 0, 1⟩] 2 := ⟨rd0_var h0 h1, by decide, by simp, rfl⟩
end

section
open Go Go.RowKit

end
end
end Go.Proofs.YtedopgkbajhanaaGreatDoor

namespace Go.Proofs.YtedopgkbajhanaaGreatDoor
section
section
open Go Go.RowKit

/-- An identifier, as the reference sees it. -/
def identB (s : List Nat) : Bool := isWord s && s.all isId
end

section
open Go Go.RowKit

end

section
open Go Go.RowKit

/-- What a parser holds fast. -/
structure RD where
  NA : Option Addr
  nn : Nat
  nc : Nat
  names : List (List Nat)
  LA : Option Addr
  ln : Nat
  lc : Nat
  toks : List (List Nat)
/-- How far it has come. -/
structure Rs where
  at_ : Nat
  f : List Fz
  bad : Bool
  unk : Bool
structure RDok (w0 : World) (D : RD) : Prop where
  nms : Sl w0 1 D.NA D.nn D.nc (strsV D.names)
  tks : Sl w0 1 D.LA D.ln D.lc (strsV D.toks)
  nb : NamesOk D.names
  tb : ∀ t ∈ D.toks, (∀ x ∈ t, x < 256) ∧ t.length ≤ 1000000000000
  wf : ∀ t ∈ D.toks, identB t = isWord t
  lim : D.toks.length ≤ 1000000000000
theorem RDok.ln {w0 : World} {D : RD} (h : RDok w0 D) : D.toks.length = D.ln := by have := h.tks.len; rw [strsV_length] at this; omega
structure Rq (w0 w : World) (base r : Nat) (D : RD) (A : Option Addr) (c : Nat) (s : Rs) : Prop where
  e0 : Ext w0 w
  r0 : w0.heap.size ≤ r
  lt : r < base
  top : base ≤ w.heap.size
  blk : Blk w r 218 [.slice D.NA D.nn D.nc, .slice D.LA D.ln D.lc, .int .i64 s.at_, .slice A s.f.length c, .bool s.bad, .bool s.unk]
  own : Own w base 205 4 A s.f.length c (fzV s.f)
  le : s.at_ ≤ D.toks.length
theorem Rq.nrow {w0 w : World} {base r : Nat} {D : RD} {A : Option Addr} {c : Nat} {s : Rs} (h : Rq w0 w base r D A c s) : ¬ rowS A r := fun hr => by
  have := (h.own.rows r hr).1
  have := h.lt
  omega
theorem Rq.ext {w0 w w' : World} {base r : Nat} {D : RD} {A : Option Addr} {c : Nat} {s : Rs} (h : Rq w0 w base r D A c s) (k : Ext w w') : Rq w0 w' base r D A c s :=
  ⟨h.e0.trans k, h.r0, h.lt, Nat.le_trans h.top k.size, h.blk.ext k, h.own.ext k, h.le⟩
/-- A field of the parser is set. -/
theorem Rq.set {w0 w w' : World} {base r : Nat} {D : RD} {A : Option Addr} {c : Nat} {s : Rs} (h : Rq w0 w base r D A c s) (k : Mod (· = r) w w') {s' : Rs} (hf : s'.f = s.f) (hl : s'.at_ ≤ D.toks.length)
    (hB : Blk w' r 218 [.slice D.NA D.nn D.nc, .slice D.LA D.ln D.lc, .int .i64 s'.at_, .slice A s'.f.length c, .bool s'.bad, .bool s'.unk]) : Rq w0 w' base r D A c s' :=
  ⟨k.ext h.e0 (fun i hi => by have := h.r0; omega), h.r0, h.lt, Nat.le_trans h.top k.size, hB, by rw [hf]; exact h.own.mod k (fun i hi e => h.nrow (by rw [← e]; exact hi)), hl⟩

end

section
open Go Go.RowKit

def RAdv (s s' : Rs) : Prop := s.at_ ≤ s'.at_ ∧ s'.f.length + s.at_ ≤ s.f.length + s'.at_
theorem RAdv.refl (s : Rs) : RAdv s s := ⟨Nat.le_refl _, Nat.le_refl _⟩
theorem RAdv.trans {a b c : Rs} (h : RAdv a b) (k : RAdv b c) : RAdv a c := ⟨Nat.le_trans h.1 k.1, by have := h.2; have := k.2; omega⟩
/-- What has been read. -/
def ROut (D : RD) (s : Rs) (o : Option (Fm × Bool × List (List Nat))) (a : Int) (s' : Rs) : Prop := RAdv s s' ∧ match o with
  | none => s'.bad = true
  | some (t, u, ts) => a = ((s.f.length + szF t - 1 : Nat) : Int) ∧ s'.f = s.f ++ postF t s.f.length ∧ s'.bad = false ∧ s'.unk = (s.unk || u) ∧ D.toks.drop s'.at_ = ts
def LoI (D : RD) (op : List Nat) (mk : Fm → Fm → Fm) (opt : List (List Nat) → Option (Fm × Bool × List (List Nat))) (s : Rs) (o : Option (Fm × Bool × List (List Nat))) (a : Int) (s1 : Rs) : Prop := RAdv s s1 ∧ ((s1.bad = true ∧ o = none) ∨ (s1.bad = false ∧ ∃ t u, a = ((s.f.length + szF t - 1 : Nat) : Int) ∧ s1.f = s.f ++ postF t s.f.length ∧ s1.unk = (s.unk || u) ∧ o = loopT op mk opt ((D.toks.drop s1.at_).length + 1) t u (D.toks.drop s1.at_)))
theorem drop_head {l : List (List Nat)} {i : Nat} {t : List Nat} (h : (l.drop i).head? = some t) : l.drop i = t :: l.drop (i + 1) := by
  rw [List.head?_drop] at h
  have hi := (List.getElem?_eq_some_iff.1 h).1
  rw [List.drop_eq_getElem_cons hi]
  rw [List.getElem?_eq_getElem hi] at h
  rw [Option.some.inj h]
theorem LoI.first {D : RD} {op : List Nat} {mk : Fm → Fm → Fm} {opt : List (List Nat) → Option (Fm × Bool × List (List Nat))} {s s1 : Rs} {a : Int} (h : ROut D s (opt (D.toks.drop s.at_)) a s1) : LoI D op mk opt s (chainT op mk opt (D.toks.drop s.at_)) a s1 := by
  obtain ⟨h1, h2⟩ := h
  refine ⟨h1, ?_⟩
  unfold chainT
  cases ho : opt (D.toks.drop s.at_) with
  | none => rw [ho] at h2; exact .inl ⟨h2, rfl⟩
  | some q =>
    obtain ⟨t, u, ts⟩ := q
    rw [ho] at h2
    obtain ⟨e1, e2, e3, e4, e5⟩ := h2
    exact .inr ⟨e3, t, u, e1, e2, e4, by rw [e5]⟩
/-- One more operand. -/
theorem LoI.step {D : RD} {op : List Nat} {mk : Fm → Fm → Fm} {opt : List (List Nat) → Option (Fm × Bool × List (List Nat))} {s s1 s3 : Rs} {o : Option (Fm × Bool × List (List Nat))} {a b : Int} {k : Int} (hl : LimT opt)
    (hmk : ∀ a b k', postF (mk a b) k' = postF a k' ++ postF b (k' + szF a) ++ [⟨k, 0, ((k' + szF a - 1 : Nat) : Int), ((k' + szF a + szF b - 1 : Nat) : Int)⟩]) (hsz : ∀ a b, szF (mk a b) = szF a + szF b + 1)
    (h : LoI D op mk opt s o a s1) (hb : s1.bad = false) (hh : (D.toks.drop s1.at_).head? = some op) (hr : ROut D { s1 with at_ := s1.at_ + 1 } (opt (D.toks.drop (s1.at_ + 1))) b s3) (_ : s1.f.length ≤ s1.at_) :
    LoI D op mk opt s o ((s3.f.length : Nat) : Int) { s3 with f := s3.f ++ [⟨k, 0, a, b⟩] } := by
  obtain ⟨h1, h2⟩ := h
  obtain ⟨r1, r2⟩ := hr
  have q1 := r1.1
  have q2 := r1.2
  simp only at q1 q2
  have p1 := h1.1
  have p2 := h1.2
  refine ⟨⟨by simp only; omega, by simp only [List.length_append, List.length_cons, List.length_nil]; omega⟩, ?_⟩
  rcases h2 with ⟨h2, _⟩ | ⟨_, t, u, e1, e2, e3, e4⟩
  · rw [hb] at h2; cases h2
  rw [drop_head hh] at e4
  cases ho : opt (D.toks.drop (s1.at_ + 1)) with
  | none =>
    rw [ho] at r2
    refine .inl ⟨r2, ?_⟩
    rw [e4, List.length_cons]
    show loopT op mk opt ((D.toks.drop (s1.at_ + 1)).length + 1 + 1) t u _ = none
    rw [loopT, List.head?_cons, if_pos rfl, List.tail_cons, ho]
  | some q =>
    obtain ⟨t2, v, ts⟩ := q
    rw [ho] at r2
    obtain ⟨g1, g2, g3, g4, g5⟩ := r2
    simp only at g1 g2 g4
    have pt := szF_pos t
    have pt2 := szF_pos t2
    have hf1 : s1.f.length = s.f.length + szF t := by rw [e2, List.length_append, postF_len]
    refine .inr ⟨g3, mk t t2, u || v, ?_, ?_, ?_, ?_⟩
    · rw [g2, List.length_append, postF_len, hf1, hsz]; congr 1; omega
    · simp only
      rw [g2, e2, hmk, e1, g1, hf1, List.length_append, postF_len]
      simp
    · simp only; rw [g4, e3, Bool.or_assoc]
    · simp only
      rw [e4, g5]
      exact loopT_op hl (m := 1) ho
theorem LoI.done {D : RD} {op : List Nat} {mk : Fm → Fm → Fm} {opt : List (List Nat) → Option (Fm × Bool × List (List Nat))} {s s1 : Rs} {o : Option (Fm × Bool × List (List Nat))} {a : Int} (h : LoI D op mk opt s o a s1) (hs : s1.bad = true ∨ (D.toks.drop s1.at_).head? ≠ some op) : ROut D s o a s1 := by
  obtain ⟨h1, h2⟩ := h
  refine ⟨h1, ?_⟩
  rcases h2 with ⟨h2, rfl⟩ | ⟨hb, t, u, e1, e2, e3, e4⟩
  · exact h2
  · have hh := hs.resolve_left (by rw [hb]; decide)
    rw [loopT_stop hh] at e4
    subst e4
    exact ⟨e1, e2, hb, e3, rfl⟩

end

section
open Go Go.RowKit

end

section
open Go Go.RowKit

end
end
end Go.Proofs.YtedopgkbajhanaaGreatDoor

namespace Go.Proofs.YtedopgkbajhanaaGreatDoor
section
open Go Go.RowKit

def letters12 : List (List Nat) := [[65], [66], [67], [68], [108, 111, 110, 103, 95, 110, 97, 109, 101], [95], [120, 49], [84, 82, 85, 69], [116], [102], [116, 114, 117], [102, 97, 108, 115, 101, 101]]
theorem letters_fn (k : Nat) (w : World) (hk : k ≤ 12) :
    Fn Tryz.prog 14 [.int .i64 k] w (fun v w' => ∃ A c, v = .slice A k c ∧ Ext w w' ∧ Sl w' 1 A k c (strsV (letters12.take k))) := by
  refine fn_of_exec (c := { c14 with cuts := [] }) gx_ok Tryz.func14 rfl rfl rfl ?_
  refine at_buildN gx_ok (letters12.map (fun s => [.string (strOf s)])) rfl rfl rfl rfl rfl ⟨rfl, rfl, rfl, rfl, rfl, rfl, rfl, rfl, rfl, rfl, rfl, rfl, rfl, rfl, rfl, rfl, rfl, rfl, rfl, rfl, rfl, rfl, rfl, rfl, ⟨⟩⟩ rfl (fun cs h => by simp only [List.mem_map] at h; obtain ⟨s, _, rfl⟩ := h; rfl) rfl (by decide) (by decide) ?_
  intro w1 hE1 hz1 hB1
  refine at_slice_h gx_ok rfl rfl rfl rfl rfl rfl hk ?_
  have hS : Sl w1 1 (some ⟨w.heap.size, 0, none⟩) 12 12 (strsV letters12) := Sl.own' (n := 12) hB1 rfl (by decide)
  have := hS.take (m := k) hk
  rw [Nat.mul_one] at this
  exact ⟨_, 12, rfl, hE1, by rw [show strsV (letters12.take k) = (strsV letters12).take k by simp [strsV]]; exact this⟩
theorem letters_ok (k : Nat) (hk : k ≤ 12) : NamesOk (letters12.take k) ∧ numsOk (letters12.take k) = true ∧ (letters12.take k).length = k := by
  have hb : NamesOk letters12 := namesOk_of (by decide)
  have hb' : NamesOk (letters12.take k) := fun s hs => hb s (List.mem_of_mem_take hs)
  have hl : (letters12.take k).length = k := by rw [List.length_take]; show min k 12 = k; omega
  refine ⟨hb', (numsOk_iff hb').2 ⟨?_, List.Nodup.sublist (List.take_sublist k letters12) (by decide), by omega⟩, hl⟩
  have : letters12.all nameOk = true := by decide
  exact List.all_eq_true.2 (fun s hs => List.all_eq_true.1 this s (List.mem_of_mem_take hs))
end
end Go.Proofs.YtedopgkbajhanaaGreatDoor

namespace Go.Proofs.YtedopgkbajhanaaGreatDoor
section
open Go Go.RowKit

def litF (v : Nat) (pos : Bool) : Fm := if pos then .v v else .not (.v v)
def cfT (nd : List Br) : Nat → Int → Fm
  | 0, _ => .c false
  | m + 1, n => if n < 2 then .c (decide (n = 1)) else match nd[(n - 2).toNat]? with
    | none => .c false
    | some b => if b.h < 2 ∧ b.l < 2 then litF b.v.toNat (decide (b.h = 1))
      else if b.l = 0 then .and (litF b.v.toNat true) (cfT nd m b.h)
      else if b.h = 0 then .and (litF b.v.toNat false) (cfT nd m b.l)
      else if b.h = 1 then .or (litF b.v.toNat true) (cfT nd m b.l)
      else if b.l = 1 then .or (litF b.v.toNat false) (cfT nd m b.h)
      else .or (.and (litF b.v.toNat true) (cfT nd m b.h)) (.and (litF b.v.toNat false) (cfT nd m b.l))
/-- The canonical formula of a number. -/
def cf (nd : List Br) (n : Int) : Fm := cfT nd (n.toNat + 1) n
/-- The value of a formula. -/
def evF : Fm → (Nat → Bool) → Bool
  | .c b, _ => b
  | .v n, e => e n
  | .not a, e => !evF a e
  | .and a b, e => evF a e && evF b e
  | .or a b, e => evF a e || evF b e
/-! ### The program's road -/
end
end Go.Proofs.YtedopgkbajhanaaGreatDoor

namespace Go.Proofs.YtedopgkbajhanaaGreatDoor
section
open Go Go.RowKit

/-- The conditions of a diagram lie below a bound. -/
def VIn (k : Nat) (nd : List Br) : Prop := ∀ b ∈ nd, b.v < k
theorem VIn.nil (k : Nat) : VIn k [] := fun b hb => by simp at hb
theorem VIn.lvl {k : Nat} {nd : List Br} (h : VIn k nd) {n : Int} (h2 : ¬ n < 2) (hn : n < nd.length + 2) : lvlD nd n < k := by
  obtain ⟨b, hb⟩ := getE h2 hn
  rw [lvl_some h2 hb]; exact h b (List.mem_of_getElem? hb)
theorem Rd0.lvl0 {nd : List Br} (h : Rd0 nd) {n : Int} (hn : n < nd.length + 2) : 0 ≤ lvlD nd n := by
  by_cases h2 : n < 2
  · rw [lvl_one h2]; omega
  · obtain ⟨z, hz⟩ := getE h2 hn
    rw [lvl_some h2 hz]; exact (h _ _ hz).1
theorem pow_half {a b c : Nat} (ha : a < c) (hb : b < c) : 2 ^ a + 2 ^ b ≤ 2 ^ c := by
  obtain ⟨d, rfl⟩ : ∃ d, c = d + 1 := ⟨c - 1, by omega⟩
  have h1 : 2 ^ a ≤ 2 ^ d := Nat.pow_le_pow_right (by decide) (by omega)
  have h2 : 2 ^ b ≤ 2 ^ d := Nat.pow_le_pow_right (by decide) (by omega)
  rw [Nat.pow_succ]; omega
theorem pow_pos2 (a : Nat) : 1 ≤ 2 ^ a := Nat.one_le_two_pow

theorem vis_bnd {nd : List Br} (h : Rd0 nd) {k : Nat} (hk : VIn k nd) : ∀ (m : Nat) (n : Int) (st : List Br × List Nat), 0 ≤ n → n < m → n < nd.length + 2 → (vis nd m n st).2.1.length + 1 ≤ st.1.length + 2 ^ ((k : Int) - lvlD nd n).toNat
  | 0, n, st, h0, hm, _ => by omega
  | m + 1, n, st, h0, hm, hn => by
    have p := pow_pos2 ((k : Int) - lvlD nd n).toNat
    by_cases h2 : n < 2
    · rw [vis_lt h2]; simp only; omega
    by_cases h3 : 0 < st.2[(n - 2).toNat]?.getD 0
    · rw [vis_old h2 h3]; simp only; omega
    obtain ⟨b, hb⟩ := getE h2 hn
    obtain ⟨b1, b2, b3, b4, b5, b6, b7, b8, b9, b10⟩ := h _ _ hb
    have hbk := hk b (List.mem_of_getElem? hb)
    have hlv := lvl_some h2 hb
    rw [vis_new h2 h3 hb]
    have i1 := vis_bnd h hk m b.l st b3 (by omega) (by omega)
    generalize (vis nd m b.l st) = p1 at *
    have i2 := vis_bnd h hk m b.h p1.2 b5 (by omega) (by omega)
    generalize (vis nd m b.h p1.2) = p2 at *
    have := pow_half (a := ((k : Int) - lvlD nd b.l).toNat) (b := ((k : Int) - lvlD nd b.h).toNat) (c := ((k : Int) - lvlD nd n).toNat) (by omega) (by omega)
    simp only [List.length_append, List.length_cons, List.length_nil]
    omega
theorem vis_vars {nd : List Br} {k : Nat} (hk : VIn k nd) : ∀ (m : Nat) (n : Int) (st : List Br × List Nat), VIn k st.1 → VIn k (vis nd m n st).2.1
  | 0, n, st, h => h
  | m + 1, n, st, h => by
    by_cases h2 : n < 2
    · rw [vis_lt h2]; exact h
    by_cases h3 : 0 < st.2[(n - 2).toNat]?.getD 0
    · rw [vis_old h2 h3]; exact h
    cases hb : nd[(n - 2).toNat]? with
    | none => rw [vis, if_neg h2, if_neg h3, hb]; exact h
    | some b =>
      rw [vis_new h2 h3 hb]
      have i1 := vis_vars hk m b.l st h
      generalize (vis nd m b.l st) = p1 at *
      have i2 := vis_vars hk m b.h p1.2 i1
      generalize (vis nd m b.h p1.2) = p2 at *
      intro x hx
      simp only [List.mem_append, List.mem_singleton] at hx
      rcases hx with hx | rfl
      · exact i2 x hx
      · exact hk b (List.mem_of_getElem? hb)
theorem numbered_vars {nd : List Br} {k : Nat} (hk : VIn k nd) (r : Int) : VIn k (numberedD nd r).1 := vis_vars hk _ _ _ (VIn.nil k)
theorem VD.len {nd : List Br} {r : Int} (h : VD nd r) {k : Nat} (hk : VIn k nd) : nd.length + 1 ≤ 2 ^ k := by
  have i := vis_bnd h.rd0 hk (r.toNat + 1) r ([], List.replicate nd.length 0) h.2.1 (by have := h.2.1; omega) h.2.2.1
  have e : (vis nd (r.toNat + 1) r ([], List.replicate nd.length 0)).2.1 = nd := congrArg Prod.fst h.2.2.2
  rw [e] at i
  have := h.rd0.lvl0 h.2.2.1
  have p : 2 ^ ((k : Int) - lvlD nd r).toNat ≤ 2 ^ k := Nat.pow_le_pow_right (by decide) (by omega)
  simp only [List.length_nil] at i
  omega
theorem uniq_vars {k : Nat} {l : List Br} (h : VIn k l) {b : Br} (hb : b.v < k) : VIn k (uniqD b l).1 := by
  unfold uniqD
  split
  · exact h
  · split
    · exact h
    · intro x hx
      simp only [List.mem_append, List.mem_singleton] at hx
      rcases hx with hx | rfl
      · exact h x hx
      · exact hb
theorem at2_vars {a b : List Br} (ha : DOk a) (hb : DOk b) {k : Nat} (ka : VIn k a) (kb : VIn k b) (op : Int) : ∀ (m : Nat) (x y : Int) (st : List Br × List Tr3), 0 ≤ x → 0 ≤ y → x < a.length + 2 → y < b.length + 2 → VIn k st.1 → VIn k (at2 a b op m x y st).2.1
  | 0, _, _, st, _, _, _, _, h => h
  | m + 1, x, y, st, x0, y0, hx, hy, h => by
    by_cases hxy : x < 2 ∧ y < 2
    · rw [at2_c hxy]; exact h
    cases k3 : st.2.find? (fun t => decide (t.1 = x ∧ t.2.1 = y)) with
    | some t => rw [at2_s hxy k3]; exact h
    | none =>
      have hvk : min (lvlD a x) (lvlD b y) < k := by
        by_cases c : x < 2
        · have := kb.lvl (n := y) (fun c2 => hxy ⟨c, c2⟩) hy
          rw [Int.min_def]; split <;> omega
        · have := ka.lvl (n := x) c hx
          rw [Int.min_def]; split <;> omega
      have hv64 : min (lvlD a x) (lvlD b y) < 64 := by
        by_cases c : x < 2
        · have := lvl_lt hb (n := y) (fun c2 => hxy ⟨c, c2⟩) (by omega)
          rw [Int.min_def]; split <;> omega
        · have := lvl_lt ha (n := x) c (by omega)
          rw [Int.min_def]; split <;> omega
      rw [at2_n hxy k3 _ rfl]
      generalize min (lvlD a x) (lvlD b y) = v at *
      obtain ⟨s1, s2, s3, s4, s5⟩ := sideD_le ha (n := x) x0 hv64
      obtain ⟨t1, t2, t3, t4, t5⟩ := sideD_le hb (n := y) y0 hv64
      have i1 := at2_vars ha hb ka kb op m (sideD a x v).1 (sideD b y v).1 st s1 t1 (by omega) (by omega) h
      generalize (at2 a b op m (sideD a x v).1 (sideD b y v).1 st) = r0 at *
      have i2 := at2_vars ha hb ka kb op m (sideD a x v).2 (sideD b y v).2 r0.2 s3 t3 (by omega) (by omega) i1
      exact uniq_vars i2 hvk

/-- A valid diagram over some conditions that means a set. -/
structure Set1 (k : Nat) (nd : List Br) (r : Int) (o : (Nat → Bool) → Bool) : Prop where
  vd : VD nd r
  vin : VIn k nd
  mean : ∀ e, ev nd r e = o e
theorem Set1.len {k : Nat} {nd : List Br} {r : Int} {o : (Nat → Bool) → Bool} (h : Set1 k nd r o) (hk : k ≤ 12) : nd.length ≤ 4095 := by
  have := h.vd.len h.vin
  have p : 2 ^ k ≤ 2 ^ 12 := Nat.pow_le_pow_right (by decide) hk
  omega
theorem Set1.chk {k : Nat} {nd : List Br} {r : Int} {o : (Nat → Bool) → Bool} (h : Set1 k nd r o) (hk : k ≤ 12) : chkD nd r = 0 := chkD_ok (by have := h.len hk; omega) h.vd
theorem Set1.unique {k k' : Nat} {nd nd' : List Br} {r r' : Int} {o o' : (Nat → Bool) → Bool} (h : Set1 k nd r o) (h' : Set1 k' nd' r' o') (e : ∀ x, o x = o' x) : (nd, r) = (nd', r') :=
  h.vd.eqv h'.vd (fun x => by rw [h.mean, h'.mean, e])
theorem Set1.congr {k : Nat} {nd : List Br} {r : Int} {o o' : (Nat → Bool) → Bool} (h : Set1 k nd r o) (e : ∀ x, o x = o' x) : Set1 k nd r o' := ⟨h.vd, h.vin, fun x => (h.mean x).trans (e x)⟩
theorem comb_set {k : Nat} {a b : List Br} {ra rb : Int} {o o' : (Nat → Bool) → Bool} (h : Set1 k a ra o) (h' : Set1 k b rb o') (op : Int) : Set1 k (combD a ra b rb op).1 (combD a ra b rb op).2 (fun e => opB op (o e) (o' e)) := by
  obtain ⟨v, m⟩ := comb_vd h.vd h'.vd op
  refine ⟨v, numbered_vars (at2_vars h.vd.dok h'.vd.dok h.vin h'.vin op _ _ _ _ h.vd.2.1 h'.vd.2.1 h.vd.2.2.1 h'.vd.2.2.1 (VIn.nil k)) _, fun e => ?_⟩
  rw [m e, h.mean, h'.mean]
theorem op_set {k : Nat} (hk : k ≤ 12) {a b : List Br} {ra rb : Int} {o o' : (Nat → Bool) → Bool} (h : Set1 k a ra o) (h' : Set1 k b rb o') (op : Int) : opD a ra b rb op = (combD a ra b rb op, 0) := by
  have l := (comb_set h h' op).len hk
  unfold opD
  rw [if_neg (fun hh => hh (h.chk hk)), if_neg (fun hh => hh (h'.chk hk))]
  unfold limD
  rw [if_neg (by omega)]
theorem const_set (k : Nat) (b : Bool) : Set1 k [] (if b then 1 else 0) (fun _ => b) := by
  refine ⟨⟨fun j x hx => by simp at hx, by cases b <;> decide, by cases b <;> decide, by cases b <;> rfl⟩, VIn.nil k, fun e => ?_⟩
  rw [ev_lt (by cases b <;> decide)]; cases b <;> rfl

/-! ### Canonical formulas, branch by branch -/
end
end Go.Proofs.YtedopgkbajhanaaGreatDoor

namespace Go.Proofs.YtedopgkbajhanaaGreatDoor
section
open Go Go.RowKit

/-! ### Expressions -/
/-- What an expression is: a formula, or an error number. -/
def parseT (nm : List (List Nat)) (s : List Nat) : Except Int Fm := if numsOk nm then
    if (lexA s).2 then match wholeT (ixN nm) (s.length + 1) (lexA s).1 with
      | none => .error 31
      | some (t, u, ts) => if ts ≠ [] then .error 31 else if u then .error 3 else if 512 < szF t then .error 2 else .ok t
    else .error 31
  else .error 1
theorem parse_T (nm : List (List Nat)) (s : List Nat) : parseP nm s = match parseT nm s with
    | .ok t => (postF t 0, 0)
    | .error e => ([], e) := by
  rw [parse_tok]
  unfold parseK parseT
  cases numsOk nm with
  | false => rfl
  | true =>
    cases (lexA s).2 with
    | false => rfl
    | true =>
      simp only [if_true]
      cases wholeT (ixN nm) (s.length + 1) (lexA s).1 with
      | none => rfl
      | some q =>
        obtain ⟨t, u, ts⟩ := q
        simp only
        by_cases h1 : ts ≠ []
        · rw [if_pos h1, if_pos h1]
        · rw [if_neg h1, if_neg h1]
          by_cases h2 : u = true
          · rw [if_pos h2, if_pos h2]
          · rw [if_neg h2, if_neg h2]
            by_cases h3 : 512 < szF t
            · rw [if_pos h3, if_pos h3]
            · rw [if_neg h3, if_neg h3]

/-- A formula's conditions lie below a bound, if none is unknown. -/
def KnownT (N : Nat) (opd : List (List Nat) → Option (Fm × Bool × List (List Nat))) : Prop := ∀ ts t ts', opd ts = some (t, false, ts') → VarsIn N t
theorem loopT_known {N : Nat} {op : List Nat} {mk : Fm → Fm → Fm} {opd : List (List Nat) → Option (Fm × Bool × List (List Nat))} (hm : ∀ a b, VarsIn N a → VarsIn N b → VarsIn N (mk a b)) (h : KnownT N opd) :
    ∀ (m : Nat) (a : Fm) (u : Bool) (ts : List (List Nat)) (t : Fm) (ts' : List (List Nat)), (u = false → VarsIn N a) → loopT op mk opd m a u ts = some (t, false, ts') → VarsIn N t
  | 0, a, u, ts, t, ts', _, hh => by cases hh
  | m + 1, a, u, ts, t, ts', ha, hh => by
    unfold loopT at hh
    split at hh
    · cases ho : opd ts.tail with
      | none => rw [ho] at hh; cases hh
      | some q =>
        obtain ⟨b, v, ts2⟩ := q
        rw [ho] at hh
        refine loopT_known hm h m _ _ _ t ts' (fun huv => ?_) hh
        cases u <;> cases v <;> simp at huv
        exact hm _ _ (ha rfl) (h _ _ _ ho)
    · cases hh; exact ha rfl
theorem chainT_known {N : Nat} {op : List Nat} {mk : Fm → Fm → Fm} {opd : List (List Nat) → Option (Fm × Bool × List (List Nat))} (hm : ∀ a b, VarsIn N a → VarsIn N b → VarsIn N (mk a b)) (h : KnownT N opd) : KnownT N (chainT op mk opd) := fun ts t ts' hh => by
  unfold chainT at hh
  cases ho : opd ts with
  | none => rw [ho] at hh; cases hh
  | some q =>
    obtain ⟨a, u, ts2⟩ := q
    rw [ho] at hh
    exact loopT_known hm h _ _ _ _ t ts' (fun hu => by subst hu; exact h _ _ _ ho) hh
theorem facT_known {N : Nat} {ix : List Nat → Option Nat} (hx : ∀ l n, ix l = some n → n < N) : ∀ n, KnownT N (facT ix n)
  | 0 => fun ts t ts' h => by cases h
  | n + 1 => fun ts t ts' h => by
    have ih := facT_known hx n
    cases ts with
    | nil => cases h
    | cons w ts =>
      unfold facT at h
      split at h
      · cases ho : facT ix n ts with
        | none => rw [ho] at h; cases h
        | some q =>
          obtain ⟨a, u, ts2⟩ := q
          rw [ho] at h
          cases h
          exact show VarsIn N a from ih _ _ _ ho
      split at h
      · cases ho : chainT [124, 124] Fm.or (chainT [38, 38] Fm.and (facT ix n)) ts with
        | none => rw [ho] at h; cases h
        | some q =>
          obtain ⟨a, u, ts2⟩ := q
          rw [ho] at h
          simp only at h
          split at h
          · cases h
            exact chainT_known (mk := Fm.or) (fun _ _ h h' => ⟨h, h'⟩) (chainT_known (mk := Fm.and) (fun _ _ h h' => ⟨h, h'⟩) ih) _ _ _ ho
          · cases h
      split at h
      · simp only [Option.some.injEq, Prod.mk.injEq] at h
        obtain ⟨rfl, h2, _⟩ := h
        unfold wordT at h2 ⊢
        split
        · trivial
        · split
          · trivial
          · rename_i h3 h4
            rw [if_neg h3, if_neg h4] at h2
            simp only at h2
            cases hi : ix w with
            | none => rw [hi] at h2; cases h2
            | some k => exact hx _ _ hi
      · cases h
theorem ixR_lt (l : List Nat) (N : Nat) : ∀ (names : List (List Nat)) (i : Nat) (acc : Option Nat), (∀ n, acc = some n → n < N) → i + names.length ≤ N → ∀ n, ixR l names i acc = some n → n < N
  | [], i, acc, ha, _, n, h => ha n h
  | s :: names, i, acc, ha, hl, n, h => by
    unfold ixR at h
    refine ixR_lt l N names (i + 1) _ (fun m hm => ?_) (by simp at hl; omega) n h
    split at hm
    · cases hm; simp at hl; omega
    · exact ha m hm
theorem ixN_lt {names : List (List Nat)} {l : List Nat} {n : Nat} (h : ixN names l = some n) : n < names.length := ixR_lt l _ names 0 none (fun _ h => by cases h) (by omega) n h
theorem parseT_ok {nm : List (List Nat)} {s : List Nat} {t : Fm} (h : parseT nm s = .ok t) : numsOk nm = true ∧ VarsIn nm.length t ∧ szF t ≤ 512 := by
  unfold parseT at h
  split at h
  · rename_i hn
    split at h
    · split at h
      · cases h
      · rename_i t' u ts hw
        split at h
        · cases h
        split at h
        · cases h
        split at h
        · cases h
        · rename_i hu hs
          cases h
          have hu : u = false := by simpa using hu
          subst hu
          exact ⟨hn, chainT_known (mk := Fm.or) (fun _ _ h h' => ⟨h, h'⟩) (chainT_known (mk := Fm.and) (fun _ _ h h' => ⟨h, h'⟩) (facT_known (fun l n h => ixN_lt h) _)) _ _ _ hw, by omega⟩
    · cases h
  · cases h
theorem parseT_err {nm : List (List Nat)} {s : List Nat} {e : Int} (h : parseT nm s = .error e) : e = 1 ∨ e = 2 ∨ e = 3 ∨ e = 31 := by
  unfold parseT at h
  repeat' split at h
  all_goals first | cases h | skip
  all_goals simp

/-- A set of configurations, by its members. -/
abbrev BF := (Nat → Bool) → Bool
/-- The set of an expression, or an error number. -/
def setE (nm : List (List Nat)) (s : List Nat) : Except Int BF := match parseT nm s with
  | .ok t => .ok (evF t)
  | .error e => .error (if e = 2 then 2 else 71)

/-! ### Lines -/
inductive Dir where
  | txt
  | ifd (s : List Nat)
  | elif (s : List Nat)
  | els
  | en
  | inc (s : List Nat)
def pIf : List Nat := [35, 105, 102, 32]
def pElif : List Nat := [35, 101, 108, 105, 102, 32]
def pInc : List Nat := [35, 105, 110, 99, 108, 117, 100, 101, 32]
def lElse : List Nat := [35, 101, 108, 115, 101]
def lEnd : List Nat := [35, 101, 110, 100]
/-- What a line is. -/
def dirOf (s : List Nat) : Dir := if pIf.isPrefixOf s then .ifd (s.drop 4) else if pInc.isPrefixOf s then .inc (s.drop 9) else if pElif.isPrefixOf s then .elif (s.drop 6) else if s = lElse then .els else if s = lEnd then .en else .txt

/-- The lines of a text; each lacks its line feed. -/
def linesOf : List Nat → List (List Nat)
  | [] => []
  | b :: l => if b = 10 then [] :: linesOf l else match linesOf l with
    | [] => [[b]]
    | s :: ls => (b :: s) :: ls
/-- The text of some lines. -/
def unl (ls : List (List Nat)) : List Nat := ls.flatMap (fun s => s ++ [10])
theorem unl_cons (s : List Nat) (ls : List (List Nat)) : unl (s :: ls) = s ++ 10 :: unl ls := by simp [unl]
theorem unl_le (ls : List (List Nat)) : ls.length ≤ (unl ls).length := by
  induction ls with
  | nil => exact Nat.le_refl _
  | cons s ls ih => rw [unl_cons]; simp only [List.length_cons, List.length_append]; omega
/-- No line has a line feed. -/
def Lines (ls : List (List Nat)) : Prop := ∀ s ∈ ls, 10 ∉ s
theorem linesOf_line (s l : List Nat) (h : 10 ∉ s) : linesOf (s ++ 10 :: l) = s :: linesOf l := by
  induction s with
  | nil => simp [linesOf]
  | cons b s ih =>
    simp only [List.mem_cons, not_or] at h
    rw [List.cons_append, linesOf, if_neg (fun e => h.1 e.symm), ih h.2]
theorem linesOf_unl {ls : List (List Nat)} (h : Lines ls) : linesOf (unl ls) = ls := by
  induction ls with
  | nil => rfl
  | cons s ls ih => rw [unl_cons, linesOf_line _ _ (h s (by simp)), ih (fun t ht => h t (by simp [ht]))]
/-- A text that is empty or ends with a line feed. -/
def TextOk (l : List Nat) : Prop := l = [] ∨ l.getLast? = some 10
theorem linesOf_lines : ∀ (l : List Nat), Lines (linesOf l)
  | [] => fun s hs => by simp [linesOf] at hs
  | b :: l => by
    have ih := linesOf_lines l
    intro s hs
    unfold linesOf at hs
    split at hs
    · simp only [List.mem_cons] at hs
      rcases hs with rfl | hs
      · simp
      · exact ih s hs
    · rename_i hb
      cases hl : linesOf l with
      | nil =>
        rw [hl] at hs
        simp only [List.mem_singleton] at hs
        subst hs
        simpa using fun e => hb e.symm
      | cons t ls =>
        rw [hl] at hs ih
        simp only [List.mem_cons] at hs
        rcases hs with rfl | hs
        · have := ih t (by simp)
          simp only [List.mem_cons, not_or]
          exact ⟨fun e => hb e.symm, this⟩
        · exact ih s (by simp [hs])
theorem unl_linesOf : ∀ {l : List Nat}, TextOk l → unl (linesOf l) = l
  | [], _ => rfl
  | b :: l, h => by
    have hl : TextOk l := by
      cases l with
      | nil => exact .inl rfl
      | cons c l => right; rcases h with h | h; cases h; simpa using h
    have ih := unl_linesOf hl
    unfold linesOf
    split
    · rename_i hb; subst hb; rw [unl_cons, ih]; rfl
    · rename_i hb
      cases hls : linesOf l with
      | nil =>
        rw [hls] at ih
        have : l = [] := ih.symm
        subst this
        rcases h with h | h
        · cases h
        · simp at h; exact absurd h hb
      | cons t ls =>
        rw [hls] at ih
        simp only [unl_cons] at ih ⊢
        rw [List.cons_append, ih]
theorem unl_ok (ls : List (List Nat)) : TextOk (unl ls) := by
  induction ls with
  | nil => exact .inl rfl
  | cons s ls ih =>
    right
    rw [unl_cons]
    rcases ih with h | h
    · rw [h]; simp
    · rw [List.getLast?_append, List.getLast?_cons, h]; simp

/-! ### Reading -/
/-- A run of lines of a file under a condition. -/
structure Sg where
  f : Nat
  t : Nat
  fl : Nat
  at_ : Nat
  o : BF
/-- What was read so far; whether the next line of text begins a segment. -/
structure Gs where
  tx : List Nat
  sg : List Sg
  fr : Bool
/-- An open section. -/
structure Se where
  ou : BF
  re : BF
  ot : Bool
  ln : Nat
/-- Where an error is. -/
structure Pl where
  e : Int
  f : Int
  l : Int
def setTo (n : Nat) : List Sg → List Sg
  | [] => []
  | [x] => [{ x with t := n }]
  | x :: y :: l => x :: setTo n (y :: l)
theorem setTo_snoc (n : Nat) (l : List Sg) (x : Sg) : setTo n (l ++ [x]) = l ++ [{ x with t := n }] := by
  induction l with
  | nil => rfl
  | cons y l ih =>
    cases l with
    | nil => rfl
    | cons z l => rw [List.cons_append, List.cons_append] at *; rw [setTo, ih]; rfl
/-- A line of text is added. -/
def addG (s : List Nat) (fl at_ : Nat) (k : BF) (g : Gs) : Option Gs :=
  if 1048576 < g.tx.length + s.length ∨ (g.fr = true ∧ g.sg.length = 65536) then none
  else some ⟨g.tx ++ s, setTo (g.tx.length + s.length) (if g.fr then g.sg ++ [⟨g.tx.length, 0, fl, at_, k⟩] else g.sg), false⟩
/-- The file that an include names. -/
def incE (ix : List Nat → Option Nat) (rd : List Nat) (s : List Nat) : Except Int Nat :=
  if s.length < 2 ∨ s.head? ≠ some 34 ∨ s.getLast? ≠ some 34 ∨ s.count 34 ≠ 2 then .error 71
  else match ix ((s.drop 1).take (s.length - 2)) with
    | none => .error 73
    | some n => if n ∈ rd then .error 73 else .ok n
abbrev bAnd (a b : BF) : BF := fun e => a e && b e
abbrev bSub (a b : BF) : BF := fun e => a e && !b e
/-- The lines of a file: inc reads what an include names (its line, the condition, what was read, how many sections are open). -/
def rdL (nm : List (List Nat)) (fl d0 : Nat) (inc : List Nat → Nat → Nat → BF → Gs → Except Pl Gs) : List (List Nat) → Nat → Nat → BF → List Se → Gs → Except Pl Gs
  | [], _, _, _, op, g => match op with
    | [] => .ok { g with fr := true }
    | x :: _ => .error ⟨72, fl, x.ln⟩
  | s :: ls, ln, at_, k, op, g => match dirOf s with
    | .ifd r => match setE nm r with
      | .error e => .error ⟨e, fl, ln + 1⟩
      | .ok d => if d0 + op.length = 64 then .error ⟨2, fl, ln + 1⟩ else rdL nm fl d0 inc ls (ln + 1) (at_ + s.length + 1) (bAnd k d) (⟨k, bSub k d, false, ln + 1⟩ :: op) { g with fr := true }
    | .inc r => match inc r (ln + 1) (d0 + op.length) k g with
      | .error p => .error p
      | .ok g' => rdL nm fl d0 inc ls (ln + 1) (at_ + s.length + 1) k op { g' with fr := true }
    | .elif r => match op with
      | [] => .error ⟨72, fl, ln + 1⟩
      | x :: op' => if x.ot then .error ⟨71, fl, ln + 1⟩ else match setE nm r with
        | .error e => .error ⟨e, fl, ln + 1⟩
        | .ok d => rdL nm fl d0 inc ls (ln + 1) (at_ + s.length + 1) (bAnd x.re d) ({ x with re := bSub x.re d } :: op') { g with fr := true }
    | .els => match op with
      | [] => .error ⟨72, fl, ln + 1⟩
      | x :: op' => if x.ot then .error ⟨71, fl, ln + 1⟩ else rdL nm fl d0 inc ls (ln + 1) (at_ + s.length + 1) x.re ({ x with ot := true } :: op') { g with fr := true }
    | .en => match op with
      | [] => .error ⟨72, fl, ln + 1⟩
      | x :: op' => rdL nm fl d0 inc ls (ln + 1) (at_ + s.length + 1) x.ou op' { g with fr := true }
    | .txt => match addG (s ++ [10]) fl at_ k g with
      | none => .error ⟨2, fl, ln + 1⟩
      | some g' => rdL nm fl d0 inc ls (ln + 1) (at_ + s.length + 1) k op g'
/-- A file: its number, the files that are being read, how many sections and files are open. -/
def rdF (nm : List (List Nat)) (fs : List (List Nat × List Nat)) : Nat → List Nat → Nat → Nat → BF → Gs → Except Pl Gs
  | 0, _, _, _, _, _ => .error ⟨0, 0, 0⟩
  | f + 1, rd, d, n, k, g => rdL nm n d (fun r ln d k g => match incE (ixN (fs.map (·.1))) (n :: rd) r with
      | .error e => .error ⟨e, n, ln⟩
      | .ok m => if d = 64 then .error ⟨2, n, ln⟩ else rdF nm fs f (n :: rd) (d + 1) m k g) (linesOf ((fs[n]?.map (·.2)).getD [])) 0 0 k [] { g with fr := true }

/-- A name of a file. -/
def fnameOk (s : List Nat) : Bool := decide (s ≠ []) && s.all (fun b => decide (32 ≤ b) && b != 34 && b != 127)
def textB (l : List Nat) : Bool := decide (l = []) || l.getLast? == some 10
/-- The first error of the files. -/
def chkFs : List (List Nat × List Nat) → List (List Nat) → Nat → Option Pl
  | [], _, _ => none
  | x :: l, seen, i => if ¬ (fnameOk x.1 = true ∧ x.1 ∉ seen ∧ textB x.2 = true) then some ⟨70, i, 0⟩ else if 1048576 < x.2.length then some ⟨2, i, 0⟩ else chkFs l (seen ++ [x.1]) (i + 1)
def filesE (fs : List (List Nat × List Nat)) : Option Pl := if 256 < fs.length then some ⟨2, -1, 0⟩ else chkFs fs [] 0
/-- What Read answers. -/
def readE (nm : List (List Nat)) (fs : List (List Nat × List Nat)) (root : List Nat) : Except Pl Gs :=
  if numsOk nm = false then .error ⟨30, -1, 0⟩ else match filesE fs with
    | some p => .error p
    | none => match ixN (fs.map (·.1)) root with
      | none => .error ⟨73, -1, 0⟩
      | some n => rdF nm fs 65 [] 0 n (fun _ => true) ⟨[], [], false⟩
end
end Go.Proofs.YtedopgkbajhanaaGreatDoor

namespace Go.Proofs.YtedopgkbajhanaaGreatDoor
section
open Go Go.RowKit

theorem dsides_fn (A : Option Addr) (n c : Nat) (r m v : Int) (nd : List Br) (w : World) (h : SB w A n c nd) (hm : m < n + 2) (h64 : v < 64) :
    Fn Tryz.prog 102 [dgV A n c r, .int .i64 m, .int .i64 v] w (fun u w' => u = .tuple #[.int .i64 (sideD nd m v).1, .int .i64 (sideD nd m v).2] ∧ Ext w w') := by
  have hlen := h.2
  have hcap : n ≤ 9223372036854775807 := by have := h.1.le; have := h.1.cap; simp only [maxLen] at this; omega
  refine fn_of_exec (c := { c102 with cuts := [] }) gx_ok Tryz.func102 rfl rfl rfl ?_
  refine new (fun w1 hE1 hz1 hB1 => ?_)
  refine loadN_blk0 hB1 rfl ?_
  refine call (level_fn A n c r m nd w1 (h.ext hE1) hm) ?_
  rintro u w2 ⟨rfl, hE2⟩
  have hE02 := hE1.trans hE2
  have hB2 := hB1.ext hE2
  refine wif_ne (fun c1 => ?_) (fun c1 => ?_)
  · exact ⟨by unfold sideD; rw [if_pos c1], hE02⟩
  · have h2n : ¬ m < 2 := fun h2 => by
      unfold lvlD at c1
      rw [if_pos h2] at c1
      omega
    have hx := List.getElem?_eq_getElem (show (m - 2).toNat < nd.length by omega)
    generalize nd[(m - 2).toNat] = b at hx
    have e : sideD nd m v = (b.l, b.h) := by unfold sideD; rw [if_neg (by omega), hx]
    rw [e]
    refine draw_plan gx_ok (Ext w2) 16 [(true, 0), (true, 1), (true, 2), (true, 3), (true, 4), (true, 5), (true, 6), (true, 7), (true, 8), (true, 9), (true, 10), (true, 11), (true, 12), (true, 13), (true, 14), (true, 15)] (by kernel_rfl) (Ext.drew w2) ?_
    refine qload (v := .slice A n c) (fun w' hw' => by rw [(hB2.ext hw').cell]; rfl) ?_
    refine norm_i64_to (((m - 2).toNat : Nat) : Int) (by omega) (by omega) ?_
    refine index_sls br_len (h.ext hE02) rfl (by omega) (fun p z hz hc => ?_)
    have hzb : z = b := Option.some.inj (hz.symm.trans hx)
    subst hzb
    refine qload (v := .int .i64 z.l) (fun w' hw' => hw'.cell (hc 1 _ rfl)) ?_
    refine qload (v := .slice A n c) (fun w' hw' => by rw [(hB2.ext hw').cell]; rfl) ?_
    refine norm_i64_to (((m - 2).toNat : Nat) : Int) (by omega) (by omega) ?_
    refine index_sls br_len (h.ext hE02) rfl (by omega) (fun p' z' hz' hc' => ?_)
    have hzb' : z' = z := Option.some.inj (hz'.symm.trans hx)
    subst hzb'
    refine qload (v := .int .i64 z'.h) (fun w' hw' => hw'.cell (hc' 2 _ rfl)) ?_
    exact ⟨rfl, hE02.trans (Ext.drew w2)⟩

/-! ### The builder -/
def idxV (nd : List Br) (b : Br) : Option Value := (fstIdx b nd).map fun i => .int .i64 ((i + 2 : Nat) : Int)
/-- A builder: its branches, and the map that knows them. -/
structure Bd (w : World) (base pb km : Nat) (NA : Option Addr) (nc : Nat) (nd : List Br) : Prop where
  blk : Blk w pb 159 [.slice NA nd.length nc, .map (some km)]
  own : Own w base 116 3 NA nd.length nc (brV nd)
  known : ∃ m, MapQ brK w km m ∧ ∀ b, assoc b m = idxV nd b
  lt : pb < base ∧ km < base ∧ pb ≠ km
  top : base ≤ w.heap.size
theorem Bd.ext {w w' : World} {base pb km : Nat} {NA : Option Addr} {nc : Nat} {nd : List Br} (h : Bd w base pb km NA nc nd) (k : Ext w w') : Bd w' base pb km NA nc nd :=
  ⟨h.blk.ext k, h.own.ext k, let ⟨m, h1, h2⟩ := h.known; ⟨m, h1.ext k, h2⟩, h.lt, Nat.le_trans h.top k.size⟩
def BS (pb km : Nat) (NA : Option Addr) : Nat → Prop := fun k => k = pb ∨ k = km ∨ rowS NA k
theorem BS.moved {w : World} {pb km : Nat} {A A' : Option Addr} (h : Moved w A A') : ∀ k, BS pb km A' k → BS pb km A k ∨ w.heap.size ≤ k := by
  rintro k (rfl | rfl | hk)
  · exact .inl (.inl rfl)
  · exact .inl (.inr (.inl rfl))
  · rcases h.rows k hk with h | h
    · exact .inl (.inr (.inr h))
    · exact .inr h
def BdTo (w : World) (base pb km : Nat) (NA : Option Addr) (nd : List Br) (w' : World) : Prop := ∃ NA' nc', Bd w' base pb km NA' nc' nd ∧ Mod (BS pb km NA) w w' ∧ Moved w NA NA'

theorem fst_snoc (b x : Br) : ∀ l : List Br, fstIdx x l = none → fstIdx b (l ++ [x]) = if b = x then some l.length else fstIdx b l
  | [], _ => by
    show (if x = b then some 0 else (none : Option Nat).map (· + 1)) = _
    by_cases h : x = b
    · rw [if_pos h, if_pos h.symm]; rfl
    · rw [if_neg h, if_neg (fun e => h e.symm)]; rfl
  | y :: l, hx => by
    have hy : y ≠ x := fun e => by rw [fstIdx, if_pos e] at hx; cases hx
    have hl : fstIdx x l = none := by
      rw [fstIdx, if_neg hy] at hx
      cases hh : fstIdx x l with
      | none => rfl
      | some k => rw [hh] at hx; cases hx
    have ih := fst_snoc b x l hl
    show (if y = b then some 0 else (fstIdx b (l ++ [x])).map (· + 1)) = if b = x then some (l.length + 1) else if y = b then some 0 else (fstIdx b l).map (· + 1)
    rw [ih]
    by_cases h1 : b = x
    · rw [if_pos h1, if_pos h1, if_neg (fun e => hy (e.trans h1))]; rfl
    · rw [if_neg h1, if_neg h1]

theorem uniq_some {b : Br} {nd : List Br} {i : Nat} (h : b.l ≠ b.h) (k : fstIdx b nd = some i) : uniqD b nd = (nd, ((i + 2 : Nat) : Int)) := by unfold uniqD; rw [if_neg h, k]
theorem uniq_none {b : Br} {nd : List Br} (h : b.l ≠ b.h) (k : fstIdx b nd = none) : uniqD b nd = (nd ++ [b], ((nd.length + 2 : Nat) : Int)) := by unfold uniqD; rw [if_neg h, k]

theorem dbranch_fn (base pb km : Nat) (NA : Option Addr) (nc : Nat) (nd : List Br) (b : Br) (w : World) (h : Bd w base pb km NA nc nd) (hl : nd.length + 1 ≤ 1000000000000) :
    Fn Tryz.prog 136 [.pointer (some ⟨pb, 0, none⟩), .int .i64 b.v, .int .i64 b.l, .int .i64 b.h] w (fun u w' => u = .int .i64 (uniqD b nd).2 ∧ BdTo w base pb km NA (uniqD b nd).1 w') := by
  obtain ⟨p1, p2, p3⟩ := h.lt
  have htop := h.top
  have hrows := h.own.rows
  refine fn_of_exec (c := { c136 with cuts := [] }) gx_ok Tryz.func136 rfl rfl rfl ?_
  refine wif_eq (fun c1 => ?_) (fun c1 => ?_)
  · have e : uniqD b nd = (nd, b.l) := by unfold uniqD; rw [if_pos c1]
    rw [e]
    exact ⟨rfl, NA, nc, h, Mod.refl _ _, Moved.refl _ _⟩
  refine new (fun w1 hE1 hz1 hB1 => ?_)
  refine storeN_blk0 hB1 rfl (sc rfl) (fun w2 hg2 hz2 hB2 => ?_)
  have hE2 : Ext w w2 := newBox hE1 hB1 hg2
  replace hB2 : Blk w2 w.heap.size 116 b.cells := hB2
  have h2 := h.ext hE2
  obtain ⟨m, hm, hmem⟩ := h2.known
  refine draw_plan gx_ok (Ext w2) 11 [(true, 0), (true, 1), (true, 2), (true, 3), (true, 4), (false, 5), (true, 6), (true, 7), (true, 8), (true, 9), (true, 10)] (by kernel_rfl) (Ext.drew w2) ?_
  refine qload (v := .map (some km)) (fun w' hw' => by rw [(h2.blk.ext hw').cell]; rfl) ?_
  refine qloadN (vs := b.cells) rfl (fun w' hw' j v hj => by rw [(hB2.ext hw').cell]; exact hj) ?_
  refine at_lookupQ_ok (kv := brK) (a := b) gx_ok rfl rfl rfl rfl brKey rfl rfl (hm.ext (Ext.drew w2)) ?_
  refine ⟨Ext.drew w2, ?_⟩
  have hE02 := hE2.trans (Ext.drew w2)
  have hB3 := hB2.ext (Ext.drew w2)
  have h3 := h2.ext (Ext.drew w2)
  have hm3 := hm.ext (Ext.drew w2)
  have hz3 : w2.heap.size ≤ w2.drew.heap.size := (Ext.drew w2).size
  generalize w2.drew = w3 at *
  cases hf : fstIdx b nd with
  | some i =>
    have ha : assoc b m = some (.int .i64 ((i + 2 : Nat) : Int)) := by rw [hmem, idxV, hf]; rfl
    have hx0 := uniq_some c1 hf
    refine wif_not (wif_t (by rw [ha]; rfl) ?_)
    rw [hx0]
    exact ⟨by rw [ha]; rfl, NA, nc, h3, Mod.of_ext _ hE02, Moved.refl _ _⟩
  | none =>
    have ha : assoc b m = none := by rw [hmem, idxV, hf]; rfl
    have hx0 := uniq_none c1 hf
    refine wif_not (wif_f (by rw [ha]; rfl) ?_)
    rw [hx0]
    have n3 : w1.heap.size = w.heap.size + 1 := hz1
    have hpr : ¬ rowS NA pb := fun hr => by have := (hrows _ hr).1; omega
    have hxr : ¬ rowS NA w.heap.size := fun hr => by have := (hrows _ hr).2; omega
    refine draw_plan gx_ok (Mod (rowS NA) w3) 8 [(true, 0), (true, 1), (true, 2), (true, 3), (true, 4), (true, 5), (false, 6), (false, 7)] (by kernel_rfl) (Mod.of_ext _ (Ext.drew w3)) ?_
    refine qload (v := .slice NA nd.length nc) (fun w' hw' => by rw [(h3.blk.mod hw' hpr).cell]; rfl) ?_
    refine qloadN (vs := b.cells) rfl (fun w' hw' j v hj => by rw [(hB3.mod hw' hxr).cell]; exact hj) ?_
    refine at_buildN gx_ok [b.cells] rfl rfl rfl rfl rfl ⟨rfl, rfl, ⟨⟩⟩ rfl (fun cs h => by simp only [List.mem_singleton] at h; subst h; rfl) rfl (by decide) (by decide) ?_
    intro w4 hE4 hz4 hB4
    have hE34 := (Ext.drew w3).trans hE4
    have h4 := h3.ext hE34
    refine ⟨Mod.of_ext _ hE34, ?_⟩
    have hs4 : Sl w4 3 (some ⟨w3.drew.heap.size, 0, none⟩) 1 1 b.cells := Sl.own (sz := 3) (n := 1) hB4 (Nat.le_refl _) (by decide) (by simp [Br.cells])
    refine at_app (n := nd.length) gx_ok rfl rfl rfl rfl rfl (by decide) rfl rfl ⟨_, rfl⟩ rfl rfl h4.own hs4 (by intro u hu; simp [Br.cells] at hu; rcases hu with rfl | rfl | rfl <;> rfl) (by unfold maxLen; omega) (by show _ * 24 ≤ _; omega) h4.top ?_
    intro A' c' w5 hm5 hown5 hmv5
    have hM35 : Mod (rowS NA) w3 w5 := (Mod.of_ext (rowS NA) hE34).trans hm5 (fun i hi => .inl hi)
    refine ⟨hM35, ?_⟩
    have hz5 := hM35.size
    have hz34 := hE34.size
    have hz02 := hE02.size
    refine store_mod (h3.blk.mod hM35 hpr) (by simp) (fun w6 hm6 hB6 => ?_)
    have hz6 := hm6.size
    have ar : ∀ i, rowS A' i → base ≤ i := fun i hi => (hown5.rows i hi).1
    have hB6' : Blk w6 pb 159 [.slice A' (nd.length + 1) c', .map (some km)] := hB6
    refine load_blk0 hB6' rfl ?_
    refine norm_i64_to ((nd.length + 2 : Nat) : Int) (by show ((nd.length + 1 : Nat) : Int) + 1 = _; omega) (by omega) ?_
    have hx6 := (hB3.mod hM35 hxr).mod hm6 (by show ¬ w.heap.size = pb; omega)
    have hq6 : MapQ brK w6 km m := (hm3.mod hM35 (fun hr => by have := (hrows _ hr).1; omega)).mod hm6 (by show ¬ km = pb; omega)
    refine draw_plan gx_ok (Ext w6) 6 [(true, 0), (true, 1), (true, 2), (true, 3), (true, 4), (true, 5)] (by kernel_rfl) (Ext.drew w6) ?_
    refine qload (v := .map (some km)) (fun w' hw' => by rw [(hB6'.ext hw').cell]; rfl) ?_
    refine qloadN (vs := b.cells) rfl (fun w' hw' j v hj => by rw [(hx6.ext hw').cell]; exact hj) ?_
    refine at_mapUpdateQ (kv := brK) (a := b) gx_ok rfl rfl rfl rfl brKey rfl rfl rfl (hq6.ext (Ext.drew w6)) (fun w8 hm8 hz8 hq8 => ?_)
    have hM68 : Mod (· = km) w6 w8 := (Mod.of_ext (· = km) (Ext.drew w6)).trans hm8 (fun i hi => .inl hi)
    have hM3 : Mod (BS pb km NA) w w3 := Mod.of_ext _ hE02
    have hM5 : Mod (BS pb km NA) w w5 := hM3.trans hM35 (fun i hi => .inl (.inr (.inr hi)))
    have hM6 : Mod (BS pb km NA) w w6 := hM5.trans hm6 (fun i hi => .inl (.inl hi))
    have hM8 : Mod (BS pb km NA) w w8 := hM6.trans hM68 (fun i hi => .inl (.inr (.inl hi)))
    have el : (nd ++ [b]).length = nd.length + 1 := by simp
    refine ⟨rfl, A', c', ⟨?_, ?_, ⟨_, hq8, fun x => ?_⟩, h.lt, Nat.le_trans htop hM8.size⟩, hM8, hmv5.back (by omega)⟩
    · rw [el]; exact hB6'.mod hM68 (by show ¬ pb = km; omega)
    · rw [el, brV_snoc]
      exact (hown5.mod hm6 (fun i hi e => by have := ar i hi; have e' : i = pb := e; omega)).mod hM68 (fun i hi e => by have := ar i hi; have e' : i = km := e; omega)
    · rw [assoc_set, hmem, idxV, idxV, fst_snoc x b nd hf]
      by_cases hxb : x = b
      · rw [if_pos hxb, if_pos hxb]; rfl
      · rw [if_neg hxb, if_neg hxb]

/-! ### Check of several, limited, Constant, Var, the closures -/
theorem dcheck_fn (F : Option Addr) (m cf : Nat) (L : List DV) (w : World) (h : SlS DV.cells 2 w F m cf L) (hL : ∀ x ∈ L, SB w x.A x.n x.c x.nd) :
    Fn Tryz.prog 62 [.slice F m cf] w (fun v w' => v = .int .i64 (firstD L) ∧ Ext w w') := by
  have hlen := h.2
  have hcap : m ≤ 9223372036854775807 := by have := h.1.le; have := h.1.cap; simp only [maxLen] at this; omega
  refine fn_of_exec (c := { c62 with cuts := [] }) gx_ok Tryz.func62 rfl rfl rfl ?_
  refine loop gx_ok [8] (fun s : Nat => [.int .i64 s]) (fun s w' => Ext w w' ∧ s ≤ m ∧ ∀ (j : Nat) (y : DV), j < s → L[j]? = some y → chkD y.nd y.r = 0) (fun s _ => m - s) 0 rfl ⟨Ext.refl w, Nat.zero_le _, fun j y hj => absurd hj (by omega)⟩ ?_
  rintro s w1 ⟨hE1, hs, hall⟩
  refine wif_d (fun h2 => ?_) (fun h2 => ?_)
  · refine index_sls dv_len (h.ext hE1) rfl (by omega) (fun p x hx hc => ?_)
    refine loadN_at (vs := x.cells) rfl hc ?_
    refine new (fun w2 hE2 hz2 hB2 => ?_)
    refine storeN_blk0 hB2 rfl (sc rfl) (fun w3 hg3 hz3 hB3 => ?_)
    have hE3 : Ext w w3 := hE1.trans (newBox hE2 hB2 hg3)
    refine loadN_blk0 hB3 rfl ?_
    refine call (check2_fn x.A x.n x.c x.nd x.r w3 ((hL x (List.mem_of_getElem? hx)).ext hE3)) ?_
    rintro v w4 ⟨rfl, hE4⟩
    refine wif_ne (fun c1 => ?_) (fun c1 => ?_)
    · exact ⟨by rw [firstD_hit hall hx c1], hE3.trans hE4⟩
    · refine norm_i64_to ((s + 1 : Nat) : Int) (by omega) (by omega) ?_
      refine ⟨s + 1, rfl, ⟨hE3.trans hE4, by omega, fun j y hj hy => ?_⟩, by show m - (s + 1) < m - s; omega⟩
      by_cases hjs : j < s
      · exact hall j y hjs hy
      · have : j = s := by omega
        subst this
        rw [Option.some.inj (hy.symm.trans hx)]; exact c1
  · exact ⟨by rw [firstD_none (fun j y hj hy => hall j y (by omega) hy)], hE1⟩

theorem dlimited_fn (A : Option Addr) (n c : Nat) (a : List Br) (ra : Int) (w0 w : World) (h : SB w A n c a) (hr : ∀ i, rowS A i → w0.heap.size ≤ i) (hE : Ext w0 w) :
    Fn Tryz.prog 103 [dgV A n c ra] w (DgE w0 (limD (a, ra))) := by
  have hal := h.2
  refine fn_of_exec (c := { c103 with cuts := [] }) gx_ok Tryz.func103 rfl rfl rfl ?_
  refine new (fun w1 hE1 hz1 hB1 => ?_)
  refine new (fun w2 hE2 hz2 hB2 => ?_)
  have hE02 := hE1.trans hE2
  refine load_blk0 (hB1.ext hE2) rfl ?_
  refine wif_d (fun c1 => ?_) (fun c1 => ?_)
  · have e : limD (a, ra) = (([], 0), 2) := by unfold limD; rw [if_pos (show 4096 < (a, ra).1.length by simp only; omega)]
    rw [e]
    refine storeN_blk0 hB2 rfl (sc rfl) (fun w3 hg3 _ hB3 => ?_)
    have hM3 : Mod (· = w1.heap.size) w2 w3 := Mod.of_grown hg3 rfl
    refine loadN_blk0 hB3 rfl ?_
    exact ⟨none, 0, 0, rfl, hE.trans (hM3.ext hE02 (fun i hi => by have := hE1.size; omega)), SlS.nil _, fun i ⟨_, e, _⟩ => by cases e⟩
  · have e : limD (a, ra) = ((a, ra), 0) := by unfold limD; rw [if_neg (show ¬ 4096 < (a, ra).1.length by simp only; omega)]
    rw [e]
    refine loadN_blk0 (hB1.ext hE2) rfl ?_
    refine storeN_blk0 hB2 rfl (sc rfl) (fun w3 hg3 _ hB3 => ?_)
    have hM3 : Mod (· = w1.heap.size) w2 w3 := Mod.of_grown hg3 rfl
    refine loadN_blk0 hB3 rfl ?_
    refine ⟨A, n, c, rfl, hE.trans (hM3.ext hE02 (fun i hi => by have := hE1.size; omega)), ⟨(h.ext hE02).1.modS hM3 (fun h0 i hi e => by obtain ⟨ad, rfl, rfl⟩ := hi; have := SB.lt h ad rfl h0; omega), hal⟩, hr⟩

theorem dvar_fn (k : Int) (w : World) (h0 : 0 ≤ k) (h1 : k ≤ 63) : Fn Tryz.prog 148 [.int .i64 k] w (DgE w (([⟨k, 0, 1⟩], 2), 0)) := by
  refine fn_of_exec (c := { c148 with cuts := [] }) gx_ok Tryz.func148 rfl rfl rfl ?_
  refine new (fun w1 hE1 hz1 hB1 => ?_)
  refine wif_df (by omega) ?_
  refine wif_df (by omega) ?_
  refine at_buildN gx_ok [(⟨k, 0, 1⟩ : Br).cells] rfl rfl rfl rfl rfl ⟨rfl, rfl, ⟨⟩⟩ rfl (fun cs h => by simp only [List.mem_singleton] at h; subst h; rfl) rfl (by decide) (by decide) ?_
  intro w2 hE2 hz2 hB2
  refine storeN_blk0 (hB1.ext hE2) rfl (sc rfl) (fun w3 hg3 _ hB3 => ?_)
  have hM3 : Mod (· = w.heap.size) w2 w3 := Mod.of_grown hg3 rfl
  refine loadN_blk0 hB3 rfl ?_
  refine ⟨some ⟨w1.heap.size, 0, none⟩, 1, 1, rfl, hM3.ext (hE1.trans hE2) (fun i hi => by omega), ⟨Sl.own (sz := 3) (n := 1) (hB2.mod hM3 (by omega)) (Nat.le_refl _) (by decide) (by simp [Br.cells]), rfl⟩, fun i ⟨ad, e, hi⟩ => by cases e; simp only at hi; omega⟩

theorem dconst_fn (b : Bool) (w : World) : Fn Tryz.prog 34 [.bool b] w (fun v w' => v = dgV none 0 0 (if b then 1 else 0) ∧ Ext w w') := by
  refine fn_of_exec (c := { c34 with cuts := [] }) gx_ok Tryz.func34 rfl rfl rfl ?_
  refine new (fun w1 hE1 hz1 hB1 => ?_)
  cases b with
  | true =>
    refine wif_t rfl ?_
    refine storeN_blk0 hB1 rfl (sc rfl) (fun w3 hg3 _ hB3 => ?_)
    refine loadN_blk0 hB3 rfl ?_
    exact ⟨rfl, newBox hE1 hB1 hg3⟩
  | false =>
    refine wif_f rfl ?_
    refine storeN_blk0 hB1 rfl (sc rfl) (fun w3 hg3 _ hB3 => ?_)
    refine loadN_blk0 hB3 rfl ?_
    exact ⟨rfl, newBox hE1 hB1 hg3⟩

/-- The closures and their operations. -/
def CloOp (F : Nat) (op : Int) : Prop := (F = 149 ∧ op = 0) ∨ (F = 65 ∧ op = 1) ∨ (F = 150 ∧ op = 3)
theorem clo_fn {F : Nat} {op : Int} (h : CloOp F op) (x y : Bool) (w : World) : Fn Tryz.prog F [.bool x, .bool y] w (fun v w' => v = .bool (opB op x y) ∧ w = w') := by
  rcases h with ⟨rfl, rfl⟩ | ⟨rfl, rfl⟩ | ⟨rfl, rfl⟩
  · refine fn_of_exec (c := { c149 with cuts := [] }) gx_ok Tryz.func149 rfl rfl rfl ?_
    cases x with
    | true =>
      refine wif_t rfl ?_
      exact ⟨rfl, rfl⟩
    | false =>
      refine wif_f rfl ?_
      exact ⟨rfl, rfl⟩
  · refine fn_of_exec (c := { c65 with cuts := [] }) gx_ok Tryz.func65 rfl rfl rfl ?_
    cases x with
    | true =>
      refine wif_t rfl ?_
      exact ⟨rfl, rfl⟩
    | false =>
      refine wif_f rfl ?_
      exact ⟨rfl, rfl⟩
  · refine fn_of_exec (c := { c150 with cuts := [] }) gx_ok Tryz.func150 rfl rfl rfl ?_
    exact ⟨rfl, rfl⟩
theorem bin1_fn {F : Nat} {op : Int} (h : CloOp F op) (ob : Nat) (x y z : Bool) (w : World) (hB : Blk w ob 113 [.func (.func F) #[] #[]]) :
    Fn Tryz.prog 105 [.bool x, .bool y, .bool z, .pointer (some ⟨ob, 0, none⟩)] w (fun v w' => v = .bool (opB op x y) ∧ w = w') := by
  rcases h with ⟨rfl, rfl⟩ | ⟨rfl, rfl⟩ | ⟨rfl, rfl⟩
  · refine fn_of_exec (c := { c105 with cuts := [] }) gx_ok Tryz.func105 rfl rfl rfl ?_
    refine load_blk0 hB rfl ?_
    refine call (clo_fn (op := 0) (.inl ⟨rfl, rfl⟩) x y w) ?_
    rintro _ _ ⟨rfl, rfl⟩
    exact ⟨rfl, rfl⟩
  · refine fn_of_exec (c := { c105 with cuts := [] }) gx_ok Tryz.func105 rfl rfl rfl ?_
    refine load_blk0 hB rfl ?_
    refine call (clo_fn (op := 1) (.inr (.inl ⟨rfl, rfl⟩)) x y w) ?_
    rintro _ _ ⟨rfl, rfl⟩
    exact ⟨rfl, rfl⟩
  · refine fn_of_exec (c := { c105 with cuts := [] }) gx_ok Tryz.func105 rfl rfl rfl ?_
    refine load_blk0 hB rfl ?_
    refine call (clo_fn (op := 3) (.inr (.inr ⟨rfl, rfl⟩)) x y w) ?_
    rintro _ _ ⟨rfl, rfl⟩
    exact ⟨rfl, rfl⟩
end
end Go.Proofs.YtedopgkbajhanaaGreatDoor

namespace Go.Proofs.YtedopgkbajhanaaGreatDoor
section
open Go Go.RowKit

/-! ### Keys that are arrays -/
theorem KeyQ.askingA {α : Type} [DecidableEq α] {P : Program} {ke : Nat} {kv : α → Value} {len elem : Nat} (hu : P.underlying ke = some (.array len elem))
    (heq : ∀ (a b : α) (w : World), (Op.equal ke (kv a) (kv b)).run P w = .ok (decide (a = b)) w) (hc : ∀ b a w, (Instr.checkKey b 10000 ke (kv a)).run P w = .ok () w) (hb : ∀ a, Instr.sameBits 10000 (kv a) (kv a) = true) : KeyQ P ke kv := by
  refine ⟨fun a m bs w hl => ?_, hc, hb⟩
  have key := findAsking_ents (P := P) (ke := ke) (kv := kv) a w (fun b => heq a b w) m bs 0 hl
  obtain ⟨r, h1, h2, h3, h4⟩ := key
  refine ⟨r, ?_, h2, fun j v hj v' => by simpa using (h3 j v hj).2 v', h4⟩
  unfold Instr.findKey
  simp only [Sem.run_bind, run_underlying hu, Result.andThen_ok]
  cases m with
  | nil =>
    simp only [entsOf, List.zip_nil_left, List.map_nil, Instr.findNow, Sem.run_pure]
    simp [entsOf, Instr.findAsking] at h1
    rw [h1]
  | cons p m =>
    cases bs with
    | nil => simp at hl
    | cons s bs =>
      have e : entsOf kv (p :: m) (s :: bs) = { key := kv p.1, val := p.2, born := s } :: entsOf kv m bs := rfl
      rw [e] at h1 ⊢
      have hn : Instr.findNow (.array len elem) (kv a) ({ key := kv p.1, val := p.2, born := s } :: entsOf kv m bs) 0 = none := by
        simp [Instr.findNow, Instr.sameNow]
      rw [hn]
      exact h1
abbrev I3 := Int × Int × Int
abbrev i3C (t : I3) : List Value := [.int .i64 t.1, .int .i64 t.2.1, .int .i64 t.2.2]
abbrev i3K : I3 → Value := fun t => .agg #[.int .i64 t.1, .int .i64 t.2.1, .int .i64 t.2.2]
theorem ci1 : Tryz.prog.cellsOf 3 = 1 := by kernel_rfl
theorem intEq (a b : Int) (n : Nat) (w : World) : (Op.equalIn (n + 1) 3 (.int .i64 a) (.int .i64 b)).run Tryz.prog w = .ok (a == b) w := by
  simp [Op.equalIn, run_underlying Tryz.underlying3]
theorem i3Eq (a b : I3) (n : Nat) (w : World) : (Op.equalIn (n + 2) 199 (i3K a) (i3K b)).run Tryz.prog w = .ok (decide (a = b)) w := by
  obtain ⟨i, hi⟩ := Option.isSome_iff_exists.1 (show (Tryz.prog.info? 3).isSome = true by kernel_rfl)
  obtain ⟨a0, a1, a2⟩ := a
  obtain ⟨b0, b1, b2⟩ := b
  have e := run_equalIn_array (w := w) (n + 1) #[.int .i64 a0, .int .i64 a1, .int .i64 a2] #[.int .i64 b0, .int .i64 b1, .int .i64 b2] Tryz.underlying199 hi
  rw [ci1, show List.range 3 = [0, 1, 2] from rfl] at e
  refine e.trans ?_
  have p0 : ∀ x y z : Int, (part 3 #[Value.int .i64 x, .int .i64 y, .int .i64 z] (0 * 1)).run Tryz.prog w = .ok (.int .i64 x) w := fun x y z => part_one k3 rfl w
  have p1 : ∀ x y z : Int, (part 3 #[Value.int .i64 x, .int .i64 y, .int .i64 z] (1 * 1)).run Tryz.prog w = .ok (.int .i64 y) w := fun x y z => part_one k3 rfl w
  have p2 : ∀ x y z : Int, (part 3 #[Value.int .i64 x, .int .i64 y, .int .i64 z] (2 * 1)).run Tryz.prog w = .ok (.int .i64 z) w := fun x y z => part_one k3 rfl w
  have dd : decide ((a0, a1, a2) = (b0, b1, b2)) = (a0 == b0 && (a1 == b1 && a2 == b2)) := by
    by_cases h0 : a0 = b0 <;> by_cases h1 : a1 = b1 <;> by_cases h2 : a2 = b2 <;> simp [h0, h1, h2]
  rw [dd]
  simp only [Op.eqItems, Sem.run_bind, p0, Result.andThen_ok, intEq]
  cases h0 : a0 == b0 with
  | false => simp
  | true =>
    simp only [Bool.not_true, Bool.false_eq_true, if_false, Sem.run_bind, p1, Result.andThen_ok, intEq, Bool.true_and]
    cases h1 : a1 == b1 with
    | false => simp
    | true =>
      simp only [Bool.not_true, Bool.false_eq_true, if_false, Sem.run_bind, p2, Result.andThen_ok, intEq, Bool.true_and]
      cases h2 : a2 == b2 <;> simp
theorem i3Check (b : Bool) (a : I3) (n : Nat) (w : World) : (Instr.checkKey b (n + 2) 199 (i3K a)).run Tryz.prog w = .ok () w := by
  obtain ⟨i, hi⟩ := Option.isSome_iff_exists.1 (show (Tryz.prog.info? 3).isSome = true by kernel_rfl)
  have p0 : ∀ x y z : Int, (part 3 #[Value.int .i64 x, .int .i64 y, .int .i64 z] 0).run Tryz.prog w = .ok (.int .i64 x) w := fun x y z => part_one k3 rfl w
  have p1 : ∀ x y z : Int, (part 3 #[Value.int .i64 x, .int .i64 y, .int .i64 z] 1).run Tryz.prog w = .ok (.int .i64 y) w := fun x y z => part_one k3 rfl w
  have p2 : ∀ x y z : Int, (part 3 #[Value.int .i64 x, .int .i64 y, .int .i64 z] 2).run Tryz.prog w = .ok (.int .i64 z) w := fun x y z => part_one k3 rfl w
  have hz : (sizeOf 3).run Tryz.prog w = .ok 1 w := by rw [← ci1]; exact Go.run_sizeOf w hi
  simp [Instr.checkKey, run_underlying Tryz.underlying199, run_underlying Tryz.underlying3, hz, p0, p1, p2, Std.Legacy.Range.forIn_eq_forIn_range', Std.Legacy.Range.size, List.range'_succ]
theorem i3Key : KeyQ Tryz.prog 199 i3K :=
  KeyQ.askingA Tryz.underlying199 (fun a b w => i3Eq a b 9998 w) (fun b a w => i3Check b a 9998 w) (fun a => by simp [Instr.sameBits])
end
end Go.Proofs.YtedopgkbajhanaaGreatDoor

namespace Go.Proofs.YtedopgkbajhanaaGreatDoor
section
open Go Go.RowKit

/-- The variables of combine. -/
structure CP where
  ox : Nat
  ob : Nat
  mx : Nat
  lx : Nat
  ax : Nat
  bx : Nat
  pb : Nat
  km : Nat
  mm : Nat
  F : Nat
  D : AD
def CP.caps (p : CP) : List Value := [VP.ptr p.ox, VP.ptr p.mx, VP.ptr p.lx, VP.ptr p.ax, VP.ptr p.bx]
def CP.clo (p : CP) : Value := .func (.func 135) #[] #[VP.ptr p.ox, VP.ptr p.mx, VP.ptr p.lx, VP.ptr p.ax, VP.ptr p.bx]
def CP.lC (p : CP) : List Value := [.slice p.D.A p.D.n p.D.c, .int .i64 p.D.ra, .slice p.D.B p.D.m p.D.d, .int .i64 p.D.rb, .slice none 0 0, .int .i64 0]
/-- What stays. -/
structure CK (w : World) (base : Nat) (p : CP) : Prop where
  hF : CloOp p.F p.D.op
  oxb : Blk w p.ox 176 [.func (.func 105) #[] #[VP.ptr p.ob]]
  obb : Blk w p.ob 113 [.func (.func p.F) #[] #[]]
  mxb : Blk w p.mx 197 [.map (some p.mm)]
  lxb : Blk w p.lx 175 p.lC
  axb : Blk w p.ax 198 [p.clo]
  bxb : Blk w p.bx 156 [VP.ptr p.pb]
  as_ : SB w p.D.A p.D.n p.D.c p.D.a
  bs : SB w p.D.B p.D.m p.D.d p.D.b
  off : ∀ k, k = p.ox ∨ k = p.ob ∨ k = p.mx ∨ k = p.lx ∨ k = p.ax ∨ k = p.bx → k < base ∧ k ≠ p.pb ∧ k ≠ p.km ∧ k ≠ p.mm
  rowA : ∀ ad, p.D.A = some ad → 0 < p.D.n → ad.block < base ∧ ad.block ≠ p.pb ∧ ad.block ≠ p.km ∧ ad.block ≠ p.mm
  rowB : ∀ ad, p.D.B = some ad → 0 < p.D.m → ad.block < base ∧ ad.block ≠ p.pb ∧ ad.block ≠ p.km ∧ ad.block ≠ p.mm
/-- What the closure writes. -/
def CS (p : CP) (NA : Option Addr) : Nat → Prop := fun k => k = p.mm ∨ BS p.pb p.km NA k
theorem CS.moved {w : World} {p : CP} {A A' : Option Addr} (h : Moved w A A') : ∀ k, CS p A' k → CS p A k ∨ w.heap.size ≤ k := by
  rintro k (rfl | hk)
  · exact .inl (.inl rfl)
  · rcases BS.moved h k hk with h | h
    · exact .inl (.inr h)
    · exact .inr h
theorem CS.trans {w w1 w2 : World} {p : CP} {A A1 : Option Addr} (hm : Mod (CS p A) w w1) (hv : Moved w A A1) (h : Mod (CS p A1) w1 w2) : Mod (CS p A) w w2 := hm.trans h (CS.moved hv)
theorem CS.no {p : CP} {base : Nat} {NA : Option Addr} (hr : ∀ i, rowS NA i → base ≤ i) {k : Nat} (h : k < base ∧ k ≠ p.pb ∧ k ≠ p.km ∧ k ≠ p.mm) : ¬ CS p NA k := fun e => by
  obtain ⟨h1, h2, h3, h4⟩ := h
  rcases e with e | e | e | e
  · exact h4 e
  · exact h2 e
  · exact h3 e
  · have := hr k e; omega
theorem CK.mod {w w' : World} {base : Nat} {p : CP} {NA : Option Addr} (h : CK w base p) (hr : ∀ i, rowS NA i → base ≤ i) (hm : Mod (CS p NA) w w') : CK w' base p := by
  have k := fun k hk => CS.no (p := p) hr (h.off k hk)
  refine ⟨h.hF, h.oxb.mod hm (k _ (by simp)), h.obb.mod hm (k _ (by simp)), h.mxb.mod hm (k _ (by simp)), h.lxb.mod hm (k _ (by simp)), h.axb.mod hm (k _ (by simp)), h.bxb.mod hm (k _ (by simp)), ⟨h.as_.1.modS hm ?_, h.as_.2⟩, ⟨h.bs.1.modS hm ?_, h.bs.2⟩, h.off, h.rowA, h.rowB⟩
  · rintro h0 i ⟨ad, e, rfl⟩
    exact CS.no hr (h.rowA ad e h0)
  · rintro h0 i ⟨ad, e, rfl⟩
    exact CS.no hr (h.rowB ad e h0)
theorem CK.ext {w w' : World} {base : Nat} {p : CP} (h : CK w base p) (k : Ext w w') : CK w' base p :=
  h.mod (NA := none) (fun i hi => by obtain ⟨_, e, _⟩ := hi; cases e) (Mod.of_ext _ k)
def memV (l : List Tr3) (x y : Int) : Option Value := (l.find? (fun t => decide (t.1 = x ∧ t.2.1 = y))).map fun t => .int .i64 t.2.2
/-- What changes. -/
structure CSt (w : World) (base : Nat) (p : CP) (NA : Option Addr) (nc : Nat) (st : List Br × List Tr3) : Prop where
  bd : Bd w base p.pb p.km NA nc st.1
  memo : ∃ m, MapQ i3K w p.mm m ∧ ∀ x y : Int, assoc ((x, y, 0) : I3) m = memV st.2 x y
  lt : p.mm < base ∧ p.mm ≠ p.pb ∧ p.mm ≠ p.km
theorem CSt.ext {w w' : World} {base : Nat} {p : CP} {NA : Option Addr} {nc : Nat} {st : List Br × List Tr3} (h : CSt w base p NA nc st) (k : Ext w w') : CSt w' base p NA nc st :=
  ⟨h.bd.ext k, let ⟨m, h1, h2⟩ := h.memo; ⟨m, h1.ext k, h2⟩, h.lt⟩
def CTo (w : World) (base : Nat) (p : CP) (NA : Option Addr) (st : List Br × List Tr3) (w' : World) : Prop := ∃ NA' nc', CSt w' base p NA' nc' st ∧ Mod (CS p NA) w w' ∧ Moved w NA NA'

theorem constB {op x y : Int} (x0 : 0 ≤ x) (x1 : x < 2) (y0 : 0 ≤ y) (y1 : y < 2) : constD op x y = if opB op (decide (x = 1)) (decide (y = 1)) then 1 else 0 := by
  have h1 := const_mean (op := op) x0 x1 y0 y1
  have h2 := constD_in (op := op) x0 x1 y0 y1
  rw [← h1]
  by_cases h : constD op x y = 1
  · rw [decide_eq_true h]; exact h
  · rw [decide_eq_false h]; show constD op x y = 0; omega

theorem at2_sum {a b : List Br} (ha : DOk a) (hb : DOk b) (op : Int) : ∀ (f : Nat) (x y : Int) (st : List Br × List Tr3), 0 ≤ x → 0 ≤ y → x < a.length + 2 → y < b.length + 2 →
    ∀ t ∈ (at2 a b op f x y st).2.2, t ∈ st.2 ∨ t.1 + t.2.1 ≤ x + y
  | 0, x, y, st, _, _, _, _ => fun t ht => .inl ht
  | f + 1, x, y, st, x0, y0, hx, hy => by
    by_cases hxy : x < 2 ∧ y < 2
    · rw [at2_c hxy]; exact fun t ht => .inl ht
    cases k : st.2.find? (fun t => decide (t.1 = x ∧ t.2.1 = y)) with
    | some t => rw [at2_s hxy k]; exact fun t ht => .inl ht
    | none =>
      have hv64 : min (lvlD a x) (lvlD b y) < 64 := by
        by_cases c : x < 2
        · have := lvl_lt hb (n := y) (fun c2 => hxy ⟨c, c2⟩) (by omega)
          rw [Int.min_def]; split <;> omega
        · have := lvl_lt ha (n := x) c (by omega)
          rw [Int.min_def]; split <;> omega
      rw [at2_n hxy k _ rfl]
      generalize min (lvlD a x) (lvlD b y) = v at *
      obtain ⟨s1, s2, s3, s4, s5⟩ := sideD_le ha (n := x) x0 hv64
      obtain ⟨t1, t2, t3, t4, t5⟩ := sideD_le hb (n := y) y0 hv64
      have j1 := at2_sum ha hb op f _ _ st s1 t1 (by omega) (by omega)
      generalize (at2 a b op f (sideD a x v).1 (sideD b y v).1 st) = r0 at *
      have j2 := at2_sum ha hb op f _ _ r0.2 s3 t3 (by omega) (by omega)
      generalize (at2 a b op f (sideD a x v).2 (sideD b y v).2 r0.2) = r1 at *
      intro t ht
      simp only [List.mem_append, List.mem_singleton] at ht
      rcases ht with ht | rfl
      · rcases j2 t ht with h1 | h1
        · rcases j1 t h1 with h2 | h2
          · exact .inl h2
          · exact .inr (by omega)
        · exact .inr (by omega)
      · exact .inr (by simp only; omega)

theorem at3_fn (base : Nat) (p : CP) (ha : DOk p.D.a) (hb : DOk p.D.b) (hlim : p.D.n ≤ 1000000000000 ∧ p.D.m ≤ 1000000000000) : ∀ (m : Nat) (x y : Int) (st : List Br × List Tr3) (NA : Option Addr) (nc : Nat) (w : World),
    CK w base p → CSt w base p NA nc st → 0 ≤ x → 0 ≤ y → x + y < m → x < p.D.n + 2 → y < p.D.m + 2 → (at2 p.D.a p.D.b p.D.op m x y st).2.1.length ≤ 100000000000 →
    Fn Tryz.prog 135 (i3K (x, y, 0) :: p.caps) w (fun v w' => v = .int .i64 (at2 p.D.a p.D.b p.D.op m x y st).1 ∧ CTo w base p NA (at2 p.D.a p.D.b p.D.op m x y st).2 w')
  | 0, x, y, st, NA, nc, w, _, _, x0, y0, hm, _, _, _ => by omega
  | m + 1, x, y, st, NA, nc, w, hK, hS, x0, y0, hm, hx, hy, hl1 => by
    have ih := at3_fn base p ha hb hlim m
    have hal : p.D.a.length = p.D.n := hK.as_.2
    have hbl : p.D.b.length = p.D.m := hK.bs.2
    have htop := hS.bd.top
    have hrw : ∀ i, rowS NA i → base ≤ i := fun i hi => (hS.bd.own.rows i hi).1
    refine fn_of_exec (c := { c135 with cuts := [1] }) gx_ok Tryz.func135 rfl rfl rfl ?_
    refine new (fun w1 hE1 hz1 hB1 => ?_)
    replace hB1 : Blk w1 w.heap.size 199 (i3C (x, y, 0)) := hB1
    have hK1 := hK.ext hE1
    have hS1 := hS.ext hE1
    have oB : w.heap.size < w1.heap.size := by omega
    refine cutIn [] gx_ok [] (fun _ : Unit => []) (fun _ w' => w1 = w' ∧ ¬ (x < 2 ∧ y < 2)) ?_ ?_
    · refine index (j := 0) (by decide) ?_
      refine load_blk hB1 rfl ?_
      refine wif_d (fun c1 => ?_) (fun c1 => ?_)
      · refine index (j := 1) (by decide) ?_
        refine load_blk hB1 rfl ?_
        refine wif_d (fun c2 => ?_) (fun c2 => ?_)
        · refine index (j := 2) (by decide) ?_
          refine load_blk hB1 rfl ?_
          refine wif_dt (show (0 : Int) < 2 by decide) ?_
          refine load_blk0 hK1.oxb rfl ?_
          refine index (j := 0) (by decide) ?_
          refine load_blk hB1 rfl ?_
          refine index (j := 1) (by decide) ?_
          refine load_blk hB1 rfl ?_
          refine index (j := 2) (by decide) ?_
          refine load_blk hB1 rfl ?_
          rw [at2_c ⟨c1, c2⟩, constB x0 c1 y0 c2]
          refine call (bin1_fn hK.hF p.ob (decide (x = 1)) (decide (y = 1)) (decide ((0 : Int) = 1)) w1 hK1.obb) ?_
          rintro v _ ⟨rfl, rfl⟩
          cases opB p.D.op (decide (x = 1)) (decide (y = 1)) with
          | true =>
            refine wif_t rfl ?_
            exact ⟨rfl, NA, nc, hS1, Mod.of_ext _ hE1, Moved.refl _ _⟩
          | false =>
            refine wif_f rfl ?_
            exact ⟨rfl, NA, nc, hS1, Mod.of_ext _ hE1, Moved.refl _ _⟩
        · exact ⟨(), rfl, rfl, fun hh => c2 hh.2⟩
      · exact ⟨(), rfl, rfl, fun hh => c1 hh.1⟩
    rintro ⟨⟩ _ ⟨rfl, hxy⟩
    obtain ⟨mq, hmq, hmem⟩ := hS1.memo
    refine load_blk0 hK1.mxb rfl ?_
    refine loadN_blk0 hB1 rfl ?_
    refine at_lookupQ_ok (kv := i3K) (a := ((x, y, 0) : I3)) gx_ok rfl rfl rfl rfl i3Key rfl rfl hmq ?_
    cases k : st.2.find? (fun t => decide (t.1 = x ∧ t.2.1 = y)) with
    | some t =>
      have hat : assoc ((x, y, 0) : I3) mq = some (.int .i64 t.2.2) := by rw [hmem, memV, k]; rfl
      refine wif_t (by rw [hat]; rfl) ?_
      rw [at2_s hxy k]
      exact ⟨by rw [hat]; rfl, NA, nc, hS1, Mod.of_ext _ hE1, Moved.refl _ _⟩
    | none =>
    have hat : assoc ((x, y, 0) : I3) mq = none := by rw [hmem, memV, k]; rfl
    refine wif_f (by rw [hat]; rfl) ?_
    have hv64 : min (lvlD p.D.a x) (lvlD p.D.b y) < 64 := by
      by_cases c : x < 2
      · have := lvl_lt hb (n := y) (fun c2 => hxy ⟨c, c2⟩) (by omega)
        rw [Int.min_def]; split <;> omega
      · have := lvl_lt ha (n := x) c (by omega)
        rw [Int.min_def]; split <;> omega
    have hSC : SB w1 none 0 0 [] := SlS.nil _
    have qL : ∀ w', Ext w1 w' → ∀ (j : Nat) (v : Value), p.lC[j]? = some v → w'.cell? ((⟨p.lx, 0, none⟩ : Addr).add j) = some v := fun w' hw' j v hj => by rw [(hK1.lxb.ext hw').cell]; exact hj
    have qN : ∀ w', Ext w1 w' → ∀ (j : Nat) (v : Value), (i3C (x, y, 0))[j]? = some v → w'.cell? ((⟨w.heap.size, 0, none⟩ : Addr).add j) = some v := fun w' hw' j v hj => by rw [(hB1.ext hw').cell]; exact hj
    refine draw_plan gx_ok (Ext w1) 17 [(true, 0), (true, 1), (true, 2), (true, 3), (true, 5), (true, 6), (true, 7), (true, 8), (true, 10), (true, 11), (true, 12), (true, 13), (false, 4), (false, 9), (false, 14), (true, 15), (true, 16)] (by kernel_rfl) (Ext.drew w1) ?_
    refine index_n (j := 0) (by decide) ?_
    refine qloadN (vs := [.slice p.D.A p.D.n p.D.c, .int .i64 p.D.ra]) rfl (fun w' hw' j v hj => by
      rw [add_add, (hK1.lxb.ext hw').cell]
      match j, hj with
      | 0, hj => exact hj
      | 1, hj => exact hj) ?_
    refine index (j := 0) (by decide) ?_
    refine qload (v := .int .i64 x) (fun w' hw' => qN w' hw' 0 _ rfl) ?_
    refine index_n (j := 1) (by decide) ?_
    refine qloadN (vs := [.slice p.D.B p.D.m p.D.d, .int .i64 p.D.rb]) rfl (fun w' hw' j v hj => by
      rw [add_add, (hK1.lxb.ext hw').cell]
      match j, hj with
      | 0, hj => exact hj
      | 1, hj => exact hj) ?_
    refine index (j := 1) (by decide) ?_
    refine qload (v := .int .i64 y) (fun w' hw' => qN w' hw' 1 _ rfl) ?_
    refine index_n (j := 2) (by decide) ?_
    refine qloadN (vs := [.slice none 0 0, .int .i64 0]) rfl (fun w' hw' j v hj => by
      rw [add_add, (hK1.lxb.ext hw').cell]
      match j, hj with
      | 0, hj => exact hj
      | 1, hj => exact hj) ?_
    refine index (j := 2) (by decide) ?_
    refine qload (v := .int .i64 0) (fun w' hw' => qN w' hw' 2 _ rfl) ?_
    refine call (level_fn p.D.A p.D.n p.D.c p.D.ra x p.D.a _ (hK1.as_.ext (Ext.drew w1)) (by omega)) ?_
    rintro u w2 ⟨rfl, hE2⟩
    have hE12 := (Ext.drew w1).trans hE2
    refine ⟨hE12, ?_⟩
    refine call (level_fn p.D.B p.D.m p.D.d p.D.rb y p.D.b _ (hK1.bs.ext hE12) (by omega)) ?_
    rintro u w3 ⟨rfl, hE3⟩
    have hE13 := hE12.trans hE3
    refine ⟨hE13, ?_⟩
    refine call (level_fn none 0 0 0 0 [] _ (hSC.ext hE13) (by simp)) ?_
    rintro u w4 ⟨rfl, hE4⟩
    have hE14 := hE13.trans hE4
    refine ⟨hE14, ?_⟩
    have l64 : lvlD [] 0 = 64 := rfl
    rw [l64]
    have hvn : -9223372036854775808 ≤ min (lvlD p.D.a x) (lvlD p.D.b y) := by
      have pos : ∀ {d : List Br}, DOk d → ∀ {n : Int}, n < d.length + 2 → 0 ≤ lvlD d n := fun {d} hd {n} hn => by
        by_cases h2 : n < 2
        · rw [lvl_one h2]; omega
        · obtain ⟨z, hz⟩ := getE h2 hn
          rw [lvl_some h2 hz]; exact (hd.2 _ _ hz).1
      have p1 := pos ha (n := x) (by omega)
      have p2 := pos hb (n := y) (by omega)
      rw [Int.min_def]; split <;> omega
    have hmin3 : (if (64 : Int) < (if lvlD p.D.b y < lvlD p.D.a x then lvlD p.D.b y else lvlD p.D.a x) then 64 else (if lvlD p.D.b y < lvlD p.D.a x then lvlD p.D.b y else lvlD p.D.a x)) = min (lvlD p.D.a x) (lvlD p.D.b y) := by
      rw [Int.min_def] at hv64 ⊢
      split at hv64 <;> split <;> split <;> omega
    refine norm (m := min (lvlD p.D.a x) (lvlD p.D.b y)) hmin3 ?_
    rw [at2_n hxy k _ rfl] at hl1 ⊢
    generalize hveq : min (lvlD p.D.a x) (lvlD p.D.b y) = v at *
    have hB4 := hB1.ext hE14
    have hK4 := hK1.ext hE14
    have hS4 := hS1.ext hE14
    have hE04 := hE1.trans hE14
    have hz14 := hE14.size
    refine new (fun w5 hE5 hz5 hL5 => ?_)
    refine new (fun w6 hE6 hz6 hH6 => ?_)
    have hE46 := hE5.trans hE6
    have hL6 := hL5.ext hE6
    have hB6 := hB4.ext hE46
    have hK6 := hK4.ext hE46
    have hS6 := hS4.ext hE46
    have hE06 := hE04.trans hE46
    obtain ⟨s1, s2, s3, s4, s5⟩ := sideD_le ha (n := x) x0 hv64
    obtain ⟨t1, t2, t3, t4, t5⟩ := sideD_le hb (n := y) y0 hv64
    refine loop gx_ok [64] (fun s : Nat => [.int .i64 s]) (fun s w' => Mod (fun i => i = w4.heap.size ∨ i = w5.heap.size) w6 w' ∧ s ≤ 3 ∧ Blk w' w4.heap.size 199 (i3C (if 0 < s then (sideD p.D.a x v).1 else 0, if 1 < s then (sideD p.D.b y v).1 else 0, 0)) ∧ Blk w' w5.heap.size 199 (i3C (if 0 < s then (sideD p.D.a x v).2 else 0, if 1 < s then (sideD p.D.b y v).2 else 0, 0))) (fun s _ => 3 - s) 0 rfl ⟨Mod.refl _ _, Nat.zero_le _, hL6, hH6⟩ ?_
    rintro s w7 ⟨hM7, hs3, hL7, hH7⟩
    have hbz : base ≤ w4.heap.size := by have := hE1.size; omega
    have hz45 : w5.heap.size = w4.heap.size + 1 := hz5
    have hwz : w.heap.size < w4.heap.size := by omega
    have hlow : ∀ k, k < w4.heap.size → ¬ (k = w4.heap.size ∨ k = w5.heap.size) := fun k hk e => by omega
    have hlx := hK.off p.lx (by simp)
    have hE7 : Ext w w7 := hM7.ext hE06 (fun i hi => by omega)
    have hE17 : Ext w1 w7 := hM7.ext (hE14.trans hE46) (fun i hi => by omega)
    have hE47 : Ext w4 w7 := hM7.ext hE46 (fun i hi => by omega)
    have hB7 := hB4.ext hE47
    have hK7 := hK4.ext hE47
    have hS7 := hS4.ext hE47
    have hz7 := hM7.size
    have nLX := hlow p.lx (by omega)
    have nB := hlow w.heap.size hwz
    have h0 : sideD [] 0 v = (0, 0) := by unfold sideD; rw [if_pos (show lvlD [] 0 ≠ v by rw [l64]; omega)]
    by_cases hs : s < 3
    · rcases (show s = 0 ∨ s = 1 ∨ s = 2 by omega) with rfl | rfl | rfl
      · refine wif_dt (show ((0 : Nat) : Int) < 3 by decide) ?_
        refine draw_plan gx_ok (Mod (fun i => i = w4.heap.size ∨ i = w5.heap.size) w7) 17 [(true, 0), (true, 1), (true, 2), (true, 3), (true, 4), (true, 5), (true, 6), (true, 7), (true, 8), (false, 9), (true, 10), (true, 11), (true, 12), (true, 13), (false, 14), (true, 15), (false, 16)] (by kernel_rfl) (Mod.of_ext _ (Ext.drew w7)) ?_
        refine index_n (j := 0) (by decide) ?_
        refine qloadN (vs := [.slice p.D.A p.D.n p.D.c, .int .i64 p.D.ra]) rfl (fun w' hw' j v hj => by
          rw [add_add, (hK7.lxb.mod hw' nLX).cell]
          match j, hj with
          | 0, hj => exact hj
          | 1, hj => exact hj) ?_
        refine index (j := 0) (by decide) ?_
        refine qload (v := .int .i64 x) (fun w' hw' => by rw [(hB7.mod hw' nB).cell]; rfl) ?_
        refine call (dsides_fn p.D.A p.D.n p.D.c p.D.ra x v p.D.a _ (hK7.as_.ext (Ext.drew w7)) (by omega) hv64) ?_
        rintro u w8 ⟨rfl, hE8⟩
        have hE78 := (Ext.drew w7).trans hE8
        refine ⟨Mod.of_ext _ hE78, ?_⟩
        refine index (j := 0) (by decide) ?_
        refine store_mod (hL7.ext hE78) (by simp) (fun w9 hM9 hL9 => ?_)
        have hM79 : Mod (fun i => i = w4.heap.size ∨ i = w5.heap.size) w7 w9 := (Mod.of_ext _ hE78).trans hM9 (fun i hi => .inl (.inl hi))
        refine ⟨hM79, ?_⟩
        have hz9 := hM79.size
        refine index (j := 0) (by decide) ?_
        refine store_mod (((hH7.ext hE78).mod hM9 (by show ¬ w5.heap.size = w4.heap.size; omega))) (by simp) (fun w10 hM10 hH10 => ?_)
        have hM710 : Mod (fun i => i = w4.heap.size ∨ i = w5.heap.size) w7 w10 := hM79.trans hM10 (fun i hi => .inl (.inr hi))
        refine ⟨hM710, ?_⟩
        have hL10 := hL9.mod hM10 (by show ¬ w4.heap.size = w5.heap.size; omega)
        refine norm_i64_to ((1 : Nat) : Int) (by decide) (by decide) ?_
        exact ⟨1, rfl, ⟨hM7.trans hM710 (fun i hi => .inl hi), by decide, hL10, hH10⟩, by show 3 - 1 < 3 - 0; decide⟩
      · refine wif_dt (show ((1 : Nat) : Int) < 3 by decide) ?_
        refine draw_plan gx_ok (Mod (fun i => i = w4.heap.size ∨ i = w5.heap.size) w7) 17 [(true, 0), (true, 1), (true, 2), (true, 3), (true, 4), (true, 5), (true, 6), (true, 7), (true, 8), (false, 9), (true, 10), (true, 11), (true, 12), (true, 13), (false, 14), (true, 15), (false, 16)] (by kernel_rfl) (Mod.of_ext _ (Ext.drew w7)) ?_
        refine index_n (j := 1) (by decide) ?_
        refine qloadN (vs := [.slice p.D.B p.D.m p.D.d, .int .i64 p.D.rb]) rfl (fun w' hw' j v hj => by
          rw [add_add, (hK7.lxb.mod hw' nLX).cell]
          match j, hj with
          | 0, hj => exact hj
          | 1, hj => exact hj) ?_
        refine index (j := 1) (by decide) ?_
        refine qload (v := .int .i64 y) (fun w' hw' => by rw [(hB7.mod hw' nB).cell]; rfl) ?_
        refine call (dsides_fn p.D.B p.D.m p.D.d p.D.rb y v p.D.b _ (hK7.bs.ext (Ext.drew w7)) (by omega) hv64) ?_
        rintro u w8 ⟨rfl, hE8⟩
        have hE78 := (Ext.drew w7).trans hE8
        refine ⟨Mod.of_ext _ hE78, ?_⟩
        refine index (j := 1) (by decide) ?_
        refine store_mod (hL7.ext hE78) (by simp) (fun w9 hM9 hL9 => ?_)
        have hM79 : Mod (fun i => i = w4.heap.size ∨ i = w5.heap.size) w7 w9 := (Mod.of_ext _ hE78).trans hM9 (fun i hi => .inl (.inl hi))
        refine ⟨hM79, ?_⟩
        have hz9 := hM79.size
        refine index (j := 1) (by decide) ?_
        refine store_mod (((hH7.ext hE78).mod hM9 (by show ¬ w5.heap.size = w4.heap.size; omega))) (by simp) (fun w10 hM10 hH10 => ?_)
        have hM710 : Mod (fun i => i = w4.heap.size ∨ i = w5.heap.size) w7 w10 := hM79.trans hM10 (fun i hi => .inl (.inr hi))
        refine ⟨hM710, ?_⟩
        have hL10 := hL9.mod hM10 (by show ¬ w4.heap.size = w5.heap.size; omega)
        refine norm_i64_to ((2 : Nat) : Int) (by decide) (by decide) ?_
        exact ⟨2, rfl, ⟨hM7.trans hM710 (fun i hi => .inl hi), by decide, hL10, hH10⟩, by show 3 - 2 < 3 - 1; decide⟩
      · refine wif_dt (show ((2 : Nat) : Int) < 3 by decide) ?_
        refine draw_plan gx_ok (Mod (fun i => i = w4.heap.size ∨ i = w5.heap.size) w7) 17 [(true, 0), (true, 1), (true, 2), (true, 3), (true, 4), (true, 5), (true, 6), (true, 7), (true, 8), (false, 9), (true, 10), (true, 11), (true, 12), (true, 13), (false, 14), (true, 15), (false, 16)] (by kernel_rfl) (Mod.of_ext _ (Ext.drew w7)) ?_
        refine index_n (j := 2) (by decide) ?_
        refine qloadN (vs := [.slice none 0 0, .int .i64 0]) rfl (fun w' hw' j v hj => by
          rw [add_add, (hK7.lxb.mod hw' nLX).cell]
          match j, hj with
          | 0, hj => exact hj
          | 1, hj => exact hj) ?_
        refine index (j := 2) (by decide) ?_
        refine qload (v := .int .i64 0) (fun w' hw' => by rw [(hB7.mod hw' nB).cell]; rfl) ?_
        refine call (dsides_fn none 0 0 0 0 v [] _ (SlS.nil _) (by decide) hv64) ?_
        rintro u w8 ⟨rfl, hE8⟩
        have hE78 := (Ext.drew w7).trans hE8
        refine ⟨Mod.of_ext _ hE78, ?_⟩
        refine index (j := 2) (by decide) ?_
        refine store_mod (hL7.ext hE78) (by simp) (fun w9 hM9 hL9 => ?_)
        have hM79 : Mod (fun i => i = w4.heap.size ∨ i = w5.heap.size) w7 w9 := (Mod.of_ext _ hE78).trans hM9 (fun i hi => .inl (.inl hi))
        refine ⟨hM79, ?_⟩
        have hz9 := hM79.size
        refine index (j := 2) (by decide) ?_
        refine store_mod (((hH7.ext hE78).mod hM9 (by show ¬ w5.heap.size = w4.heap.size; omega))) (by simp) (fun w10 hM10 hH10 => ?_)
        have hM710 : Mod (fun i => i = w4.heap.size ∨ i = w5.heap.size) w7 w10 := hM79.trans hM10 (fun i hi => .inl (.inr hi))
        refine ⟨hM710, ?_⟩
        have hL10 := hL9.mod hM10 (by show ¬ w4.heap.size = w5.heap.size; omega)
        refine norm_i64_to ((3 : Nat) : Int) (by decide) (by decide) ?_
        rw [h0] at hL10 hH10
        exact ⟨3, rfl, ⟨hM7.trans hM710 (fun i hi => .inl hi), by decide, hL10, hH10⟩, by show 3 - 3 < 3 - 2; decide⟩
    · have : s = 3 := by omega
      subst this
      refine wif_df (show ¬ ((3 : Nat) : Int) < 3 by decide) ?_
      replace hL7 : Blk w7 w4.heap.size 199 (i3C ((sideD p.D.a x v).1, (sideD p.D.b y v).1, 0)) := hL7
      replace hH7 : Blk w7 w5.heap.size 199 (i3C ((sideD p.D.a x v).2, (sideD p.D.b y v).2, 0)) := hH7
      have hvx : lvlD p.D.a x = v ∨ lvlD p.D.b y = v := by rw [← hveq, Int.min_def]; split <;> simp
      have dec : (sideD p.D.a x v).1 + (sideD p.D.b y v).1 < x + y ∧ (sideD p.D.a x v).2 + (sideD p.D.b y v).2 < x + y := by
        rcases hvx with e | e
        · have := s5 e; omega
        · have := t5 e; omega
      have sm1 := at2_sum ha hb p.D.op m (sideD p.D.a x v).1 (sideD p.D.b y v).1 st s1 t1 (by omega) (by omega)
      have sm2 := at2_sum ha hb p.D.op m (sideD p.D.a x v).2 (sideD p.D.b y v).2 (at2 p.D.a p.D.b p.D.op m (sideD p.D.a x v).1 (sideD p.D.b y v).1 st).2 s3 t3 (by omega) (by omega)
      have mo2 := at2_mono p.D.a p.D.b p.D.op m (sideD p.D.a x v).2 (sideD p.D.b y v).2 (at2 p.D.a p.D.b p.D.op m (sideD p.D.a x v).1 (sideD p.D.b y v).1 st).2
      have c1 := ih (sideD p.D.a x v).1 (sideD p.D.b y v).1 st NA nc w7 hK7 hS7 s1 t1 (by omega) (by omega) (by omega)
      have c2 := fun N1 n1 w' h1 h2 => ih (sideD p.D.a x v).2 (sideD p.D.b y v).2 (at2 p.D.a p.D.b p.D.op m (sideD p.D.a x v).1 (sideD p.D.b y v).1 st).2 N1 n1 w' h1 h2 s3 t3 (by omega) (by omega) (by omega)
      generalize (at2 p.D.a p.D.b p.D.op m (sideD p.D.a x v).1 (sideD p.D.b y v).1 st) = r0 at *
      generalize (at2 p.D.a p.D.b p.D.op m (sideD p.D.a x v).2 (sideD p.D.b y v).2 r0.2) = r1 at *
      have ul := uniqD_len ⟨v, r0.1, r1.1⟩ r1.2.1
      have ul2 : (uniqD ⟨v, r0.1, r1.1⟩ r1.2.1).1.length ≤ r1.2.1.length + 1 := by
        unfold uniqD
        split
        · exact Nat.le_succ _
        · split
          · exact Nat.le_succ _
          · simp
      simp only at hl1
      refine load_blk0 hK7.axb rfl ?_
      refine loadN_blk0 hL7 rfl ?_
      refine call (c1 (by omega)) ?_
      rintro _ w11 ⟨rfl, N1, n1, hS11, hM11, hV11⟩
      have hlt5 := hH7.lt
      have hr0 := hS.bd.own.rows
      obtain ⟨l1, l2, l3⟩ := hS.lt
      obtain ⟨b1, b2, b3⟩ := hS.bd.lt
      have new : ∀ k, w.heap.size ≤ k → ¬ CS p NA k := fun k hk e => by
        rcases e with e | e | e | e
        · omega
        · omega
        · omega
        · have := (hr0 k e).2; omega
      have hK11 := hK7.mod hrw hM11
      have hH11 := hH7.mod hM11 (new _ (by omega))
      have hB11 := hB7.mod hM11 (new _ (Nat.le_refl _))
      have hr1 : ∀ i, rowS N1 i → base ≤ i := fun i hi => (hS11.bd.own.rows i hi).1
      have nw1 : ∀ k, w.heap.size ≤ k → k < w7.heap.size → ¬ CS p N1 k := fun k hk h7 e => by
        rcases CS.moved hV11 k e with e | e
        · exact new k hk e
        · omega
      have hz11 := hM11.size
      have hB7lt := hB7.lt
      refine draw_plan gx_ok (Mod (CS p N1) w11) 8 [(true, 0), (true, 1), (true, 2), (true, 3), (true, 4), (false, 5), (false, 6), (true, 7)] (by kernel_rfl) (Mod.of_ext _ (Ext.drew w11)) ?_
      have nof := fun k hk => CS.no (p := p) hr1 (hK11.off k hk)
      refine qload (v := VP.ptr p.pb) (fun w' hw' => by rw [(hK11.bxb.mod hw' (nof _ (by simp))).cell0]; rfl) ?_
      refine qload (v := p.clo) (fun w' hw' => by rw [(hK11.axb.mod hw' (nof _ (by simp))).cell0]; rfl) ?_
      refine qloadN (vs := i3C ((sideD p.D.a x v).2, (sideD p.D.b y v).2, 0)) rfl (fun w' hw' j v hj => by rw [(hH11.mod hw' (nw1 _ (by omega) hlt5)).cell]; exact hj) ?_
      refine call (c2 N1 n1 _ (hK11.ext (Ext.drew w11)) (hS11.ext (Ext.drew w11)) (by omega)) ?_
      rintro _ w12 ⟨rfl, N2, n2, hS12, hM12, hV12⟩
      have hM112 : Mod (CS p N1) w11 w12 := (Mod.of_ext _ (Ext.drew w11)).trans hM12 (fun i hi => .inl hi)
      have hV112 : Moved w11 N1 N2 := hV12.back (Ext.drew w11).size
      refine ⟨hM112, ?_⟩
      have hr2 : ∀ i, rowS N2 i → base ≤ i := fun i hi => (hS12.bd.own.rows i hi).1
      refine call (dbranch_fn base p.pb p.km N2 n2 r1.2.1 ⟨v, r0.1, r1.1⟩ w12 hS12.bd (by omega)) ?_
      rintro _ w13 ⟨rfl, N3, n3, hD13, hM13, hV13⟩
      have hM213 : Mod (CS p N2) w12 w13 := hM13.mono (fun i hi => .inl (.inr hi))
      have hM113 : Mod (CS p N1) w11 w13 := CS.trans hM112 hV112 hM213
      refine ⟨hM113, ?_⟩
      have hK12 := hK11.mod hr1 hM112
      have hK13 := hK11.mod hr1 hM113
      have hB13 := hB11.mod hM113 (nw1 _ (Nat.le_refl _) hB7lt)
      obtain ⟨mq2, hq2, hmem2⟩ := hS12.memo
      have hq13 : MapQ i3K w13 p.mm mq2 := hq2.mod hM13 (fun e => by
        rcases e with e | e | e
        · exact l2 e
        · exact l3 e
        · have := hr2 _ e; omega)
      refine load_blk0 hK13.mxb rfl ?_
      refine loadN_blk0 hB13 rfl ?_
      refine at_mapUpdateQ (kv := i3K) (a := ((x, y, 0) : I3)) gx_ok rfl rfl rfl rfl i3Key rfl rfl rfl hq13 (fun w14 hM14 hz14' hq14 => ?_)
      have hmm : ∀ k, k ≠ p.mm → ¬ (k = p.mm) := fun k h => h
      obtain ⟨d1, d2, d3⟩ := hD13.lt
      have hr3 : ∀ i, rowS N3 i → base ≤ i := fun i hi => (hD13.own.rows i hi).1
      obtain ⟨kq, hkq, hkm⟩ := hD13.known
      have hD14 : Bd w14 base p.pb p.km N3 n3 (uniqD ⟨v, r0.1, r1.1⟩ r1.2.1).1 := ⟨hD13.blk.mod hM14 (fun e => l2 e.symm), hD13.own.mod hM14 (fun i hi e => by have := hr3 i hi; have e' : i = p.mm := e; omega), ⟨kq, hkq.mod hM14 (fun e => l3 e.symm), hkm⟩, hD13.lt, Nat.le_trans hD13.top hM14.size⟩
      have hMw7 : Mod (CS p NA) w w7 := Mod.of_ext _ hE7
      have hVw7 : Moved w NA NA := Moved.refl _ _
      have hM011 : Mod (CS p NA) w w11 := hMw7.trans hM11 (fun i hi => .inl hi)
      have hV011 : Moved w NA N1 := hV11.back hE7.size
      have hM013 : Mod (CS p NA) w w13 := CS.trans hM011 hV011 hM113
      have hM014 : Mod (CS p NA) w w14 := hM013.trans hM14 (fun i hi => .inl (.inl hi))
      have hV013 : Moved w NA N3 := hV011.trans (hV112.trans hV13 hM112.size) hM011.size
      refine ⟨rfl, N3, n3, ⟨hD14, ⟨_, hq14, fun x' y' => ?_⟩, hS.lt⟩, hM014, hV013⟩
      have hno : r1.2.2.find? (fun t => decide (t.1 = x ∧ t.2.1 = y)) = none := by
        rw [List.find?_eq_none]
        intro t ht hh
        simp only [decide_eq_true_eq] at hh
        rcases sm2 t ht with h1 | h1
        · rcases sm1 t h1 with h2 | h2
          · have := List.find?_eq_none.1 k t h2
            simp only [decide_eq_true_eq] at this
            exact this hh
          · omega
        · omega
      rw [assoc_set, hmem2, memV, memV, List.find?_append]
      by_cases hxx : (x', y') = (x, y)
      · cases hxx
        rw [if_pos rfl, hno]
        simp
      · rw [if_neg (fun e => hxx (by cases e; rfl))]
        have : [(x, y, (uniqD ⟨v, r0.1, r1.1⟩ r1.2.1).2)].find? (fun t : Tr3 => decide (t.1 = x' ∧ t.2.1 = y')) = none := by
          rw [List.find?_cons_of_neg]
          · rfl
          · simp only [decide_eq_true_eq]
            exact fun e => hxx (by rw [e.1, e.2])
        rw [this]
        simp
end
end Go.Proofs.YtedopgkbajhanaaGreatDoor

namespace Go.Proofs.YtedopgkbajhanaaGreatDoor
section
open Go Go.RowKit

theorem newbuilder_fn (w : World) : Fn Tryz.prog 134 [] w (fun v w' => v = VP.ptr (w.heap.size + 1) ∧ Ext w w' ∧ w'.heap.size = w.heap.size + 2 ∧ Blk w' (w.heap.size + 1) 159 [.slice none 0 0, .map (some w.heap.size)] ∧ MapQ brK w' w.heap.size []) := by
  refine fn_of_exec (c := { c134 with cuts := [] }) gx_ok Tryz.func134 rfl rfl rfl ?_
  refine at_makeMapQ gx_ok brK rfl ?_
  intro w1 hE1 hz1 hm1
  refine new (fun w2 hE2 hz2 hB2 => ?_)
  rw [hz1] at hB2
  exact ⟨by rw [hz1]; rfl, hE1.trans hE2, by omega, hB2, hm1.ext hE2⟩

theorem dcombine_fn (A : Option Addr) (n c : Nat) (a : List Br) (ra : Int) (B : Option Addr) (m d : Nat) (b : List Br) (rb op : Int) (F ob : Nat) (w : World) (hF : CloOp F op) (h : SB w A n c a) (h' : SB w B m d b) (hob : Blk w ob 113 [.func (.func F) #[] #[]]) (ha : DOk a) (hb : DOk b) (r0 : 0 ≤ ra) (r1 : ra < n + 2) (s0 : 0 ≤ rb) (s1 : rb < m + 2) (hn : n ≤ 1000000000000) (hm : m ≤ 1000000000000)
    (hl1 : (at2D a ra b rb op).2.1.length ≤ 100000000000) :
    Fn Tryz.prog 104 [.agg #[.slice A n c, .int .i64 ra, .slice B m d, .int .i64 rb, .slice none 0 0, .int .i64 0], .func (.func 105) #[] #[VP.ptr ob]] w (DgRes w (combD a ra b rb op)) := by
  have hal := h.2
  have hbl := h'.2
  have hobl := hob.lt
  refine fn_of_exec (c := { c104 with cuts := [] }) gx_ok Tryz.func104 rfl rfl rfl ?_
  refine new (fun w1 hE1 hz1 hB1 => ?_)
  refine new (fun w2 hE2 hz2 hB2 => ?_)
  refine new (fun w3 hE3 hz3 hB3 => ?_)
  refine call (newbuilder_fn w3) ?_
  rintro _ w4 ⟨rfl, hE4, hz4, hB4, hk4⟩
  refine new (fun w5 hE5 hz5 hB5 => ?_)
  refine store_mod (j := 0) hB5 (by decide) (fun w6 hM6 hB6 => ?_)
  have hE46 : Ext w4 w6 := hM6.ext hE5 (fun i hi => by omega)
  refine at_makeMapQ gx_ok i3K rfl ?_
  intro w7 hE7 hz7 hq7
  refine new (fun w8 hE8 hz8 hB8 => ?_)
  refine store_mod (j := 0) hB8 (by decide) (fun w9 hM9 hB9 => ?_)
  have hE79 : Ext w7 w9 := hM9.ext hE8 (fun i hi => by omega)
  refine new (fun w10 hE10 hz10 hB10 => ?_)
  refine store_mod (j := 0) hB10 (by decide) (fun w11 hM11 hB11 => ?_)
  have z6 := hM6.size
  have z9 := hM9.size
  have z11 := hM11.size
  have hE911 : Ext w9 w11 := hM11.ext hE10 (fun i hi => by omega)
  have hE611 : Ext w6 w11 := (hE7.trans hE79).trans hE911
  have hE411 : Ext w4 w11 := hE46.trans hE611
  have hE34 := hE4
  have hE311 : Ext w3 w11 := hE4.trans hE411
  have hE011 : Ext w w11 := ((hE1.trans hE2).trans hE3).trans hE311
  let D : AD := ⟨A, n, c, a, ra, B, m, d, b, rb, op⟩
  let p : CP := ⟨w1.heap.size, ob, w7.heap.size, w.heap.size, w9.heap.size, w4.heap.size, w3.heap.size + 1, w3.heap.size, w6.heap.size, F, D⟩
  have g11 := hB11.lt
  have hK : CK w11 w11.heap.size p := by
    refine ⟨hF, hB2.ext (hE3.trans hE311), hob.ext hE011, hB9.ext hE911, hB1.ext ((hE2.trans hE3).trans hE311), hB11, hB6.ext hE611, h.ext hE011, h'.ext hE011, fun k hk => ?_, fun ad e h0 => ?_, fun ad e h0 => ?_⟩
    · simp only [p] at hk ⊢
      rcases hk with rfl | rfl | rfl | rfl | rfl | rfl <;> omega
    · have := SB.lt h ad e h0
      simp only [p]; omega
    · have := SB.lt h' ad e h0
      simp only [p]; omega
  have hS : CSt w11 w11.heap.size p none 0 ([], []) := by
    refine ⟨⟨hB4.ext hE411, Own.nil _ _ _ _, ⟨[], hk4.ext hE411, fun _ => rfl⟩, ?_, Nat.le_refl _⟩, ⟨[], hq7.ext (hE79.trans hE911), fun _ _ => rfl⟩, ?_⟩
    · simp only [p]; omega
    · simp only [p]; omega
  have hno : ∀ i, rowS none i → w11.heap.size ≤ i := fun i hi => by obtain ⟨_, e, _⟩ := hi; cases e
  have nof := fun k hk => CS.no (p := p) hno (hK.off k hk)
  refine draw_plan gx_ok (Mod (CS p none) w11) 14 [(true, 0), (true, 1), (true, 2), (true, 3), (true, 4), (true, 5), (true, 6), (true, 7), (true, 8), (true, 9), (true, 10), (true, 11), (false, 12), (false, 13)] (by kernel_rfl) (Mod.of_ext _ (Ext.drew w11)) ?_
  refine qload (v := VP.ptr p.pb) (fun w' hw' => by rw [(hK.bxb.mod hw' (nof _ (by simp))).cell0]; rfl) ?_
  refine qload (v := p.clo) (fun w' hw' => by rw [(hK.axb.mod hw' (nof _ (by simp))).cell0]; rfl) ?_
  refine index_n (j := 0) (by decide) ?_
  refine qload (v := .int .i64 ra) (fun w' hw' => by rw [add_add, (hK.lxb.mod hw' (nof _ (by simp))).cell]; rfl) ?_
  refine index_n (j := 1) (by decide) ?_
  refine qload (v := .int .i64 rb) (fun w' hw' => by rw [add_add, (hK.lxb.mod hw' (nof _ (by simp))).cell]; rfl) ?_
  refine index_n (j := 2) (by decide) ?_
  refine qload (v := .int .i64 0) (fun w' hw' => by rw [add_add, (hK.lxb.mod hw' (nof _ (by simp))).cell]; rfl) ?_
  have inv := at2_inv ha hb op (ra.toNat + rb.toNat + 1) ra rb ([], []) ⟨fun j x hx => by simp at hx, fun t ht => by simp at ht⟩ r0 s0 (by omega) (by omega)
  refine call (at3_fn w11.heap.size p ha hb ⟨hn, hm⟩ (ra.toNat + rb.toNat + 1) ra rb ([], []) none 0 _ (hK.ext (Ext.drew w11)) (hS.ext (Ext.drew w11)) r0 s0 (by omega) r1 s1 hl1) ?_
  rintro _ w12 ⟨rfl, NA, nc, hS12, hM12', hV12⟩
  have hM12 : Mod (CS p none) w11 w12 := (Mod.of_ext _ (Ext.drew w11)).trans hM12' (fun i hi => .inl hi)
  refine ⟨hM12, ?_⟩
  have hl1' : (at2 a b op (ra.toNat + rb.toNat + 1) ra rb ([], [])).2.1.length ≤ 100000000000 := hl1
  have hN12 : SB w12 NA _ nc _ := ⟨hS12.bd.own.sl, rfl⟩
  refine call (diagram_fn p.pb (.map (some p.km)) NA _ nc _ _ w12 hS12.bd.blk hN12 inv.1.1 (by show (at2 a b op (ra.toNat + rb.toNat + 1) ra rb ([], [])).2.1.length ≤ _; omega) inv.2.1 inv.2.2 (SB.lt hN12)) ?_
  rintro _ w13 ⟨OA, k, oc, rfl, hE13, hO13, hR13⟩
  have hM13 : Mod (CS p none) w11 w13 := hM12.trans (Mod.of_ext (CS p none) hE13) (fun i hi => .inl hi)
  refine ⟨hM13, ?_⟩
  have nres : ¬ CS p none w2.heap.size := CS.no (p := p) hno (by simp only [p]; omega)
  have hB13 := (hB3.ext hE311).mod hM13 nres
  refine storeN_blk0 hB13 rfl (sc rfl) (fun w14 hg14 _ hB14 => ?_)
  have hM14 : Mod (· = w2.heap.size) w13 w14 := Mod.of_grown hg14 rfl
  refine loadN_blk0 hB14 rfl ?_
  have hE013 : Ext w w13 := hM13.ext hE011 (fun i hi => by
    rcases hi with e | e | e | ⟨_, e, _⟩
    · simp only [p] at e; omega
    · simp only [p] at e; omega
    · simp only [p] at e; omega
    · cases e)
  have z12 := hM12.size
  have nr : ∀ i, rowS OA i → ¬ i = w2.heap.size := fun i hi e => by have := hR13 i hi; omega
  refine ⟨OA, k, oc, rfl, hM14.ext hE013 (fun i hi => by omega), ⟨hO13.1.modS hM14 (fun _ i hi => nr i hi), hO13.2⟩, fun i hi => by have := hR13 i hi; have := hE011.size; omega⟩

theorem dbinary_fn (A : Option Addr) (n c : Nat) (a : List Br) (ra : Int) (B : Option Addr) (m d : Nat) (b : List Br) (rb op : Int) (F : Nat) (w : World) (hF : CloOp F op) (h : SB w A n c a) (h' : SB w B m d b) :
    Fn Tryz.prog 64 [dgV A n c ra, dgV B m d rb, .func (.func F) #[] #[]] w (DgE w (opD a ra b rb op)) := by
  have hal := h.2
  have hbl := h'.2
  refine fn_of_exec (c := { c64 with cuts := [] }) gx_ok Tryz.func64 rfl rfl rfl ?_
  refine new (fun w1 hE1 hz1 hB1 => ?_)
  refine new (fun w2 hE2 hz2 hB2 => ?_)
  refine new (fun w3 hE3 hz3 hB3 => ?_)
  refine new (fun w4 hE4 hz4 hB4 => ?_)
  have hE24 := hE3.trans hE4
  have hE04 := (hE1.trans hE2).trans hE24
  have hB14 := (hB1.ext hE2).ext hE24
  have hB24 := hB2.ext hE24
  have hB34 := hB3.ext hE4
  refine loadN_blk0 hB14 rfl ?_
  refine loadN_blk0 hB24 rfl ?_
  refine at_buildN gx_ok [(⟨A, n, c, a, ra⟩ : DV).cells, (⟨B, m, d, b, rb⟩ : DV).cells] rfl rfl rfl rfl rfl ⟨rfl, rfl, rfl, rfl, ⟨⟩⟩ rfl (fun cs h => by simp only [List.mem_cons, List.not_mem_nil, or_false] at h; rcases h with rfl | rfl <;> rfl) rfl (by decide) (by decide) ?_
  intro w5 hE5 hz5 hB5
  have hE05 := hE04.trans hE5
  have hL : SlS DV.cells 2 w5 (some ⟨w4.heap.size, 0, none⟩) 2 2 [⟨A, n, c, a, ra⟩, ⟨B, m, d, b, rb⟩] := ⟨Sl.own (sz := 2) (n := 2) hB5 (Nat.le_refl _) (by decide) (by simp [DV.cells]), rfl⟩
  refine call (dcheck_fn _ 2 2 _ w5 hL (fun x hx => by
    simp only [List.mem_cons, List.not_mem_nil, or_false] at hx
    rcases hx with rfl | rfl
    · exact h.ext hE05
    · exact h'.ext hE05)) ?_
  rintro v w6 ⟨rfl, hE6⟩
  have hE46 := hE5.trans hE6
  have hE06 := hE04.trans hE46
  have hB46 := hB4.ext hE46
  have hz4' := hE46.size
  have ef : firstD [(⟨A, n, c, a, ra⟩ : DV), ⟨B, m, d, b, rb⟩] = if chkD a ra ≠ 0 then chkD a ra else if chkD b rb ≠ 0 then chkD b rb else 0 := rfl
  refine wif_ne (fun c1 => ?_) (fun c1 => ?_)
  · have e : opD a ra b rb op = (([], 0), firstD [(⟨A, n, c, a, ra⟩ : DV), ⟨B, m, d, b, rb⟩]) := by
      rw [ef] at c1 ⊢
      unfold opD
      split
      · rfl
      · rename_i hh
        rw [if_neg hh] at c1
        split
        · rfl
        · rename_i hh2; rw [if_neg hh2] at c1; exact absurd rfl c1
    rw [e]
    refine storeN_blk0 hB46 rfl (sc rfl) (fun w7 hg7 _ hB7 => ?_)
    have hM7 : Mod (· = w3.heap.size) w6 w7 := Mod.of_grown hg7 rfl
    refine loadN_blk0 hB7 rfl ?_
    exact ⟨none, 0, 0, rfl, hM7.ext hE06 (fun i hi => by omega), SlS.nil _, fun i ⟨_, e, _⟩ => by cases e⟩
  · rw [ef] at c1
    have ca : chkD a ra = 0 := by
      by_cases hh : chkD a ra = 0
      · exact hh
      · rw [if_pos hh] at c1; exact c1
    have cb : chkD b rb = 0 := by
      rw [if_neg (fun hh => hh ca)] at c1
      by_cases hh : chkD b rb = 0
      · exact hh
      · rw [if_pos hh] at c1; exact c1
    obtain ⟨sa, va⟩ := chkD_zero.1 ca
    obtain ⟨sb, vb⟩ := chkD_zero.1 cb
    have e : opD a ra b rb op = limD (combD a ra b rb op) := by unfold opD; rw [if_neg (fun hh => hh ca), if_neg (fun hh => hh cb)]
    rw [e]
    have hb2 := at2D_bnd va vb op
    have hmul : (a.length + 2) * (b.length + 2) ≤ 4098 * 4098 := Nat.mul_le_mul (by omega) (by omega)
    refine loadN_blk0 (hB14.ext hE46) rfl ?_
    refine loadN_blk0 (hB24.ext hE46) rfl ?_
    have hob : Blk w6 w2.heap.size 113 [.func (.func F) #[] #[]] := hB34.ext hE46
    refine call (dcombine_fn A n c a ra B m d b rb op F w2.heap.size w6 hF (h.ext hE06) (h'.ext hE06) hob va.dok vb.dok va.2.1 (by have := va.2.2.1; omega) vb.2.1 (by have := vb.2.2.1; omega) (by omega) (by omega) (by omega)) ?_
    rintro v w7 ⟨OA, k, oc, rfl, hE7, hO7, hR7⟩
    have hE47 := hE46.trans hE7
    have hE07 := hE04.trans hE47
    have z67 := hE06.size
    refine call (dlimited_fn OA k oc _ _ w4 w7 hO7 (fun i hi => by have := hR7 i hi; omega) hE47) ?_
    rintro v w8 ⟨PA, q, pc, rfl, hE8, hP8, hR8⟩
    refine storeN_blk0 (hB4.ext hE8) rfl (sc rfl) (fun w9 hg9 _ hB9 => ?_)
    have hM9 : Mod (· = w3.heap.size) w8 w9 := Mod.of_grown hg9 rfl
    refine loadN_blk0 hB9 rfl ?_
    refine ⟨PA, q, pc, rfl, hM9.ext (hE04.trans hE8) (fun i hi => by omega), ⟨hP8.1.modS hM9 (fun _ i hi e => by have := hR8 i hi; omega), hP8.2⟩, fun i hi => by have := hR8 i hi; omega⟩

theorem dand_fn (A : Option Addr) (n c : Nat) (a : List Br) (ra : Int) (B : Option Addr) (m d : Nat) (b : List Br) (rb : Int) (w : World) (h : SB w A n c a) (h' : SB w B m d b) :
    Fn Tryz.prog 117 [dgV A n c ra, dgV B m d rb] w (DgE w (opD a ra b rb 0)) := by
  refine fn_of_exec (c := { c117 with cuts := [] }) gx_ok Tryz.func117 rfl rfl rfl ?_
  refine new (fun w1 hE1 hz1 hB1 => ?_)
  refine new (fun w2 hE2 hz2 hB2 => ?_)
  refine new (fun w3 hE3 hz3 hB3 => ?_)
  have hE03 := (hE1.trans hE2).trans hE3
  refine loadN_blk0 ((hB1.ext hE2).ext hE3) rfl ?_
  refine loadN_blk0 (hB2.ext hE3) rfl ?_
  refine call (dbinary_fn A n c a ra B m d b rb 0 149 w3 (.inl ⟨rfl, rfl⟩) (h.ext hE03) (h'.ext hE03)) ?_
  rintro v w4 ⟨PA, q, pc, rfl, hE4, hP4, hR4⟩
  refine storeN_blk0 (hB3.ext hE4) rfl (sc rfl) (fun w5 hg5 _ hB5 => ?_)
  have hM5 : Mod (· = w2.heap.size) w4 w5 := Mod.of_grown hg5 rfl
  refine loadN_blk0 hB5 rfl ?_
  obtain ⟨g1, g2, g3⟩ := dg_wrap (r := opD a ra b rb 0) (hE03.trans hE4) hM5 (by omega) hP4 (fun i hi => by have := hR4 i hi; omega)
  exact ⟨PA, q, pc, rfl, g1, g2, g3⟩
theorem dor_fn (A : Option Addr) (n c : Nat) (a : List Br) (ra : Int) (B : Option Addr) (m d : Nat) (b : List Br) (rb : Int) (w : World) (h : SB w A n c a) (h' : SB w B m d b) :
    Fn Tryz.prog 36 [dgV A n c ra, dgV B m d rb] w (DgE w (opD a ra b rb 1)) := by
  refine fn_of_exec (c := { c36 with cuts := [] }) gx_ok Tryz.func36 rfl rfl rfl ?_
  refine new (fun w1 hE1 hz1 hB1 => ?_)
  refine new (fun w2 hE2 hz2 hB2 => ?_)
  refine new (fun w3 hE3 hz3 hB3 => ?_)
  have hE03 := (hE1.trans hE2).trans hE3
  refine loadN_blk0 ((hB1.ext hE2).ext hE3) rfl ?_
  refine loadN_blk0 (hB2.ext hE3) rfl ?_
  refine call (dbinary_fn A n c a ra B m d b rb 1 65 w3 (.inr (.inl ⟨rfl, rfl⟩)) (h.ext hE03) (h'.ext hE03)) ?_
  rintro v w4 ⟨PA, q, pc, rfl, hE4, hP4, hR4⟩
  refine storeN_blk0 (hB3.ext hE4) rfl (sc rfl) (fun w5 hg5 _ hB5 => ?_)
  have hM5 : Mod (· = w2.heap.size) w4 w5 := Mod.of_grown hg5 rfl
  refine loadN_blk0 hB5 rfl ?_
  obtain ⟨g1, g2, g3⟩ := dg_wrap (r := opD a ra b rb 1) (hE03.trans hE4) hM5 (by omega) hP4 (fun i hi => by have := hR4 i hi; omega)
  exact ⟨PA, q, pc, rfl, g1, g2, g3⟩
theorem dnot_fn (A : Option Addr) (n c : Nat) (a : List Br) (ra : Int) (w : World) (h : SB w A n c a) :
    Fn Tryz.prog 118 [dgV A n c ra] w (DgE w (opD a ra [] 0 3)) := by
  refine fn_of_exec (c := { c118 with cuts := [] }) gx_ok Tryz.func118 rfl rfl rfl ?_
  refine new (fun w1 hE1 hz1 hB1 => ?_)
  refine new (fun w2 hE2 hz2 hB2 => ?_)
  have hE02 := hE1.trans hE2
  refine loadN_blk0 (hB1.ext hE2) rfl ?_
  refine call (dbinary_fn A n c a ra none 0 0 [] 0 3 150 w2 (.inr (.inr ⟨rfl, rfl⟩)) (h.ext hE02) (SlS.nil _)) ?_
  rintro v w4 ⟨PA, q, pc, rfl, hE4, hP4, hR4⟩
  refine storeN_blk0 (hB2.ext hE4) rfl (sc rfl) (fun w5 hg5 _ hB5 => ?_)
  have hM5 : Mod (· = w1.heap.size) w4 w5 := Mod.of_grown hg5 rfl
  refine loadN_blk0 hB5 rfl ?_
  obtain ⟨g1, g2, g3⟩ := dg_wrap (r := opD a ra [] 0 3) (hE02.trans hE4) hM5 (by omega) hP4 (fun i hi => by have := hR4 i hi; omega)
  exact ⟨PA, q, pc, rfl, g1, g2, g3⟩
end
end Go.Proofs.YtedopgkbajhanaaGreatDoor

namespace Go.Proofs.YtedopgkbajhanaaGreatDoor
section
open Go Go.RowKit

section
variable {α : Type} {f : α → List Value} {sz : Nat}
theorem take_flat (hf : ∀ x, (f x).length = sz) : ∀ (l : List α) (j : Nat), (l.flatMap f).take (j * sz) = (l.take j).flatMap f
  | [], j => by simp
  | x :: l, 0 => by simp
  | x :: l, j + 1 => by
    rw [List.flatMap_cons, List.take_succ_cons, List.flatMap_cons, ← take_flat hf l j, List.take_append]
    rw [List.take_of_length_le (by rw [hf, Nat.succ_mul]; omega), hf, show (j + 1) * sz - sz = j * sz by rw [Nat.succ_mul]; omega]
theorem drop_flat (hf : ∀ x, (f x).length = sz) : ∀ (l : List α) (j : Nat), (l.flatMap f).drop (j * sz) = (l.drop j).flatMap f
  | [], j => by simp
  | x :: l, 0 => by simp
  | x :: l, j + 1 => by
    rw [List.flatMap_cons, List.drop_succ_cons, ← drop_flat hf l j, List.drop_append]
    rw [List.drop_of_length_le (by rw [hf, Nat.succ_mul]; omega), hf, show (j + 1) * sz - sz = j * sz by rw [Nat.succ_mul]; omega]
    rfl
theorem putL_flat (hf : ∀ x, (f x).length = sz) (l : List α) {j : Nat} (x : α) (hj : j < l.length) : putL (j * sz) (f x) (l.flatMap f) = (l.set j x).flatMap f := by
  have hle : (j + 1) * sz ≤ l.length * sz := Nat.mul_le_mul_right _ hj
  rw [Nat.succ_mul] at hle
  rw [putL_spec _ _ _ (by rw [hf, flat_length hf]; exact hle), hf, take_flat hf, ← Nat.succ_mul, drop_flat hf, List.set_eq_take_append_cons_drop, if_pos hj]
  simp
theorem madeCells_flat (hf : ∀ x, (f x).length = sz) (h0 : 0 < sz) {z : α} {zc : Array Value} (hz : zc.toList = f z) (n : Nat) : (madeCells zc (n * sz)).toList = (List.replicate n z).flatMap f := by
  have hzs : zc.size = sz := by rw [← Array.length_toList, hz, hf]
  apply List.ext_getElem?
  intro i
  by_cases hi : i < n * sz
  · have hd : i / sz < n := Nat.div_lt_of_lt_mul (by rw [Nat.mul_comm]; exact hi)
    have hr : i % sz < sz := Nat.mod_lt _ h0
    have hdm : i / sz * sz + i % sz = i := by rw [Nat.mul_comm]; exact Nat.div_add_mod i sz
    have g1 : (List.replicate n z)[i / sz]? = some z := by rw [List.getElem?_replicate, if_pos hd]
    have g2 := List.getElem?_eq_getElem (l := f z) (i := i % sz) (by rw [hf]; exact hr)
    have g3 := flat_get hf _ _ _ _ _ g1 g2
    rw [hdm] at g3
    rw [g3]
    have e : zc[i % zc.size]! = (f z)[i % sz]'(by rw [hf]; exact hr) := by
      have h1 : zc[i % sz]? = some ((f z)[i % sz]'(by rw [hf]; exact hr)) := by rw [← Array.getElem?_toList, hz]; exact g2
      rw [hzs, Array.getElem!_eq_getD, Array.getD_eq_getD_getElem?, h1]; rfl
    simp [madeCells, hi, e]
  · rw [List.getElem?_eq_none (by simp [madeCells]; omega), List.getElem?_eq_none (by rw [flat_length hf]; simp; omega)]

theorem at_makeN (hf : ∀ x, (f x).length = sz) (h0 : 0 < sz) (z : α) {c : Cx} (hg : c.g.Ok) {o : Oper} {S : Env} {w : World} {K : Env → World → Prop} {Q : Post} {t e : Nat} {x y : Operand} {n : Nat} {r re : TyRow} (ho : o.op = .makeSlice t x y) (hr : rowOf c.g.tys t = some r) (hd : r.d = .slice e) (hre : rowOf c.g.tys e = some re) (hz : re.z.cells.toList = f z)
    (hs : re.sz = sz) (hx : S.ev x = some (.int .i64 n)) (hy : S.ev y = some (.int .i64 n)) (hb : re.by_ * n ≤ 281474976710656) (hn : n ≤ maxLen)
    (k : ∀ w1, Ext w w1 → w1.heap.size = w.heap.size + 1 → Blk w1 w.heap.size e ((List.replicate n z).flatMap f) → putK c S o.dst (.v (.slice (some ⟨w.heap.size, 0, none⟩) n n)) (fun S => K S w1)) : AtOp c o S w K Q := by
  obtain ⟨_, i, hi, hsz, hby, hiz⟩ := hg.row hre
  have hr' := (hg.row hr).1
  rw [hd] at hr'
  have hr1 := run_make (P := c.g.P) w t e i re.z hr' hi hiz .i64 .i64 n n (by omega) (by omega) (by rw [hby]; omega) (by unfold maxLen at hn; omega)
  have hm := madeCells_flat hf h0 hz n
  rw [hsz, hs] at hr1
  simp only [Int.toNat_natCast] at hr1
  refine at_run (w' := w.alloc (.cells (madeCells re.z.cells (n * sz)) e)) (v := .slice (some ⟨w.heap.size, 0, none⟩) n n) (fun a hf => ?_) (k _ (Ext.alloc w _) (by simp) ?_)
  · have e1 := hf.ev hx
    have e2 := hf.ev hy
    simp only [execOp, ho, e1, e2]
    simp at hr1 ⊢
    rw [hr1]; rfl
  · rw [← hm]
    simpa using Blk.new w e (madeCells re.z.cells (n * sz)).toList
end
end
end Go.Proofs.YtedopgkbajhanaaGreatDoor

namespace Go.Proofs.YtedopgkbajhanaaGreatDoor
section
open Go Go.RowKit

/-- The sets so far. -/
structure DgI (w0 : World) (g : Nat) (f : List Fz) (k n s : Nat) (L : List DV) (w : World) : Prop where
  m : Mod (· = g) w0 w
  blk : Blk w g 42 (L.flatMap DV.cells)
  len : L.length = n
  got : ∀ j, j < s → ∃ x t, L[j]? = some x ∧ RepF f t j ∧ SB w x.A x.n x.c x.nd ∧ Set1 k x.nd x.r (evF t) ∧ ∀ i, rowS x.A i → g < i
theorem SB.mod {S : Nat → Prop} {w w' : World} {A : Option Addr} {n c : Nat} {nd : List Br} (h : SB w A n c nd) (hm : Mod S w w') (hr : ∀ i, rowS A i → ¬ S i) : SB w' A n c nd := ⟨h.1.modS hm (fun _ i hi => hr i hi), h.2⟩
theorem DgI.mod {w0 w w' : World} {g : Nat} {f : List Fz} {k n s : Nat} {L : List DV} (h : DgI w0 g f k n s L w) (k1 : Ext w w') : DgI w0 g f k n s L w' :=
  ⟨h.m.trans (Mod.of_ext (· = g) k1) (fun _ hi => .inl hi), h.blk.ext k1, h.len, fun j hj => by
    obtain ⟨x, t, h1, h2, h3, h4, h5⟩ := h.got j hj
    exact ⟨x, t, h1, h2, h3.ext k1, h4, h5⟩⟩
theorem DgI.put {w0 w w' : World} {g : Nat} {f : List Fz} {k n s : Nat} {L : List DV} (h : DgI w0 g f k n s L w) (hs : s < n) {x : DV} {t : Fm} (ht : RepF f t s) (hx : SB w x.A x.n x.c x.nd) (hS : Set1 k x.nd x.r (evF t)) (hr : ∀ i, rowS x.A i → g < i) (hm : Mod (· = g) w w')
    (hb : Blk w' g 42 (putL (s * 2) x.cells (L.flatMap DV.cells))) : DgI w0 g f k n (s + 1) (L.set s x) w' := by
  have hl := h.len
  refine ⟨h.m.trans hm (fun _ hi => .inl hi), by rw [← putL_flat dv_len L x (by omega)]; exact hb, by rw [List.length_set]; exact hl, fun j hj => ?_⟩
  by_cases hjs : j = s
  · subst hjs
    exact ⟨x, t, by rw [List.getElem?_set_self (by omega)], ht, hx.mod hm (fun i hi e => by have := hr i hi; omega), hS, hr⟩
  · obtain ⟨y, u, h1, h2, h3, h4, h5⟩ := h.got j (by omega)
    exact ⟨y, u, by rw [List.getElem?_set_ne (fun e => hjs e.symm)]; exact h1, h2, h3.mod hm (fun i hi e => by have := h5 i hi; omega), h4, h5⟩
/-- A place that is not written keeps its set. -/
def DgC (g s : Nat) (L : List DV) (w w' : World) : Prop := Mod (· = g) w w' ∧ ∀ (j : Nat) (x : DV), j ≠ s → L[j]? = some x → ∀ (i : Nat) (v : Value), x.cells[i]? = some v → w'.cell? ((⟨g, 0, none⟩ : Addr).add (j * 2 + i)) = some v
theorem DgC.of_ext {g s : Nat} {L : List DV} {w w' : World} (hb : Blk w g 42 (L.flatMap DV.cells)) (h : Ext w w') : DgC g s L w w' :=
  ⟨Mod.of_ext _ h, fun j x _ hx i v hi => by rw [(hb.ext h).cell]; exact flat_get dv_len _ _ _ _ _ hx hi⟩
theorem DgC.put {g s : Nat} {L : List DV} {w w1 w' : World} {x : DV} (hs : s < L.length) (h : Ext w w1) (hm : Mod (· = g) w1 w') (hb : Blk w' g 42 (putL (s * 2) x.cells (L.flatMap DV.cells))) : DgC g s L w w' :=
  ⟨(Mod.of_ext (· = g) h).trans hm (fun _ hi => .inl hi), fun j y hj hy i v hi => by
    rw [hb.cell, putL_flat dv_len L x hs]
    exact flat_get dv_len _ _ _ _ _ (by rw [List.getElem?_set_ne (fun e => hj e.symm)]; exact hy) hi⟩
theorem FV.rep {f : List Fz} (h : FV f) {i : Nat} (hi : i < f.length) : ∃ t, RepF f t i := rep_of h.2.2.1 i hi

theorem fdiagram_fn (F : Option Addr) (n cF : Nat) (f : List Fz) (k : Nat) (hk : k ≤ 12) (w : World) (h : SF w F n cF f) (hv : FV f) (hvk : varsOk k f) :
    Fn Tryz.prog 116 [.slice F n cF] w (fun v w' => ∃ A m c nd r, v = .tuple #[dgV A m c r, .int .i64 0] ∧ Ext w w' ∧ SB w' A m c nd ∧ Set1 k nd r (evF (treeOf f)) ∧ ∀ i, rowS A i → w.heap.size < i) := by
  have hn := h.2
  have hvl := hv.1
  have hv0 := hv.2.1
  refine fn_of_exec (c := { c116 with cuts := [] }) gx_ok Tryz.func116 rfl rfl rfl ?_
  refine new (fun w1 hE1 hz1 hB1 => ?_)
  refine call (check_fn F n cF f w1 (h.ext hE1)) ?_
  rintro _ w2 ⟨rfl, hE2⟩
  refine wif_nef (chkF_ok hv) ?_
  have hE02 := hE1.trans hE2
  refine at_makeN dv_len (by decide) (⟨none, 0, 0, [], 0⟩ : DV) gx_ok rfl rfl rfl rfl rfl rfl rfl rfl (by show 32 * n ≤ _; omega) (by unfold maxLen; omega) (fun w3 hE3 hz3 hB3 => ?_)
  have hE03 := hE02.trans hE3
  have hz02 := hE02.size
  have hz2 : w1.heap.size ≤ w2.heap.size := hE2.size
  refine loop gx_ok [17] (fun s : Nat × List DV => [.int .i64 s.1]) (fun s w' => DgI w3 w2.heap.size f k n s.1 s.2 w' ∧ s.1 ≤ n) (fun s _ => n - s.1) (0, List.replicate n ⟨none, 0, 0, [], 0⟩) rfl ⟨⟨Mod.refl _ _, hB3, by simp, fun j hj => absurd hj (by simp)⟩, Nat.zero_le _⟩ ?_
  rintro ⟨s, L⟩ w4 ⟨hI, hs⟩
  simp only at hI hs
  have hE4 : Ext w w4 := hI.m.ext hE03 (fun i hi => by omega)
  have hL := hI.len
  refine wif_d (fun h1 => ?_) (fun h1 => ?_)
  · have hsn : s < n := by simp only at h1; omega
    refine index_sls fz_len (h.ext hE4) rfl hsn (fun p x hx hc => ?_)
    refine loadN_at (vs := x.cells) rfl hc ?_
    refine new (fun w5 hE5 hz5 hB5 => ?_)
    refine storeN_blk0 hB5 rfl (sc rfl) (fun w6 hg6 hz6 hB6 => ?_)
    have hE46 : Ext w4 w6 := newBox hE5 hB5 hg6
    have hI6 := hI.mod hE46
    obtain ⟨t, ht⟩ := hv.rep (i := s) (by omega)
    have hz4 := hI.m.size
    have hz46 := hE46.size
    have c0 : Set1 k [] 0 (fun _ => false) := const_set k false
    have hrc : ∀ i, rowS (none : Option Addr) i → w2.heap.size < i := fun i hi => by obtain ⟨_, e, _⟩ := hi; cases e
    cases t with
    | c b =>
      cases b with
      | false =>
        have hxx : x = ⟨0, 0, 0, 0⟩ := Option.some.inj (hx.symm.trans ht)
        subst hxx
        refine load_blk0 hB6 rfl ?_
        refine wif_eqt rfl ?_
        refine load_blk0 hB6 rfl ?_
        refine call (dconst_fn false w6) ?_
        rintro _ w7 ⟨rfl, hE7⟩
        have hI7 := hI6.mod hE7
        refine index_n (j := s) hsn ?_
        refine storeN_blk (j := s * 2) (vs := (⟨none, 0, 0, [], 0⟩ : DV).cells) hI7.blk (by rw [flat_length dv_len, hL]; show s * 2 + 2 ≤ n * 2; omega) (sc rfl) (fun w8 hg8 hz8 hB8 => ?_)
        have hM8 : Mod (· = w2.heap.size) w7 w8 := Mod.of_grown hg8 rfl
        have hI8 := hI7.put hsn (x := ⟨none, 0, 0, [], 0⟩) ht (SlS.nil _) (const_set k false) hrc hM8 hB8
        refine wif_nef rfl ?_
        refine norm_i64_to ((s + 1 : Nat) : Int) (by show ((s : Nat) : Int) + 1 = _; omega) (by omega) ?_
        exact ⟨(s + 1, L.set s ⟨none, 0, 0, [], 0⟩), rfl, ⟨hI8, by show s + 1 ≤ n; omega⟩, by show n - (s + 1) < n - s; omega⟩
      | true =>
        have hxx : x = ⟨1, 0, 0, 0⟩ := Option.some.inj (hx.symm.trans ht)
        subst hxx
        refine load_blk0 hB6 rfl ?_
        refine wif_eqf (show ¬ (1 : Int) = 0 by decide) ?_
        refine wif_eqt rfl ?_
        refine load_blk0 hB6 rfl ?_
        refine call (dconst_fn true w6) ?_
        rintro _ w7 ⟨rfl, hE7⟩
        have hI7 := hI6.mod hE7
        refine index_n (j := s) hsn ?_
        refine storeN_blk (j := s * 2) (vs := (⟨none, 0, 0, [], 1⟩ : DV).cells) hI7.blk (by rw [flat_length dv_len, hL]; show s * 2 + 2 ≤ n * 2; omega) (sc rfl) (fun w8 hg8 hz8 hB8 => ?_)
        have hM8 : Mod (· = w2.heap.size) w7 w8 := Mod.of_grown hg8 rfl
        have hI8 := hI7.put hsn (x := ⟨none, 0, 0, [], 1⟩) ht (SlS.nil _) (const_set k true) hrc hM8 hB8
        refine wif_nef rfl ?_
        refine norm_i64_to ((s + 1 : Nat) : Int) (by show ((s : Nat) : Int) + 1 = _; omega) (by omega) ?_
        exact ⟨(s + 1, L.set s ⟨none, 0, 0, [], 1⟩), rfl, ⟨hI8, by show s + 1 ≤ n; omega⟩, by show n - (s + 1) < n - s; omega⟩
    | v q =>
      have hxx : x = ⟨2, (q : Nat), 0, 0⟩ := Option.some.inj (hx.symm.trans ht)
      subst hxx
      have hq : (q : Int) < k := hvk _ (List.mem_of_getElem? hx) rfl
      refine load_blk0 hB6 rfl ?_
      refine wif_eqf (show ¬ (2 : Int) = 0 by decide) ?_
      refine wif_eqf (show ¬ (2 : Int) = 1 by decide) ?_
      refine wif_eqt rfl ?_
      refine load_blk hB6 rfl ?_
      refine call (dvar_fn (q : Nat) w6 (by omega) (by omega)) ?_
      rintro _ w7 ⟨PA, pn, pc, rfl, hE7, hP7, hR7⟩
      have hI7 := hI6.mod hE7
      have hSv : Set1 k [⟨(q : Nat), 0, 1⟩] 2 (evF (.v q)) := ⟨vd_var (by omega) (by omega), fun b hb => by simp only [List.mem_singleton] at hb; subst hb; exact hq, fun e => by
        rw [ev_ge (vd_var (k := ((q : Nat) : Int)) (by omega) (by omega)).wf (by decide) (b := ⟨(q : Nat), 0, 1⟩) rfl, ev_lt (by simp), ev_lt (by simp)]
        cases h : e q <;> simp [evF, h]⟩
      refine index_n (j := s) hsn ?_
      refine storeN_blk (j := s * 2) (vs := (⟨PA, pn, pc, [⟨(q : Nat), 0, 1⟩], 2⟩ : DV).cells) hI7.blk (by rw [flat_length dv_len, hL]; show s * 2 + 2 ≤ n * 2; omega) (sc rfl) (fun w8 hg8 hz8 hB8 => ?_)
      have hM8 : Mod (· = w2.heap.size) w7 w8 := Mod.of_grown hg8 rfl
      have hI8 := hI7.put hsn (x := ⟨PA, pn, pc, [⟨(q : Nat), 0, 1⟩], 2⟩) ht hP7 hSv (fun i hi => by have := hR7 i hi; omega) hM8 hB8
      refine wif_nef rfl ?_
      refine norm_i64_to ((s + 1 : Nat) : Int) (by show ((s : Nat) : Int) + 1 = _; omega) (by omega) ?_
      exact ⟨(s + 1, L.set s ⟨PA, pn, pc, [⟨(q : Nat), 0, 1⟩], 2⟩), rfl, ⟨hI8, by show s + 1 ≤ n; omega⟩, by show n - (s + 1) < n - s; omega⟩
    | not a =>
      obtain ⟨j, hj, hxj, hra⟩ := ht
      have hxx : x = ⟨3, 0, (j : Nat), 0⟩ := Option.some.inj (hx.symm.trans hxj)
      subst hxx
      obtain ⟨y, u, hy, hu, hyS, hyM, hyr⟩ := hI6.got j hj
      obtain rfl : u = a := RepF.det hu hra
      have hex := op_set hk hyM c0 3
      have hcs := comb_set hyM c0 3
      have hjn : j < n := by omega
      refine load_blk0 hB6 rfl ?_
      refine wif_eqf (show ¬ (3 : Int) = 0 by decide) ?_
      refine wif_eqf (show ¬ (3 : Int) = 1 by decide) ?_
      refine wif_eqf (show ¬ (3 : Int) = 2 by decide) ?_
      refine wif_eqt rfl ?_
      refine load_blk hB6 rfl ?_
      refine index_n (j := j) hjn ?_
      refine loadN_blk (j := j * 2) (vs := y.cells) hI6.blk rfl (fun i v hi => flat_get dv_len _ _ _ _ _ hy hi) ?_
      refine call (dnot_fn y.A y.n y.c y.nd y.r w6 hyS) ?_
      rw [hex]
      rintro _ w7 ⟨PA, pn, pc, rfl, hE7, hP7, hR7⟩
      have hI7 := hI6.mod hE7
      have ht : RepF f (.not u) s := ⟨j, hj, hxj, hra⟩
      generalize combD y.nd y.r [] 0 3 = D at *
      obtain ⟨D1, D2⟩ := D
      have hSv : Set1 k D1 D2 (evF (.not u)) := hcs.congr (fun e => by simp [opB, evF])
      refine index_n (j := s) hsn ?_
      refine storeN_blk (j := s * 2) (vs := (⟨PA, pn, pc, D1, D2⟩ : DV).cells) hI7.blk (by rw [flat_length dv_len, hL]; show s * 2 + 2 ≤ n * 2; omega) (sc rfl) (fun w8 hg8 hz8 hB8 => ?_)
      have hM8 : Mod (· = w2.heap.size) w7 w8 := Mod.of_grown hg8 rfl
      have hI8 := hI7.put hsn (x := ⟨PA, pn, pc, D1, D2⟩) ht hP7 hSv (fun i hi => by have := hR7 i hi; omega) hM8 hB8
      refine wif_nef rfl ?_
      refine norm_i64_to ((s + 1 : Nat) : Int) (by show ((s : Nat) : Int) + 1 = _; omega) (by omega) ?_
      exact ⟨(s + 1, L.set s ⟨PA, pn, pc, D1, D2⟩), rfl, ⟨hI8, by show s + 1 ≤ n; omega⟩, by show n - (s + 1) < n - s; omega⟩
    | and a b =>
      obtain ⟨j, l, hj, hl, hxj, hra, hrb⟩ := ht
      have hxx : x = ⟨4, 0, (j : Nat), (l : Nat)⟩ := Option.some.inj (hx.symm.trans hxj)
      subst hxx
      obtain ⟨y, u, hy, hu, hyS, hyM, hyr⟩ := hI6.got j hj
      obtain rfl : u = a := RepF.det hu hra
      obtain ⟨z, u', hz, hu', hzS, hzM, hzr⟩ := hI6.got l hl
      obtain rfl : u' = b := RepF.det hu' hrb
      have hex := op_set hk hyM hzM 0
      have hcs := comb_set hyM hzM 0
      have hjn : j < n := by omega
      have hln : l < n := by omega
      refine load_blk0 hB6 rfl ?_
      refine wif_eqf (show ¬ (4 : Int) = 0 by decide) ?_
      refine wif_eqf (show ¬ (4 : Int) = 1 by decide) ?_
      refine wif_eqf (show ¬ (4 : Int) = 2 by decide) ?_
      refine wif_eqf (show ¬ (4 : Int) = 3 by decide) ?_
      refine wif_eqt rfl ?_
      refine draw_plan gx_ok (DgC w2.heap.size s L w6) 19 [(true, 0), (true, 1), (true, 2), (true, 3), (true, 4), (true, 5), (true, 6), (true, 7), (true, 8), (true, 9), (true, 10), (true, 11), (false, 12), (true, 13), (true, 14), (true, 15), (true, 16), (false, 17), (true, 18)] (by kernel_rfl) (DgC.of_ext hI6.blk (Ext.drew w6)) ?_
      have hxn : ¬ w4.heap.size = w2.heap.size := by omega
      refine qload (v := .int .i64 (j : Nat)) (fun w' hw' => by rw [(hB6.mod hw'.1 hxn).cell]; rfl) ?_
      refine index_n (j := j) hjn ?_
      refine qloadN (vs := y.cells) rfl (fun w' hw' i v hi => by rw [add_add]; exact hw'.2 j y (by omega) hy i v hi) ?_
      refine qload (v := .int .i64 (l : Nat)) (fun w' hw' => by rw [(hB6.mod hw'.1 hxn).cell]; rfl) ?_
      refine index_n (j := l) hln ?_
      refine qloadN (vs := z.cells) rfl (fun w' hw' i v hi => by rw [add_add]; exact hw'.2 l z (by omega) hz i v hi) ?_
      refine call (dand_fn y.A y.n y.c y.nd y.r z.A z.n z.c z.nd z.r _ (hyS.ext (Ext.drew w6)) (hzS.ext (Ext.drew w6))) ?_
      rw [hex]
      rintro _ w7 ⟨PA, pn, pc, rfl, hE7', hP7, hR7⟩
      have hE7 := (Ext.drew w6).trans hE7'
      have hz6d := (Ext.drew w6).size
      refine ⟨DgC.of_ext hI6.blk hE7, ?_⟩
      have hI7 := hI6.mod hE7
      have ht : RepF f (.and u u') s := ⟨j, l, hj, hl, hxj, hra, hrb⟩
      generalize combD y.nd y.r z.nd z.r 0 = D at *
      obtain ⟨D1, D2⟩ := D
      have hSv : Set1 k D1 D2 (evF (.and u u')) := hcs.congr (fun e => by simp [opB, evF])
      refine index_n (j := s) hsn ?_
      refine storeN_blk (j := s * 2) (vs := (⟨PA, pn, pc, D1, D2⟩ : DV).cells) hI7.blk (by rw [flat_length dv_len, hL]; show s * 2 + 2 ≤ n * 2; omega) (sc rfl) (fun w8 hg8 hz8 hB8 => ?_)
      have hM8 : Mod (· = w2.heap.size) w7 w8 := Mod.of_grown hg8 rfl
      have hI8 := hI7.put hsn (x := ⟨PA, pn, pc, D1, D2⟩) ht hP7 hSv (fun i hi => by have := hR7 i hi; omega) hM8 hB8
      refine ⟨DgC.put (by omega) hE7 hM8 hB8, ?_⟩
      refine wif_nef rfl ?_
      refine norm_i64_to ((s + 1 : Nat) : Int) (by show ((s : Nat) : Int) + 1 = _; omega) (by omega) ?_
      exact ⟨(s + 1, L.set s ⟨PA, pn, pc, D1, D2⟩), rfl, ⟨hI8, by show s + 1 ≤ n; omega⟩, by show n - (s + 1) < n - s; omega⟩
    | or a b =>
      obtain ⟨j, l, hj, hl, hxj, hra, hrb⟩ := ht
      have hxx : x = ⟨5, 0, (j : Nat), (l : Nat)⟩ := Option.some.inj (hx.symm.trans hxj)
      subst hxx
      obtain ⟨y, u, hy, hu, hyS, hyM, hyr⟩ := hI6.got j hj
      obtain rfl : u = a := RepF.det hu hra
      obtain ⟨z, u', hz, hu', hzS, hzM, hzr⟩ := hI6.got l hl
      obtain rfl : u' = b := RepF.det hu' hrb
      have hex := op_set hk hyM hzM 1
      have hcs := comb_set hyM hzM 1
      have hjn : j < n := by omega
      have hln : l < n := by omega
      refine load_blk0 hB6 rfl ?_
      refine wif_eqf (show ¬ (5 : Int) = 0 by decide) ?_
      refine wif_eqf (show ¬ (5 : Int) = 1 by decide) ?_
      refine wif_eqf (show ¬ (5 : Int) = 2 by decide) ?_
      refine wif_eqf (show ¬ (5 : Int) = 3 by decide) ?_
      refine wif_eqf (show ¬ (5 : Int) = 4 by decide) ?_
      refine wif_eqt rfl ?_
      refine draw_plan gx_ok (DgC w2.heap.size s L w6) 19 [(true, 0), (true, 1), (true, 2), (true, 3), (true, 4), (true, 5), (true, 6), (true, 7), (true, 8), (true, 9), (true, 10), (true, 11), (false, 12), (true, 13), (true, 14), (true, 15), (true, 16), (false, 17), (true, 18)] (by kernel_rfl) (DgC.of_ext hI6.blk (Ext.drew w6)) ?_
      have hxn : ¬ w4.heap.size = w2.heap.size := by omega
      refine qload (v := .int .i64 (j : Nat)) (fun w' hw' => by rw [(hB6.mod hw'.1 hxn).cell]; rfl) ?_
      refine index_n (j := j) hjn ?_
      refine qloadN (vs := y.cells) rfl (fun w' hw' i v hi => by rw [add_add]; exact hw'.2 j y (by omega) hy i v hi) ?_
      refine qload (v := .int .i64 (l : Nat)) (fun w' hw' => by rw [(hB6.mod hw'.1 hxn).cell]; rfl) ?_
      refine index_n (j := l) hln ?_
      refine qloadN (vs := z.cells) rfl (fun w' hw' i v hi => by rw [add_add]; exact hw'.2 l z (by omega) hz i v hi) ?_
      refine call (dor_fn y.A y.n y.c y.nd y.r z.A z.n z.c z.nd z.r _ (hyS.ext (Ext.drew w6)) (hzS.ext (Ext.drew w6))) ?_
      rw [hex]
      rintro _ w7 ⟨PA, pn, pc, rfl, hE7', hP7, hR7⟩
      have hE7 := (Ext.drew w6).trans hE7'
      have hz6d := (Ext.drew w6).size
      refine ⟨DgC.of_ext hI6.blk hE7, ?_⟩
      have hI7 := hI6.mod hE7
      have ht : RepF f (.or u u') s := ⟨j, l, hj, hl, hxj, hra, hrb⟩
      generalize combD y.nd y.r z.nd z.r 1 = D at *
      obtain ⟨D1, D2⟩ := D
      have hSv : Set1 k D1 D2 (evF (.or u u')) := hcs.congr (fun e => by simp [opB, evF])
      refine index_n (j := s) hsn ?_
      refine storeN_blk (j := s * 2) (vs := (⟨PA, pn, pc, D1, D2⟩ : DV).cells) hI7.blk (by rw [flat_length dv_len, hL]; show s * 2 + 2 ≤ n * 2; omega) (sc rfl) (fun w8 hg8 hz8 hB8 => ?_)
      have hM8 : Mod (· = w2.heap.size) w7 w8 := Mod.of_grown hg8 rfl
      have hI8 := hI7.put hsn (x := ⟨PA, pn, pc, D1, D2⟩) ht hP7 hSv (fun i hi => by have := hR7 i hi; omega) hM8 hB8
      refine ⟨DgC.put (by omega) hE7 hM8 hB8, ?_⟩
      refine wif_nef rfl ?_
      refine norm_i64_to ((s + 1 : Nat) : Int) (by show ((s : Nat) : Int) + 1 = _; omega) (by omega) ?_
      exact ⟨(s + 1, L.set s ⟨PA, pn, pc, D1, D2⟩), rfl, ⟨hI8, by show s + 1 ≤ n; omega⟩, by show n - (s + 1) < n - s; omega⟩
  · have hsn : s = n := by simp only at h1; omega
    subst hsn
    obtain ⟨y, u, hy, hu, hyS, hyM, hyr⟩ := hI.got (s - 1) (by omega)
    have htr := treeOf_eq (f := f) (t := u) (by rw [hn]; exact hu)
    refine norm_i64_to ((s - 1 : Nat) : Int) (by omega) (by omega) ?_
    refine index_n (j := s - 1) (by omega) ?_
    refine loadN_blk (j := (s - 1) * 2) (vs := y.cells) hI.blk rfl (fun i v hi => flat_get dv_len _ _ _ _ _ hy hi) ?_
    have hB4 := ((hB1.ext hE2).ext hE3).mod hI.m (by show ¬ w.heap.size = w2.heap.size; omega)
    refine storeN_blk0 hB4 rfl (sc rfl) (fun w5 hg5 hz5 hB5 => ?_)
    have hM5 : Mod (· = w.heap.size) w4 w5 := Mod.of_grown hg5 rfl
    refine loadN_blk0 hB5 rfl ?_
    exact ⟨y.A, y.n, y.c, y.nd, y.r, rfl, hM5.ext hE4 (fun i hi => by omega), hyS.mod hM5 (fun i hi e => by have := hyr i hi; omega), by rw [htr]; exact hyM, fun i hi => by have := hyr i hi; omega⟩
end
end Go.Proofs.YtedopgkbajhanaaGreatDoor

namespace Go.Proofs.YtedopgkbajhanaaGreatDoor
section
section
open Go Go.RowKit

abbrev adr (g o : Nat) : Addr := (⟨g, 0, none⟩ : Addr).add o
/-- A builder lies at this place of a variable of this type and size. -/
def LiesO (t m o : Nat) : Prop := liesAt Tryz.prog Tryz.prog.depth t (m / Tryz.prog.cellsOf t) o 86 1 = true
theorem adr_off (g o : Nat) : (adr g o).off = o ∧ (adr g o).block = g := by unfold adr; rw [add_own]; exact ⟨rfl, rfl⟩
theorem cell_at {w : World} {g t o j : Nat} {cs : List Value} (h : Blk w g t cs) : w.cell? ((adr g o).add j) = cs[o + j]? := by unfold adr; rw [add_add, h.cell]
theorem load_at {w : World} {g t o j : Nat} {cs : List Value} {v : Value} {K : Value → Prop} (h : Blk w g t cs) (hv : cs[o + j]? = some v) (k : K v) : Load w ((adr g o).add j) K := load (by rw [cell_at h]; exact hv) k
theorem store_at {w : World} {g t o j : Nat} {cs : List Value} {v : Value} {K : World → Prop} (h : Blk w g t cs) (hj : o + j < cs.length) (k : ∀ w1, Mod (· = g) w w1 → Blk w1 g t (cs.set (o + j) v) → K w1) : Store w ((adr g o).add j) v K := by
  unfold adr; rw [add_add]; exact store_mod h hj k

theorem copyCheckO_fn (g t o : Nat) (pa : Value) (cs : List Value) (w : World) (hl : LiesO t cs.length o) (ho : o < cs.length) (hp : pa = .pointer none ∨ pa = .pointer (some (adr g o))) (hB : Blk w g t cs) (hc : cs[o]? = some pa) :
    Fn Tryz.prog 98 [.pointer (some (adr g o))] w (fun _ w' => Mod (· = g) w w' ∧ Blk w' g t (cs.set o (.pointer (some (adr g o))))) := by
  obtain ⟨j, hj, hj0⟩ := builder_info
  refine fn_of_exec (c := c98) gx_ok Tryz.func98 rfl rfl rfl ?_
  have hsh : w.shape? (adr g o).block = some (t, cs.length) := by rw [(adr_off g o).2]; exact hB.shape
  have ucs := Tryz.underlying84
  have uus := Tryz.underlying192
  rcases hp with rfl | rfl
  · refine load_at hB (by simpa using hc) ?_
    refine wif_t rfl ?_
    refine at_run (w' := w) (v := .pointer (some (adr g o))) (fun a hf => ?_) ?_
    · have e1 := hf.ev (show Env.ev _ (.tmp 8) = some (.pointer (some (adr g o))) from rfl)
      have := Lib.run_to_unsafe (P := Tryz.prog) (src := 84) (dst := 192) w (adr g o) ucs uus hj hj0 hsh (by rw [(adr_off g o).1]; exact ho)
      simp only [execOp, e1]
      simp [gxP, this]
    refine at_run (w' := w) (v := .pointer (some (adr g o))) (fun a hf => ?_) ?_
    · have e1 := hf.ev (show Env.ev _ (.tmp 9) = some (.pointer (some (adr g o))) from rfl)
      have := run_callFunc_extern (P := Tryz.prog) (e := Extern.AbiNoEscape.same) Tryz.func131 (by kernel_rfl) (by kernel_rfl) (by kernel_rfl) (by kernel_rfl) #[.pointer (some (adr g o))] w
      rw [Lib.run_noEscape] at this
      simp only [execOp, resolve, invoke]
      simp [Deferred.ofValue, Act.eval] at e1 ⊢
      simp [e1, gxP, this]
    refine at_run (w' := w) (v := .pointer (some (adr g o))) (fun a hf => ?_) ?_
    · have e1 := hf.ev (show Env.ev _ (.tmp 10) = some (.pointer (some (adr g o))) from rfl)
      have := Lib.run_from_unsafe (P := Tryz.prog) (src := 192) (dst := 84) (u := 86) w (adr g o) uus ucs hj hsh (by rw [(adr_off g o).1]; exact hl)
      simp only [execOp, e1]
      simp [gxP, this]
    refine store_at hB (by simpa using ho) (fun w1 hm hB1 => ?_)
    exact ⟨hm, by simpa using hB1⟩
  · refine load_at hB (by simpa using hc) ?_
    refine wif_f rfl ?_
    refine load_at hB (by simpa using hc) ?_
    refine at_run (w' := w) (v := .bool false) (fun a hf => ?_) ?_
    · have e1 := hf.ev (show Env.ev _ (.tmp 17) = some (.pointer (some (adr g o))) from rfl)
      have e2 := hf.ev (show Env.ev _ (.tmp 18) = some (.pointer (some (adr g o))) from rfl)
      have := Lib.run_neq_ptr_same (P := Tryz.prog) (tp := 84) w (adr g o) ucs hj
      simp only [execOp, e1, e2, eqGuard]
      simp [gxP, this]
    refine wif_f rfl ?_
    refine ⟨Mod.refl _ _, ?_⟩
    have e : cs.set o (.pointer (some (adr g o))) = cs := by
      apply List.ext_getElem?
      intro i
      by_cases hi : i = o
      · subst hi; rw [List.getElem?_set_self ho, hc]
      · rw [List.getElem?_set_ne (fun e => hi e.symm)]
    rw [e]; exact hB

theorem writeStringO_fn (base g t o : Nat) (pa : Value) (cs : List Value) (A : Option Addr) (c : Nat) (out : List Nat) (s : ByteArray) (w : World) (hl : LiesO t cs.length o) (ho : o + 1 < cs.length) (hp : pa = .pointer none ∨ pa = .pointer (some (adr g o))) (hB : Blk w g t cs)
    (hc : cs[o]? = some pa) (hc2 : cs[o + 1]? = some (.slice A out.length c)) (how : Own w base 5 1 A out.length c (bytesV out)) (hg1 : g < base) (top : base ≤ w.heap.size) (hs : out.length + s.size ≤ 140737488355328) :
    Fn Tryz.prog 57 [.pointer (some (adr g o)), .string s] w (fun _ w' => ∃ A' c', Blk w' g t ((cs.set o (.pointer (some (adr g o)))).set (o + 1) (.slice A' (out.length + s.size) c')) ∧ Own w' base 5 1 A' (out.length + s.size) c' (bytesV (out ++ bytesOf s)) ∧ Mod (BldS g A) w w' ∧ Moved w A A') := by
  refine fn_of_exec (c := c57) gx_ok Tryz.func57 rfl rfl rfl ?_
  refine call (copyCheckO_fn g t o pa cs w hl (by omega) hp hB hc) ?_
  rintro v w1 ⟨hm1, hB1⟩
  have hrows := how.rows
  have hn : ¬ rowS A g := fun h => by have := (hrows g h).1; omega
  have hown1 := how.mod hm1 (fun k hk e => hn (e ▸ hk))
  refine load_at hB1 (v := .slice A out.length c) (show (cs.set o (.pointer (some (adr g o))))[o + 1]? = _ by rw [List.getElem?_set_ne (by omega)]; exact hc2) ?_
  refine at_app_str gx_ok rfl rfl rfl rfl rfl rfl rfl rfl rfl rfl rfl hown1 hs (by have := hm1.size; omega) ?_
  intro A' c' w2 hm2 hown2 hmv2
  refine store_at (hB1.mod hm2 hn) (by simpa using ho) (fun w3 hm3 hB3 => ?_)
  have hrows2 := hown2.rows
  refine ⟨A', c', hB3, ?_, ?_, hmv2.back hm1.size⟩
  · rw [bytesV_append, ← strCells_bytesV]
    exact hown2.mod hm3 (fun k hk e => by have := (hrows2 k hk).1; omega)
  · exact ((hm1.mono (S' := BldS g A) (fun i hi => .inl (.inl hi))).trans hm2 (fun i hi => .inl (.inr hi))).trans hm3 (fun i hi => .inl (.inl hi))

theorem lenO_fn (g t o : Nat) (cs : List Value) (A : Option Addr) (c n : Nat) (w : World) (hB : Blk w g t cs) (hc2 : cs[o + 1]? = some (.slice A n c)) :
    Fn Tryz.prog 120 [.pointer (some (adr g o))] w (fun v w' => v = .int .i64 n ∧ w = w') := by
  refine fn_of_exec (c := c120) gx_ok Tryz.func120 rfl rfl rfl ?_
  refine load_at hB hc2 ?_
  exact ⟨rfl, rfl⟩

theorem stringO_fn (base g t o : Nat) (cs : List Value) (A : Option Addr) (c : Nat) (out : List Nat) (w : World) (hB : Blk w g t cs) (hc2 : cs[o + 1]? = some (.slice A out.length c)) (how : Own w base 5 1 A out.length c (bytesV out)) (h8 : ∀ x ∈ out, x < 256) (hs : out.length ≤ 140737488355328) :
    Fn Tryz.prog 47 [.pointer (some (adr g o))] w (fun v w' => v = .string (strOf out) ∧ Mod (rowS A) w w') := by
  refine fn_of_exec (c := c47) gx_ok Tryz.func47 rfl rfl rfl ?_
  have hlen : (bytesV out).length = out.length := bytesV_length out
  refine draw_plan gx_ok (Ext w) 10 [(true, 0), (true, 1), (true, 2), (true, 3), (true, 5), (true, 6), (true, 7), (true, 8), (true, 9), (false, 4)] (by kernel_rfl) (Ext.drew w) ?_
  refine qload (v := .slice A out.length c) (fun w' hw' => by rw [cell_at (hB.ext hw')]; exact hc2) ?_
  refine qload (v := .slice A out.length c) (fun w' hw' => by rw [cell_at (hB.ext hw')]; exact hc2) ?_
  have fin0 : out.length = 0 → Value.string ByteArray.empty = Value.string (strOf out) := fun h0 => by
    have : out = [] := List.eq_nil_of_length_eq_zero h0
    subst this; rfl
  by_cases h0 : out.length = 0
  · have key : ∃ p w1, (Builtin.unsafeSliceData_ #[74] 140 #[.slice A out.length c]).run Tryz.prog w.drew = .ok (.pointer p) w1 ∧ Ext w w1 := by
      rcases how.row.2 with ⟨hv, _⟩ | ⟨g', cap, cur, hv, hb', hg', _⟩
      · simp only [Value.slice.injEq] at hv
        obtain ⟨rfl, _, rfl⟩ := hv
        exact ⟨none, w.drew, Lib.run_unsafeSliceData_nil _ _ _ _ _, Ext.drew w⟩
      · simp only [Value.slice.injEq] at hv
        obtain ⟨rfl, _, rfl⟩ := hv
        by_cases hc0 : c = 0
        · subst hc0
          have hsh : w.drew.shape? g' = some (5, cur.size) := by
            unfold World.shape?; rw [show w.drew.heap[g']? = _ from hg']
          exact ⟨_, _, Lib.run_unsafeSliceData_zero (P := Tryz.prog) w.drew _ _ 5 Tryz.underlying140 ⟨g', 0, none⟩ _ _ hsh, (Ext.drew w).trans (Ext.alloc _ _)⟩
        · exact ⟨_, w.drew, Lib.run_unsafeSliceData_row (P := Tryz.prog) w.drew _ _ ⟨g', 0, none⟩ _ _ hc0, Ext.drew w⟩
    obtain ⟨p, w1, hrun, hE1⟩ := key
    refine at_run (w' := w1) (v := .pointer p) (fun a hf => ?_) ⟨hE1, ?_⟩
    · have e1 := hf.ev (show Env.ev _ (.tmp 6) = some (.slice A out.length c) from rfl)
      simp only [execOp, resolve, invoke, builtin]
      simp [gxP, e1, hrun]
    refine at_run (w' := w1) (v := .string ByteArray.empty) (fun a hf => ?_) ?_
    · have e1 := hf.ev (show Env.ev _ (.tmp 7) = some (.pointer p) from rfl)
      have e2 := hf.ev (show Env.ev _ (.tmp 12) = some (.int .i64 out.length) from rfl)
      have := Lib.run_unsafeString_none (P := Tryz.prog) w1 140 3 9 p
      rw [h0] at e2
      simp only [execOp, resolve, invoke, builtin]
      simp [gxP, e1, e2]
      rw [this]; rfl
    exact ⟨fin0 h0, Mod.of_ext _ hE1⟩
  · obtain ⟨g', sp, rfl, hb', hB', hl'⟩ := how.blk (by omega)
    have hle := how.sl.le
    refine at_run (w' := w.drew) (v := .pointer (some ⟨g', 0, none⟩)) (fun a hf => ?_) ⟨Ext.drew w, ?_⟩
    · have e1 := hf.ev (show Env.ev _ (.tmp 6) = some (.slice (some ⟨g', 0, none⟩) out.length c) from rfl)
      have := Lib.run_unsafeSliceData_row (P := Tryz.prog) w.drew #[74] 140 ⟨g', 0, none⟩ out.length c (by omega)
      simp only [execOp, resolve, invoke, builtin]
      simp [gxP, e1, this]
    refine at_run (w' := w.drew.freeze ⟨g', 0, none⟩ out.length) (v := .string (strOf out)) (fun a hf => ?_) ?_
    · have e1 := hf.ev (show Env.ev _ (.tmp 7) = some (.pointer (some ⟨g', 0, none⟩)) from rfl)
      have e2 := hf.ev (show Env.ev _ (.tmp 12) = some (.int .i64 out.length) from rfl)
      have hsh : w.drew.shape? g' = some (5, (bytesV out ++ sp).length) := (hB'.ext (Ext.drew w)).shape
      have hl2 : (out.map UInt8.ofNat).length = out.length := by simp
      have := Lib.run_unsafeString_row (P := Tryz.prog) w.drew 140 3 9 5 Tryz.underlying140 (by kernel_rfl) g' _ hsh (out.map UInt8.ofNat) (by intro e; apply h0; rw [← hl2, e]; rfl) (by simp [bytesV_length]) (by rw [hl2]; omega) (fun j x hj => by
        rw [(hB'.ext (Ext.drew w)).cell]
        simp only [List.getElem?_map, Option.map_eq_some_iff] at hj
        obtain ⟨y, hy, rfl⟩ := hj
        have hjl : j < out.length := (List.getElem?_eq_some_iff.1 hy).1
        rw [List.getElem?_append_left (by rw [hlen]; exact hjl), bytesV_get' hy]
        have := h8 y (List.mem_of_getElem? hy)
        simp [Nat.mod_eq_of_lt this])
      rw [hl2] at this
      simp only [execOp, resolve, invoke, builtin]
      simp [gxP, e1, e2]
      rw [this]; rfl
    exact ⟨rfl, (Mod.of_ext (rowS _) (Ext.drew w)).trans (freeze_mod w.drew g' out.length (S := rowS (some ⟨g', 0, none⟩)) ⟨_, rfl, rfl⟩) (fun i hi => .inl hi)⟩
end

section
open Go Go.RowKit

/-! ### delete -/
def assocDel {α : Type} [DecidableEq α] (a : α) : List (α × Value) → List (α × Value)
  | [] => []
  | (b, v) :: l => if a = b then l else (b, v) :: assocDel a l
theorem assocDel_sub {α : Type} [DecidableEq α] (a : α) : ∀ l : List (α × Value), (assocDel a l).Sublist l
  | [] => List.Sublist.refl _
  | (b, v) :: l => by
    unfold assocDel
    split
    · exact List.sublist_cons_self _ _
    · exact (assocDel_sub a l).cons_cons _
theorem assoc_nomem {α : Type} [DecidableEq α] {a : α} : ∀ {l : List (α × Value)}, a ∉ l.map (·.1) → assoc a l = none
  | [], _ => rfl
  | (b, v) :: l, h => by
    simp only [List.map_cons, List.mem_cons, not_or] at h
    unfold assoc
    rw [if_neg h.1]; exact assoc_nomem h.2
theorem assoc_del {α : Type} [DecidableEq α] (a b : α) : ∀ l : List (α × Value), (l.map (·.1)).Nodup → assoc b (assocDel a l) = if b = a then none else assoc b l
  | [], _ => by simp [assocDel, assoc]
  | (d, u) :: l, hn => by
    simp only [List.map_cons, List.nodup_cons] at hn
    unfold assocDel
    split
    · rename_i h
      subst h
      by_cases hb : b = a
      · subst hb; rw [if_pos rfl]; exact assoc_nomem hn.1
      · rw [if_neg hb]; show _ = if b = a then _ else assoc b l; rw [if_neg hb]
    · rename_i h
      have ih := assoc_del a b l hn.2
      simp only [assoc]
      by_cases hb : b = d
      · rw [if_pos hb, if_pos hb, if_neg (fun e => h (by rw [← e]; exact hb))]
      · rw [if_neg hb, if_neg hb, ih]
theorem assocSet_keys {α : Type} [DecidableEq α] (a : α) (v : Value) : ∀ l : List (α × Value), (l.map (·.1)).Nodup → ((assocSet a v l).map (·.1)).Nodup ∧ ∀ x, x ∈ (assocSet a v l).map (·.1) → x = a ∨ x ∈ l.map (·.1)
  | [], _ => by simp [assocSet]
  | (b, u) :: l, h => by
    simp only [List.map_cons, List.nodup_cons] at h
    unfold assocSet
    split
    · rename_i hab
      exact ⟨by simpa using h, fun x hx => .inr (by simpa using hx)⟩
    · rename_i hab
      obtain ⟨h1, h2⟩ := assocSet_keys a v l h.2
      refine ⟨?_, fun x hx => ?_⟩
      · rw [List.map_cons, List.nodup_cons]
        exact ⟨fun hm => by rcases h2 b hm with e | e; exact hab e.symm; exact h.1 e, h1⟩
      · rw [List.map_cons, List.mem_cons] at hx
        rcases hx with rfl | hx
        · exact .inr (by simp)
        · rcases h2 x hx with e | e
          · exact .inl e
          · exact .inr (by rw [List.map_cons, List.mem_cons]; exact .inr e)

theorem findNow_del {α : Type} [DecidableEq α] {d : TypeDesc} {kv : α → Value} (hk : KeyV d kv) (a : α) : ∀ (m : List (α × Value)) (bs : List Nat) (i : Nat), bs.length = m.length →
    ∃ r, Instr.findNow d (kv a) (entsOf kv m bs) i = some r ∧ (∀ j v, r = some (j, v) → i ≤ j ∧ j - i < m.length ∧ (entsOf kv m bs).eraseIdx (j - i) = entsOf kv (assocDel a m) (bs.eraseIdx (j - i)) ∧ (assocDel a m).length + 1 = m.length) ∧ (r = none → assocDel a m = m)
  | [], bs, i, h => ⟨none, rfl, (fun j v h => nomatch h), fun _ => rfl⟩
  | (b, u) :: m, [], i, h => by simp at h
  | (b, u) :: m, s :: bs, i, h => by
    have e : entsOf kv ((b, u) :: m) (s :: bs) = { key := kv b, val := u, born := s } :: entsOf kv m bs := rfl
    rw [e]
    unfold Instr.findNow
    simp only [hk.same]
    by_cases hab : a = b
    · subst hab
      simp only [decide_true]
      refine ⟨some (i, u), rfl, fun j v hj => ?_, fun h => by cases h⟩
      cases hj
      refine ⟨Nat.le_refl _, by simp, ?_, ?_⟩
      · rw [Nat.sub_self]; simp [assocDel]
      · simp [assocDel]
    · simp only [hab, decide_false]
      obtain ⟨r, h1, h3, h4⟩ := findNow_del hk a m bs (i + 1) (by simpa using h)
      refine ⟨r, h1, fun j v hj => ?_, fun hn => by simp [assocDel, hab, h4 hn]⟩
      obtain ⟨h5, h6, h7, h8⟩ := h3 j v hj
      refine ⟨by omega, by simp; omega, ?_, by simp [assocDel, hab]; omega⟩
      rw [show j - i = (j - (i + 1)) + 1 by omega]
      simp only [List.eraseIdx_cons_succ, h7, assocDel, hab, if_false]
      rfl

theorem at_delete {α : Type} [DecidableEq α] {kv : α → Value} {c : Cx} {o : Oper} {S : Env} {w : World} {K : Env → World → Prop} {Q : Post} {t t2 ke e : Nat} {r rk : TyRow} {x y : Operand} {q : Nat} {m : List (α × Value)} {a : α} (hg : c.g.Ok)
    (ho : o.op = .call ⟨.builtin .delete, #[x, y], #[t, t2]⟩) (hdst : o.dst = none) (hr : rowOf c.g.tys t = some r) (hd : r.d = .map ke e) (hrk : rowOf c.g.tys ke = some rk) (hk : KeyV rk.d kv)
    (hx : S.ev x = some (.map (some q))) (hy : S.ev y = some (kv a)) (hm : MapAt kv w q m)
    (k : ∀ w1, Mod (· = q) w w1 → w1.heap.size = w.heap.size → MapAt kv w1 q (assocDel a m) → K S w1) : AtOp c o S w K Q := by
  have hr' := (hg.row hr).1
  rw [hd] at hr'
  have hrk' := (hg.row hrk).1
  obtain ⟨bs, ck, hl, hb⟩ := hm.ex
  have hlt : q < w.heap.size := (Array.getElem?_eq_some_iff.1 hb).1
  obtain ⟨res, h1, h3, h4⟩ := findNow_del hk a m bs 0 hl
  have hgo : (getObj q).run c.g.P w = .ok (.map (entsOf kv m bs).toArray ck) w := by simp [getObj, Sem.run, hb]
  have hset : ∀ ob, (setObj q ob).run c.g.P w = .ok () { w with heap := w.heap.setIfInBounds q ob } := fun ob => by simp [setObj, Sem.run, hb]
  have main : ∃ bs', bs'.length = (assocDel a m).length ∧ (Builtin.delete_ #[t, t2] o.type #[.map (some q), kv a]).run c.g.P w = .ok (.tuple #[]) { w with heap := w.heap.setIfInBounds q (.map (entsOf kv (assocDel a m) bs').toArray ck) } := by
    cases res with
    | none =>
      refine ⟨bs, by rw [h4 rfl]; exact hl, ?_⟩
      rw [h4 rfl]
      simp only [Builtin.delete_]
      simp [run_underlying hr', hgo, run_checkKey_plain hrk' hk.plain, Instr.findKey, run_underlying hrk', h1, hset]
    | some p =>
      obtain ⟨j, u⟩ := p
      obtain ⟨_, h6, h7, h8⟩ := h3 j u rfl
      simp only [Nat.sub_zero] at h6 h7
      refine ⟨bs.eraseIdx j, by rw [List.length_eraseIdx_of_lt (by omega)]; omega, ?_⟩
      simp only [Builtin.delete_]
      simp [run_underlying hr', hgo, run_checkKey_plain hrk' hk.plain, Instr.findKey, run_underlying hrk', h1, hset]
      rw [h7]
  obtain ⟨bs', hl', hrun⟩ := main
  unfold AtOp
  intro b hf
  have e1 := hf.ev hx
  have e2 := hf.ev hy
  refine wp_value (v := .tuple #[]) (w' := { w with heap := w.heap.setIfInBounds q (.map (entsOf kv (assocDel a m) bs').toArray ck) }) ?_ ⟨S, by rw [hdst]; simpa [Act.put] using hf, k _ ⟨rfl, rfl, rfl, by simp, fun i _ hi => ?_⟩ (by simp) ⟨bs', ck, hl', by simp [hlt]⟩⟩
  · simp only [execOp, ho, resolve, invoke, builtin]
    simp [e1, e2, hrun]
  · simp only [Array.getElem?_setIfInBounds]
    rw [if_neg (fun e => hi e.symm)]

/-! ### Rows of different kinds -/
theorem Own.kind {w : World} {base e sz n c i : Nat} {A : Option Addr} {cs : List Value} (h : Own w base e sz A n c cs) (hi : rowS A i) : ∃ cur, w.heap[i]? = some (.cells cur e (0, 0)) := by
  obtain ⟨ad, rfl, rfl⟩ := hi
  rcases h.row.2 with ⟨hv, _⟩ | ⟨g, cap, cur, hv, _, hg, _⟩
  · cases hv
  · cases hv; exact ⟨cur, hg⟩
theorem Own.apart {w : World} {b b' e e' sz sz' n n' c c' i : Nat} {A B : Option Addr} {cs cs' : List Value} (h : Own w b e sz A n c cs) (h' : Own w b' e' sz' B n' c' cs') (hne : e ≠ e') (hi : rowS A i) : ¬ rowS B i := fun hj => by
  obtain ⟨c1, h1⟩ := h.kind hi
  obtain ⟨c2, h2⟩ := h'.kind hj
  rw [h1] at h2
  simp only [Option.some.injEq, Obj.cells.injEq] at h2
  exact hne h2.2.1
theorem Blk.apart {w : World} {b e sz n c g t : Nat} {A : Option Addr} {cs cs' : List Value} (h : Blk w g t cs) (h' : Own w b e sz A n c cs') (hne : t ≠ e) : ¬ rowS A g := fun hj => by
  obtain ⟨c2, h2⟩ := h'.kind hj
  rw [show w.heap[g]? = _ from h] at h2
  simp only [Option.some.injEq, Obj.cells.injEq] at h2
  exact hne h2.2.1
theorem MapAt.apart {α : Type} {kv : α → Value} {w : World} {b e sz n c q : Nat} {A : Option Addr} {cs' : List Value} {m : List (α × Value)} (h : MapAt kv w q m) (h' : Own w b e sz A n c cs') : ¬ rowS A q := fun hj => by
  obtain ⟨c2, h2⟩ := h'.kind hj
  obtain ⟨bs, ck, _, h1⟩ := h.ex
  rw [h1] at h2; cases h2

/-! ### Sets in memory -/
/-- A set that lies apart from what is written. -/
structure DgO (w : World) (S : Nat → Prop) (k : Nat) (x : DV) (o : BF) : Prop where
  sb : SB w x.A x.n x.c x.nd
  st : Set1 k x.nd x.r o
  off : ∀ ad, x.A = some ad → 0 < x.n → ¬ S ad.block
theorem SB.modo {S : Nat → Prop} {w w' : World} {A : Option Addr} {n c : Nat} {nd : List Br} (h : SB w A n c nd) (hm : Mod S w w') (hr : ∀ ad, A = some ad → 0 < n → ¬ S ad.block) : SB w' A n c nd :=
  ⟨h.1.modS hm (fun h0 i hi => by obtain ⟨ad, e, rfl⟩ := hi; exact hr ad e h0), h.2⟩
theorem DgO.step {w w' : World} {S S' : Nat → Prop} {k : Nat} {x : DV} {o : BF} (h : DgO w S k x o) (hm : Mod S w w') (hs : ∀ i, S' i → S i ∨ w.heap.size ≤ i) : DgO w' S' k x o :=
  ⟨h.sb.modo hm h.off, h.st, fun ad e h0 hS => by
    rcases hs _ hS with h1 | h1
    · exact h.off ad e h0 h1
    · have := SB.lt h.sb ad e h0; omega⟩
theorem DgO.keep {w w' : World} {S T : Nat → Prop} {k : Nat} {x : DV} {o : BF} (h : DgO w S k x o) (hm : Mod T w w') (ht : ∀ i, T i → S i ∨ w.heap.size ≤ i) : DgO w' S k x o :=
  ⟨h.sb.modo (hm.mono ht) h.off, h.st, h.off⟩
theorem DgO.ext {w w' : World} {S : Nat → Prop} {k : Nat} {x : DV} {o : BF} (h : DgO w S k x o) (hE : Ext w w') : DgO w' S k x o := ⟨h.sb.ext hE, h.st, h.off⟩
theorem DgO.mono {w : World} {S S' : Nat → Prop} {k : Nat} {x : DV} {o : BF} (h : DgO w S k x o) (hs : ∀ i, S' i → S i ∨ w.heap.size ≤ i) : DgO w S' k x o := h.step (Mod.refl _ _) hs
theorem DgO.new {w w' : World} {S : Nat → Prop} {k : Nat} {A : Option Addr} {n c : Nat} {nd : List Br} {r : Int} {o : BF} (hb : SB w' A n c nd) (hs : Set1 k nd r o) (hr : ∀ i, rowS A i → w.heap.size ≤ i) (hS : ∀ i, S i → i < w.heap.size) : DgO w' S k ⟨A, n, c, nd, r⟩ o :=
  ⟨hb, hs, fun ad e _ h => by have := hr ad.block ⟨ad, e, rfl⟩; have := hS _ h; omega⟩
theorem DgO.congr {w : World} {S : Nat → Prop} {k : Nat} {x : DV} {o o' : BF} (h : DgO w S k x o) (e : ∀ y, o y = o' y) : DgO w S k x o' := ⟨h.sb, h.st.congr e, h.off⟩
end

section
open Go Go.RowKit

def ixB (c : Nat) (l : List Nat) : Int := if c ∈ l then ((l.takeWhile (fun b => b != c)).length : Nat) else -1
theorem u8_eq {b c : Nat} (hb : b < 256) (hc : c < 256) : (UInt8.ofNat b == UInt8.ofNat c) = (b == c) := by
  rw [Bool.eq_iff_iff]
  simp only [beq_iff_eq]
  constructor
  · intro h
    have := congrArg UInt8.toNat h
    simpa [Nat.mod_eq_of_lt hb, Nat.mod_eq_of_lt hc] using this
  · intro h; rw [h]
theorem indexByte_eq {c : Nat} (hc : c < 256) : ∀ {l : List Nat}, (∀ x ∈ l, x < 256) → Lib.indexByte (l.map UInt8.ofNat) (UInt8.ofNat c) = ixB c l
  | [], _ => rfl
  | b :: l, h => by
    have ih := indexByte_eq hc (l := l) (fun x hx => h x (by simp [hx]))
    have hb : b < 256 := h b (by simp)
    rw [List.map_cons, Lib.indexByte, u8_eq hb hc, ih]
    unfold ixB
    by_cases hbc : b = c
    · subst hbc; simp
    · have h1 : (b == c) = false := by simpa using hbc
      rw [h1]
      by_cases hm : c ∈ l
      · have h3 : ¬ c = b := fun e => hbc e.symm
        simp [hm, hbc, h3]
      · have h3 : ¬ c = b := fun e => hbc e.symm
        simp [hm, h3]
theorem strOf_list (l : List Nat) : (strOf l).data.toList = l.map UInt8.ofNat := by simp [strOf]
theorem fn_of_calls' {P : Program} {f : FuncId} {l : List Value} {w : World} {v : Value} (h : Calls P f l.toArray w fun e w' => e = .returned v ∧ w' = w) : Fn P f l w (fun u w' => u = v ∧ w = w') := by
  unfold Fn
  exact h.mono fun e w' he => by obtain ⟨rfl, rfl⟩ := he; exact ⟨rfl, rfl⟩

theorem indexbyte_fn (l : List Nat) (c : Nat) (w : World) (hl : ∀ x ∈ l, x < 256) (hc : c < 256) :
    Fn Tryz.prog 72 [.string (strOf l), .int .u8 c] w (fun v w' => v = .int .i64 (ixB c l) ∧ w = w') := by
  have h := Tryz.strings_IndexByte (strOf l) (c : Int) w
  have e : ((c : Int).toNat.toUInt8) = UInt8.ofNat c := rfl
  rw [strOf_list, e, indexByte_eq hc hl] at h
  exact fn_of_calls' h

theorem count_fn (l : List Nat) (c : Nat) (w : World) (hl : ∀ x ∈ l, x < 256) (hc : c < 256) :
    Fn Tryz.prog 119 [.string (strOf l), .string (strOf [c])] w (fun v w' => v = .int .i64 (l.count c) ∧ w = w') := by
  have h := Tryz.strings_Count_one (strOf l) (UInt8.ofNat c) w
  have e : Lib.countByte (strOf l).data.toList (UInt8.ofNat c) = l.count c := by
    rw [strOf_list]
    unfold Lib.countByte
    clear h
    induction l with
    | nil => rfl
    | cons b l ih =>
      rw [List.map_cons, List.count_cons, List.count_cons, ih (fun x hx => hl x (by simp [hx])), u8_eq (hl b (by simp)) hc]
  rw [e] at h
  exact fn_of_calls' h

def cutH (l : List Nat) : List Nat := l.takeWhile (fun b => b != 32)
def cutR (l : List Nat) : List Nat := l.drop ((cutH l).length + 1)
theorem cutH_take (l : List Nat) : l.take (cutH l).length = cutH l := (List.prefix_iff_eq_take.1 (List.takeWhile_prefix _)).symm
theorem cutH_lt {l : List Nat} : (cutH l).length < l.length ↔ 32 ∈ l := by
  unfold cutH
  induction l with
  | nil => simp
  | cons b l ih =>
    by_cases hb : b = 32
    · subst hb; simp
    · have : (b != 32) = true := by simpa using hb
      rw [List.takeWhile_cons, if_pos this]
      simp only [List.length_cons, Nat.add_lt_add_iff_right, ih, List.mem_cons]
      constructor
      · exact fun h => .inr h
      · rintro (h | h)
        · exact absurd h.symm hb
        · exact h
theorem cutH_split {l : List Nat} (h : 32 ∈ l) : l = cutH l ++ 32 :: cutR l := by
  unfold cutR cutH
  induction l with
  | nil => simp at h
  | cons b l ih =>
    by_cases hb : b = 32
    · subst hb; simp
    · have h1 : (b != 32) = true := by simpa using hb
      rw [List.takeWhile_cons, if_pos h1]
      simp only [List.length_cons, List.drop_succ_cons, List.cons_append]
      congr 1
      refine ih ?_
      simp only [List.mem_cons] at h
      rcases h with h | h
      · exact absurd h.symm hb
      · exact h
theorem cutH_no {l : List Nat} (h : 32 ∉ l) : cutH l = l := by
  unfold cutH
  induction l with
  | nil => rfl
  | cons b l ih =>
    simp only [List.mem_cons, not_or] at h
    have h1 : (b != 32) = true := by simpa using fun e => h.1 e.symm
    rw [List.takeWhile_cons, if_pos h1, ih h.2]
theorem cut_len {l : List Nat} (h : 32 ∈ l) : ((l.takeWhile (fun b => b != 32)).length : Nat) < l.length := cutH_lt.2 h

theorem cut1_fn (l : List Nat) (w : World) (hl : ∀ x ∈ l, x < 256) (hlen : l.length ≤ 1000000000000) :
    Fn Tryz.prog 114 [.string (strOf l), .string (strOf [32])] w (fun v w' => (v = if 32 ∈ l then .tuple #[.string (strOf (cutH l)), .string (strOf (cutR l)), .bool true] else .tuple #[.string (strOf l), .string (strOf []), .bool false]) ∧ Ext w w') := by
  refine fn_of_exec (c := c114) gx_ok Tryz.func114 rfl rfl rfl ?_
  have h := Tryz.stringslite_Index_one (strOf l) (UInt8.ofNat 32) w
  rw [strOf_list, indexByte_eq (by decide) hl] at h
  refine call (fn_of_calls' h) ?_
  rintro _ _ ⟨rfl, rfl⟩
  unfold ixB
  by_cases hm : 32 ∈ l
  · rw [if_pos hm, if_pos hm]
    have hlt := cut_len hm
    refine wif_dt (by show (0 : Int) ≤ _; omega) ?_
    refine draw gx_ok (by kernel_rfl) ?_
    refine need_to (v' := .string (strOf (cutH l))) ⟨Int.le_refl _, by omega, by rw [strOf_size]; omega⟩ ?_ ?_
    · rw [strOf_extract]
      exact congrArg (fun x => Value.string (strOf x)) (cutH_take l)
    refine norm_i64_to (((cutH l).length + 1 : Nat) : Int) (by rw [strOf_size]; show ((_ : Nat) : Int) + 1 = _; unfold cutH; omega) (by unfold cutH; omega) ?_
    refine need_to (v' := .string (strOf (cutR l))) ⟨by omega, by rw [strOf_size]; unfold cutH; omega, by rw [strOf_size]; omega⟩ ?_ ?_
    · rw [strOf_extract]
      unfold cutR
      rw [strOf_size]
      show Value.string (strOf ((l.take l.length).drop _)) = _
      rw [List.take_of_length_le (Nat.le_refl _)]
      rfl
    exact fun w' hE => ⟨rfl, hE⟩
  · rw [if_neg hm, if_neg hm]
    refine wif_df (by decide) ?_
    exact ⟨rfl, Ext.refl _⟩

theorem scut_fn (l : List Nat) (w : World) (hl : ∀ x ∈ l, x < 256) (hlen : l.length ≤ 1000000000000) :
    Fn Tryz.prog 73 [.string (strOf l), .string (strOf [32])] w (fun v w' => (v = if 32 ∈ l then .tuple #[.string (strOf (cutH l)), .string (strOf (cutR l)), .bool true] else .tuple #[.string (strOf l), .string (strOf []), .bool false]) ∧ Ext w w') := by
  refine fn_of_exec (c := c73) gx_ok Tryz.func73 rfl rfl rfl ?_
  refine call (cut1_fn l w hl hlen) ?_
  rintro v w1 ⟨rfl, hE1⟩
  by_cases hm : 32 ∈ l
  · rw [if_pos hm]; exact ⟨rfl, hE1⟩
  · rw [if_neg hm]; exact ⟨rfl, hE1⟩

/-! ### Directives -/
theorem kw_pre {kw s : List Nat} (hk : 32 ∉ kw) : (kw ++ [32]).isPrefixOf s = true ↔ cutH s = kw ∧ 32 ∈ s := by
  rw [List.isPrefixOf_iff_prefix]
  constructor
  · rintro ⟨r, rfl⟩
    refine ⟨?_, by simp⟩
    unfold cutH
    rw [List.append_assoc, List.takeWhile_append_of_pos (fun x hx => by simpa using fun e => hk (by rw [← e]; exact hx))]
    simp
  · rintro ⟨h1, h2⟩
    have := cutH_split h2
    rw [h1] at this
    exact ⟨cutR s, by rw [List.append_assoc]; exact this.symm⟩
theorem kw_rest {kw s : List Nat} (h : cutH s = kw) : s.drop (kw.length + 1) = cutR s := by unfold cutR; rw [h]
def kIf : List Nat := [35, 105, 102]
def kElif : List Nat := [35, 101, 108, 105, 102]
def kInc : List Nat := [35, 105, 110, 99, 108, 117, 100, 101]
theorem dir_if {s : List Nat} (h : cutH s = kIf) (hm : 32 ∈ s) : dirOf s = .ifd (cutR s) := by
  unfold dirOf
  rw [if_pos (show pIf.isPrefixOf s = true from (kw_pre (kw := kIf) (by decide)).2 ⟨h, hm⟩), ← kw_rest h]; rfl
theorem dir_inc {s : List Nat} (h : cutH s = kInc) (hm : 32 ∈ s) : dirOf s = .inc (cutR s) := by
  unfold dirOf
  rw [if_neg (fun hp => by have := ((kw_pre (kw := kIf) (by decide)).1 hp).1; rw [h] at this; cases this), if_pos (show pInc.isPrefixOf s = true from (kw_pre (kw := kInc) (by decide)).2 ⟨h, hm⟩), ← kw_rest h]; rfl
theorem dir_elif {s : List Nat} (h : cutH s = kElif) (hm : 32 ∈ s) : dirOf s = .elif (cutR s) := by
  unfold dirOf
  rw [if_neg (fun hp => by have := ((kw_pre (kw := kIf) (by decide)).1 hp).1; rw [h] at this; cases this), if_neg (fun hp => by have := ((kw_pre (kw := kInc) (by decide)).1 hp).1; rw [h] at this; cases this),
    if_pos (show pElif.isPrefixOf s = true from (kw_pre (kw := kElif) (by decide)).2 ⟨h, hm⟩), ← kw_rest h]; rfl
theorem dir_no {s : List Nat} (h1 : ¬ (cutH s = kIf ∧ 32 ∈ s)) (h2 : ¬ (cutH s = kInc ∧ 32 ∈ s)) (h3 : ¬ (cutH s = kElif ∧ 32 ∈ s)) : dirOf s = if s = lElse then .els else if s = lEnd then .en else .txt := by
  unfold dirOf
  rw [if_neg (fun (hp : pIf.isPrefixOf s = true) => h1 ((kw_pre (kw := kIf) (by decide)).1 hp)), if_neg (fun (hp : pInc.isPrefixOf s = true) => h2 ((kw_pre (kw := kInc) (by decide)).1 hp)), if_neg (fun (hp : pElif.isPrefixOf s = true) => h3 ((kw_pre (kw := kElif) (by decide)).1 hp))]
theorem dir_else : dirOf lElse = .els := rfl
theorem dir_end : dirOf lEnd = .en := rfl
end

section
open Go Go.RowKit

section
variable {P : Program} {ops : Array Oper} {md : Region.Mode} {C : World → Prop} {Q : Exit → Act → World → Prop}

/-- A panic is asked only what it leaves of the world. -/
def PanW (N : Slots) (pan : List PanicEntry → World → Prop) (Q : Exit → Act → World → Prop) : Exit → Act → World → Prop
  | .panic ch, a, w => a.tmps.size = N.n ∧ a.defers = N.ds ∧ pan ch w
  | e, a, w => Q e a w
theorem PanW.put {N : Slots} {pan : List PanicEntry → World → Prop} {Q : Exit → Act → World → Prop} {ch : List PanicEntry} {a : Act} {d : Option Tmp} {v : Value} {w : World} (h : PanW N pan Q (.panic ch) (a.put d v) w) : PanW N pan Q (.panic ch) a w := by
  obtain ⟨h1, h2, h3⟩ := h
  cases d with
  | none => exact ⟨h1, h2, h3⟩
  | some d => exact ⟨by simpa [Act.put] using h1, by simpa [Act.put] using h2, h3⟩
theorem PanW.imp {c : Cx} {pan : List PanicEntry → World → Prop} {Q : Post} (hp : ∀ ch S w, pan ch w → Q (.panic ch) S w) : ∀ (e : Exit) (a : Act) (w : World), PanW c.N pan (Up c Q) e a w → Up c Q e a w := fun e a w h => by
  cases e <;> first | exact h | (obtain ⟨h1, h2, h3⟩ := h; exact ⟨[], ⟨h1, h2, fun k x hk => by simp [Env.ent] at hk⟩, hp _ _ _ h3⟩)

theorem wpGP_first {N : Slots} {pan : List PanicEntry → World → Prop} {n i : Nat} {oi : Oper} {v : Value} {L : Array Bool → Act → World → Prop} (hi : ops[i]? = some oi) (hsel : ∀ (j : Nat) (o : Oper) cs b, ops[j]? = some o → o.op ≠ .select cs b)
    (hs : Sink md ops n) (hin : i < n) (hdone : ∀ listed a w, L listed a w → ∀ j ∈ Region.ready md ops listed, n ≤ j) :
    ∀ (f : Nat) (listed : Array Bool) (a : Act) (w : World), HeadInv md ops n listed →
      (∀ j oj, ops[j]? = some oj → j ≠ i → listed.getD j true = false → (∀ e ∈ oj.after, Region.binds md e = true → e.on ≠ i) → oi.apart ops oj = true) →
      i ∈ Region.ready md ops listed → YieldsIf P ops C oi v a → C w →
      wpG P md ops (PanW N pan Q) C n L f (listed.setIfInBounds i true) (a.put oi.dst v) w → wpG P md ops (PanW N pan Q) C n L (f + 1) listed a w := by
  intro f
  induction f with
  | zero =>
    intro listed a w inv _ hr hy hC H
    have hun := (mem_ready.1 hr).1
    refine ⟨fun h => (by rw [h] at hr; cases hr), fun j hj => ?_⟩
    have hjn := sink_lt hs inv hin hun j hj
    refine ⟨hjn, ?_⟩
    by_cases hji : j = i
    · subst hji; exact hy.wpOp hi hC ⟨hC, H⟩
    · have := hdone _ _ _ H j (ready_mono hj hji)
      omega
  | succ f ih =>
    intro listed a w inv hfree hr hy hC H
    have hun := (mem_ready.1 hr).1
    refine ⟨fun h => (by rw [h] at hr; cases hr), fun j hj => ?_⟩
    have hjn := sink_lt hs inv hin hun j hj
    refine ⟨hjn, ?_⟩
    by_cases hji : j = i
    · subst hji; exact hy.wpOp hi hC ⟨hC, H⟩
    · have h1 := (H.2 j (ready_mono hj hji)).2
      obtain ⟨hjun, oj, hoj, hall⟩ := mem_ready.1 hj
      have hnot : ∀ e ∈ oj.after, Region.binds md e = true → e.on ≠ i := fun e he hb heq => by
        have h1 := hall e he hb
        rw [heq, getD_both hun] at h1
        cases h1
      have h2 := wpOp_putIf hoj (hfree j oj hoj hji hjun hnot) (fun cs b => hsel i oi cs b hi) (fun cs b => hsel j oj cs b hoj) (fun _ _ _ h => PanW.put h) hy h1
      have hfree' : ∀ k ok, ops[k]? = some ok → k ≠ i → (listed.setIfInBounds j true).getD k true = false →
          (∀ e ∈ ok.after, Region.binds md e = true → e.on ≠ i) → oi.apart ops ok = true := fun k ok hk hki hun hno => by
        refine hfree k ok hk hki ?_ hno
        by_cases hjk : j = k
        · subst hjk; exact hjun
        · rw [getD_set_ne true hjk] at hun; exact hun
      refine wpOp_mono (fun a' w' h3 => ⟨h3.2.1, ih (listed.setIfInBounds j true) a' w' (inv.set hj hjn) hfree' (ready_mono hr (Ne.symm hji)) h3.1 h3.2.1 ?_⟩) h2
      rw [Array.setIfInBounds_comm _ _ hji]
      exact h3.2.2

end
section
variable {c : Cx} {S : Env} {a : Act}

def planLP (c : Cx) (pan : List PanicEntry → World → Prop) (all : List Oper) (C : World → Prop) : List (Bool × Nat) → Env → World → (Env → World → Prop) → Prop
  | [], S, w, K => K S w
  | (true, k) :: l, S, w, K => match nthO all k with
    | some o => guardK all o S (fun S => execT c o S C (fun S => planLP c pan all C l S w K)) (fun S => putK c S o.dst (.v undef) (fun S => planLP c pan all C l S w K))
    | none => False
  | (false, k) :: l, S, w, K => match nthO all k with
    | some o => guardK all o S (fun S => execO c o S w (fun S w => C w ∧ planLP c pan all C l S w K) (fun e _ w => match e with
      | .panic ch => pan ch w
      | _ => False)) (fun S => putK c S o.dst (.v undef) (fun S => planLP c pan all C l S w K))
    | none => False

theorem planLP_sound (hg : c.g.Ok) {md : Region.Mode} {ops : List Oper} {C : World → Prop} {Q : Exit → Act → World → Prop} {n : Nat} (hs : Region.noSelect ops.toArray = true) (hk : Sink md ops.toArray n) {K : Env → World → Prop} {pan : List PanicEntry → World → Prop} :
    ∀ (l : List (Bool × Nat)) (listed : Array Bool) (S : Env) (a : Act) (w : World), HeadInv md ops.toArray n listed → planB md ops.toArray n l listed = true → planLP c pan ops C l S w K → Fits c.N S a → C w →
    wpG c.g.P md ops.toArray (PanW c.N pan Q) C n (fun listed' a' w' => Region.seqB md ops.toArray (ops.toArray.size - n) n listed' = true ∧ ∃ S', Fits c.N S' a' ∧ K S' w') l.length listed a w
  | [], listed, S, a, w, inv, hB, h, hf, hC => ⟨hB, S, hf, h⟩
  | (true, k) :: l, listed, S, a, w, inv, hB, h, hf, hC => by
    simp only [planB, Bool.and_eq_true] at hB
    obtain ⟨⟨⟨hkn, hr⟩, hfr⟩, hB'⟩ := hB
    have hkn : k < n := by rw [Nat.blt_eq] at hkn; exact hkn
    have hr' : k ∈ Region.ready md ops.toArray listed := by simpa using hr
    obtain ⟨_, o, ho, _⟩ := mem_ready.1 hr'
    have hn : nthO ops k = some o := by rw [nthO_eq]; simpa using ho
    simp only [planLP, hn] at h
    have key : ∃ v, YieldsIf c.g.P ops.toArray C o v a ∧ ∃ S', Fits c.N S' (a.put o.dst v) ∧ planLP c pan ops C l S' w K := by
      rcases guardK_spec h hf with ⟨hw, S1, hf1, h1⟩ | ⟨hw, S1, hf1, h1⟩
      · obtain ⟨v, h2, h3⟩ := execT_sound hg h1 hf1
        exact ⟨v, .inl ⟨hw, h2⟩, h3⟩
      · exact ⟨undef, .inr ⟨hw, rfl⟩, putK_sound (e := .v undef) h1 hf1⟩
    obtain ⟨v, hy, S', hf', h'⟩ := key
    exact wpGP_first ho (Region.noSelect_spec hs) hk hkn (fun listed' a' w' hL => seqB_ready hL.1) l.length listed a w inv (Region.free_spec ho hfr) hr' hy hC
      (planLP_sound hg hs hk l _ S' _ w (inv.set hr' hkn) hB' h' hf' hC)
  | (false, k) :: l, listed, S, a, w, inv, hB, h, hf, hC => by
    simp only [planB, Bool.and_eq_true, decide_eq_true_eq] at hB
    obtain ⟨⟨hkn, hr⟩, hB'⟩ := hB
    have hkn : k < n := by rw [Nat.blt_eq] at hkn; exact hkn
    have hr' : k ∈ Region.ready md ops.toArray listed := by rw [hr]; simp
    obtain ⟨_, o, ho, _⟩ := mem_ready.1 hr'
    have hn : nthO ops k = some o := by rw [nthO_eq]; simpa using ho
    simp only [planLP, hn] at h
    have inv' := inv.set hr' hkn
    refine ⟨fun h0 => (by rw [hr] at h0; cases h0), fun i hi => ?_⟩
    rw [hr] at hi
    have hik : i = k := by simpa using hi
    subst hik
    refine ⟨hkn, ?_⟩
    unfold wpOp
    simp only [ho]
    rcases guardK_spec h hf with ⟨hw, S1, hf1, h1⟩ | ⟨hw, S1, hf1, h1⟩
    · rw [if_pos hw]
      refine .inl ?_
      have h2 := execO_sound hg h1 hf1
      have h3 := Oper.wp_mono (K' := fun a' w' => C w' ∧ wpG c.g.P md ops.toArray (PanW c.N pan Q) C n (fun listed' a' w' => Region.seqB md ops.toArray (ops.toArray.size - n) n listed' = true ∧ ∃ S', Fits c.N S' a' ∧ K S' w') l.length (listed.setIfInBounds i true) a' w')
        (fun a' w' ⟨S', hf', hc', hk'⟩ => ⟨hc', planLP_sound hg hs hk l _ S' a' w' inv' hB' hk' hf' hc'⟩) h2
      unfold Oper.wp at h3 ⊢
      generalize (execOp a.eval o).run c.g.P w = r at *
      cases r with
      | ok nx w' =>
        cases nx <;> simp only [Oper.upon] at h3 ⊢ <;> try exact h3
        exact h3.mono fun e w'' he => by
          cases e with
          | returned v => exact he
          | panicked ch => obtain ⟨_, hfz, he⟩ := he; exact ⟨hfz.size, hfz.defers, he⟩
          | outgrown => obtain ⟨_, _, _, _, he⟩ := he; exact he.elim
      | halt x w' => cases x <;> simp only [Oper.upon] at h3 ⊢ <;> first | exact h3 | (obtain ⟨_, hfz, h3⟩ := h3; exact ⟨hfz.size, hfz.defers, h3⟩) | (obtain ⟨_, _, h3⟩ := h3; exact h3.elim)
    · rw [if_neg (by rw [hw]; decide)]
      obtain ⟨S', hf', h'⟩ := putK_sound (e := .v undef) h1 hf1
      exact ⟨hC, planLP_sound hg hs hk l _ S' _ w inv' hB' h' hf' hC⟩

/-- A region that draws, by a plan for its first n operations; the rest in the text's order. -/
theorem draw_planP (hg : c.g.Ok) {id : Nat} {ops : List Oper} {w : World} {Q : Post} (pan : List PanicEntry → World → Prop) (hpan : ∀ ch S w, pan ch w → Q (.panic ch) S w) (C : World → Prop) (n : Nat) (plan : List (Bool × Nat))
    (hB : (Region.noSelect ops.toArray && Nat.beq plan.length n && sinkOk .any ops.toArray n && planB .any ops.toArray n plan (Array.replicate ops.toArray.size false)) = true) (hC : C w.drew)
    (h : planLP { c with named := 1000000 } pan ops C plan S w.drew (fun S w => execL c ops (ops.drop n) S w (fun S w => Q .normal S w) (fun e _ w => match e with
      | .panic ch => pan ch w
      | _ => False))) : AtDraw c id ops S w Q := by
  unfold AtDraw
  intro a hf
  simp only [Bool.and_eq_true] at hB
  obtain ⟨⟨⟨hs, hl⟩, hsk⟩, hpl⟩ := hB
  have hl := Nat.eq_of_beq_eq_true hl
  have hk := sinkOk_spec hsk
  have hnle : n ≤ ops.length := by
    rcases hk with hk | hk
    · rw [hk]; simp
    · have := hk.1; simp at this; omega
  refine Code.wp_mono (PanW.imp hpan) (wp_region_any hg.mixed ?_)
  have inv0 : HeadInv .any ops.toArray n (Array.replicate ops.toArray.size false) :=
    ⟨by simp, fun j oj _ hl => (by rw [getD_replicate_false] at hl; cases hl), fun t _ ht => getD_in (by simpa using ht) (getD_replicate_false _ _)⟩
  have H := planLP_sound (c := { c with named := 1000000 }) hg (Q := Up c Q) hs hk plan _ S a _ inv0 hpl h hf hC
  have hdl : (ops.drop n).length = ops.toArray.size - n := by simp
  have H2 := wpAny_of_G (Q := PanW c.N pan (Up c Q)) (g := ops.toArray.size - n) (fun listed' a' w' hL => by
    obtain ⟨hq, S', hf', hk'⟩ := hL
    have h2 := execL_sound (c := c) hg ops _ _ _ _ hk' hf'
    have := wpAny_of_seq (P := c.g.P) (md := .any) (ops := ops.toArray) (Q' := PanW c.N pan (Up c Q)) (ops.drop n) n listed' a' w' (fun j => by simp) (by rw [hdl]; exact hq) (wpList_mono' (fun e a w hq => by
      cases e with
      | normal => exact hq
      | panic ch => obtain ⟨_, hfz, h⟩ := hq; exact ⟨hfz.size, hfz.defers, h⟩
      | _ => exact absurd hq (by rintro ⟨_, _, h⟩; exact h)) h2)
    rwa [hdl] at this) _ _ _ _ H
  rw [hl, show n + (ops.toArray.size - n) = ops.toArray.size by simp; omega] at H2
  exact H2
end
end
end
end Go.Proofs.YtedopgkbajhanaaGreatDoor
