/-
  source, in plain words: directives, lines, sections; what a reading of files yields.
  Conditions: none.
-/
import Derived.Test.YtedopgkbajhanaaGreatDoorLm
import Derived.Test.YtedopgkbajhanaaGreatDoorKk
namespace Go.Proofs.YtedopgkbajhanaaGreatDoor
open Go Go.RowKit

/-! ### Expressions -/
/-- What an expression is: a formula, or an error number. -/
def parseT (nm : List (List Nat)) (s : List Nat) : Except Int Fm := if numsOk nm then
    if (lexA s).2 then match wholeT (ixN nm) (s.length + 1) (lexA s).1 with
      | none => .error 31
      | some (t, u, ts) => if ts ≠ [] then .error 31 else if u then .error 3 else if 512 < szF t then .error 2 else .ok t
    else .error 31
  else .error 1
theorem parse_T (nm : List (List Nat)) (s : List Nat) : parseP nm s = match parseT nm s with
    | .ok t => (postF t 0, 0)
    | .error e => ([], e) := by
  rw [parse_tok]
  unfold parseK parseT
  cases numsOk nm with
  | false => rfl
  | true =>
    cases (lexA s).2 with
    | false => rfl
    | true =>
      simp only [if_true]
      cases wholeT (ixN nm) (s.length + 1) (lexA s).1 with
      | none => rfl
      | some q =>
        obtain ⟨t, u, ts⟩ := q
        simp only
        by_cases h1 : ts ≠ []
        · rw [if_pos h1, if_pos h1]
        · rw [if_neg h1, if_neg h1]
          by_cases h2 : u = true
          · rw [if_pos h2, if_pos h2]
          · rw [if_neg h2, if_neg h2]
            by_cases h3 : 512 < szF t
            · rw [if_pos h3, if_pos h3]
            · rw [if_neg h3, if_neg h3]

/-- A formula's conditions lie below a bound, if none is unknown. -/
def KnownT (N : Nat) (opd : List (List Nat) → Option (Fm × Bool × List (List Nat))) : Prop := ∀ ts t ts', opd ts = some (t, false, ts') → VarsIn N t
theorem loopT_known {N : Nat} {op : List Nat} {mk : Fm → Fm → Fm} {opd : List (List Nat) → Option (Fm × Bool × List (List Nat))} (hm : ∀ a b, VarsIn N a → VarsIn N b → VarsIn N (mk a b)) (h : KnownT N opd) :
    ∀ (m : Nat) (a : Fm) (u : Bool) (ts : List (List Nat)) (t : Fm) (ts' : List (List Nat)), (u = false → VarsIn N a) → loopT op mk opd m a u ts = some (t, false, ts') → VarsIn N t
  | 0, a, u, ts, t, ts', _, hh => by cases hh
  | m + 1, a, u, ts, t, ts', ha, hh => by
    unfold loopT at hh
    split at hh
    · cases ho : opd ts.tail with
      | none => rw [ho] at hh; cases hh
      | some q =>
        obtain ⟨b, v, ts2⟩ := q
        rw [ho] at hh
        refine loopT_known hm h m _ _ _ t ts' (fun huv => ?_) hh
        cases u <;> cases v <;> simp at huv
        exact hm _ _ (ha rfl) (h _ _ _ ho)
    · cases hh; exact ha rfl
theorem chainT_known {N : Nat} {op : List Nat} {mk : Fm → Fm → Fm} {opd : List (List Nat) → Option (Fm × Bool × List (List Nat))} (hm : ∀ a b, VarsIn N a → VarsIn N b → VarsIn N (mk a b)) (h : KnownT N opd) : KnownT N (chainT op mk opd) := fun ts t ts' hh => by
  unfold chainT at hh
  cases ho : opd ts with
  | none => rw [ho] at hh; cases hh
  | some q =>
    obtain ⟨a, u, ts2⟩ := q
    rw [ho] at hh
    exact loopT_known hm h _ _ _ _ t ts' (fun hu => by subst hu; exact h _ _ _ ho) hh
theorem facT_known {N : Nat} {ix : List Nat → Option Nat} (hx : ∀ l n, ix l = some n → n < N) : ∀ n, KnownT N (facT ix n)
  | 0 => fun ts t ts' h => by cases h
  | n + 1 => fun ts t ts' h => by
    have ih := facT_known hx n
    cases ts with
    | nil => cases h
    | cons w ts =>
      unfold facT at h
      split at h
      · cases ho : facT ix n ts with
        | none => rw [ho] at h; cases h
        | some q =>
          obtain ⟨a, u, ts2⟩ := q
          rw [ho] at h
          cases h
          exact show VarsIn N a from ih _ _ _ ho
      split at h
      · cases ho : chainT [124, 124] Fm.or (chainT [38, 38] Fm.and (facT ix n)) ts with
        | none => rw [ho] at h; cases h
        | some q =>
          obtain ⟨a, u, ts2⟩ := q
          rw [ho] at h
          simp only at h
          split at h
          · cases h
            exact chainT_known (mk := Fm.or) (fun _ _ h h' => ⟨h, h'⟩) (chainT_known (mk := Fm.and) (fun _ _ h h' => ⟨h, h'⟩) ih) _ _ _ ho
          · cases h
      split at h
      · simp only [Option.some.injEq, Prod.mk.injEq] at h
        obtain ⟨rfl, h2, _⟩ := h
        unfold wordT at h2 ⊢
        split
        · trivial
        · split
          · trivial
          · rename_i h3 h4
            rw [if_neg h3, if_neg h4] at h2
            simp only at h2
            cases hi : ix w with
            | none => rw [hi] at h2; cases h2
            | some k => exact hx _ _ hi
      · cases h
theorem ixR_lt (l : List Nat) (N : Nat) : ∀ (names : List (List Nat)) (i : Nat) (acc : Option Nat), (∀ n, acc = some n → n < N) → i + names.length ≤ N → ∀ n, ixR l names i acc = some n → n < N
  | [], i, acc, ha, _, n, h => ha n h
  | s :: names, i, acc, ha, hl, n, h => by
    unfold ixR at h
    refine ixR_lt l N names (i + 1) _ (fun m hm => ?_) (by simp at hl; omega) n h
    split at hm
    · cases hm; simp at hl; omega
    · exact ha m hm
theorem ixN_lt {names : List (List Nat)} {l : List Nat} {n : Nat} (h : ixN names l = some n) : n < names.length := ixR_lt l _ names 0 none (fun _ h => by cases h) (by omega) n h
theorem parseT_ok {nm : List (List Nat)} {s : List Nat} {t : Fm} (h : parseT nm s = .ok t) : numsOk nm = true ∧ VarsIn nm.length t ∧ szF t ≤ 512 := by
  unfold parseT at h
  split at h
  · rename_i hn
    split at h
    · split at h
      · cases h
      · rename_i t' u ts hw
        split at h
        · cases h
        split at h
        · cases h
        split at h
        · cases h
        · rename_i hu hs
          cases h
          have hu : u = false := by simpa using hu
          subst hu
          exact ⟨hn, chainT_known (mk := Fm.or) (fun _ _ h h' => ⟨h, h'⟩) (chainT_known (mk := Fm.and) (fun _ _ h h' => ⟨h, h'⟩) (facT_known (fun l n h => ixN_lt h) _)) _ _ _ hw, by omega⟩
    · cases h
  · cases h
theorem parseT_err {nm : List (List Nat)} {s : List Nat} {e : Int} (h : parseT nm s = .error e) : e = 1 ∨ e = 2 ∨ e = 3 ∨ e = 31 := by
  unfold parseT at h
  repeat' split at h
  all_goals first | cases h | skip
  all_goals simp

/-- A set of configurations, by its members. -/
abbrev BF := (Nat → Bool) → Bool
/-- The set of an expression, or an error number. -/
def setE (nm : List (List Nat)) (s : List Nat) : Except Int BF := match parseT nm s with
  | .ok t => .ok (evF t)
  | .error e => .error (if e = 2 then 2 else 71)

/-! ### Lines -/
inductive Dir where
  | txt
  | ifd (s : List Nat)
  | elif (s : List Nat)
  | els
  | en
  | inc (s : List Nat)
def pIf : List Nat := [35, 105, 102, 32]
def pElif : List Nat := [35, 101, 108, 105, 102, 32]
def pInc : List Nat := [35, 105, 110, 99, 108, 117, 100, 101, 32]
def lElse : List Nat := [35, 101, 108, 115, 101]
def lEnd : List Nat := [35, 101, 110, 100]
/-- What a line is. -/
def dirOf (s : List Nat) : Dir := if pIf.isPrefixOf s then .ifd (s.drop 4) else if pInc.isPrefixOf s then .inc (s.drop 9) else if pElif.isPrefixOf s then .elif (s.drop 6) else if s = lElse then .els else if s = lEnd then .en else .txt

/-- The lines of a text; each lacks its line feed. -/
def linesOf : List Nat → List (List Nat)
  | [] => []
  | b :: l => if b = 10 then [] :: linesOf l else match linesOf l with
    | [] => [[b]]
    | s :: ls => (b :: s) :: ls
/-- The text of some lines. -/
def unl (ls : List (List Nat)) : List Nat := ls.flatMap (fun s => s ++ [10])
theorem unl_cons (s : List Nat) (ls : List (List Nat)) : unl (s :: ls) = s ++ 10 :: unl ls := by simp [unl]
theorem unl_le (ls : List (List Nat)) : ls.length ≤ (unl ls).length := by
  induction ls with
  | nil => exact Nat.le_refl _
  | cons s ls ih => rw [unl_cons]; simp only [List.length_cons, List.length_append]; omega
/-- No line has a line feed. -/
def Lines (ls : List (List Nat)) : Prop := ∀ s ∈ ls, 10 ∉ s
theorem linesOf_line (s l : List Nat) (h : 10 ∉ s) : linesOf (s ++ 10 :: l) = s :: linesOf l := by
  induction s with
  | nil => simp [linesOf]
  | cons b s ih =>
    simp only [List.mem_cons, not_or] at h
    rw [List.cons_append, linesOf, if_neg (fun e => h.1 e.symm), ih h.2]
theorem linesOf_unl {ls : List (List Nat)} (h : Lines ls) : linesOf (unl ls) = ls := by
  induction ls with
  | nil => rfl
  | cons s ls ih => rw [unl_cons, linesOf_line _ _ (h s (by simp)), ih (fun t ht => h t (by simp [ht]))]
/-- A text that is empty or ends with a line feed. -/
def TextOk (l : List Nat) : Prop := l = [] ∨ l.getLast? = some 10
theorem linesOf_lines : ∀ (l : List Nat), Lines (linesOf l)
  | [] => fun s hs => by simp [linesOf] at hs
  | b :: l => by
    have ih := linesOf_lines l
    intro s hs
    unfold linesOf at hs
    split at hs
    · simp only [List.mem_cons] at hs
      rcases hs with rfl | hs
      · simp
      · exact ih s hs
    · rename_i hb
      cases hl : linesOf l with
      | nil =>
        rw [hl] at hs
        simp only [List.mem_singleton] at hs
        subst hs
        simpa using fun e => hb e.symm
      | cons t ls =>
        rw [hl] at hs ih
        simp only [List.mem_cons] at hs
        rcases hs with rfl | hs
        · have := ih t (by simp)
          simp only [List.mem_cons, not_or]
          exact ⟨fun e => hb e.symm, this⟩
        · exact ih s (by simp [hs])
theorem unl_linesOf : ∀ {l : List Nat}, TextOk l → unl (linesOf l) = l
  | [], _ => rfl
  | b :: l, h => by
    have hl : TextOk l := by
      cases l with
      | nil => exact .inl rfl
      | cons c l => right; rcases h with h | h; cases h; simpa using h
    have ih := unl_linesOf hl
    unfold linesOf
    split
    · rename_i hb; subst hb; rw [unl_cons, ih]; rfl
    · rename_i hb
      cases hls : linesOf l with
      | nil =>
        rw [hls] at ih
        have : l = [] := ih.symm
        subst this
        rcases h with h | h
        · cases h
        · simp at h; exact absurd h hb
      | cons t ls =>
        rw [hls] at ih
        simp only [unl_cons] at ih ⊢
        rw [List.cons_append, ih]
theorem unl_ok (ls : List (List Nat)) : TextOk (unl ls) := by
  induction ls with
  | nil => exact .inl rfl
  | cons s ls ih =>
    right
    rw [unl_cons]
    rcases ih with h | h
    · rw [h]; simp
    · rw [List.getLast?_append, List.getLast?_cons, h]; simp

/-! ### Reading -/
/-- A run of lines of a file under a condition. -/
structure Sg where
  f : Nat
  t : Nat
  fl : Nat
  at_ : Nat
  o : BF
/-- What was read so far; whether the next line of text begins a segment. -/
structure Gs where
  tx : List Nat
  sg : List Sg
  fr : Bool
/-- An open section. -/
structure Se where
  ou : BF
  re : BF
  ot : Bool
  ln : Nat
/-- Where an error is. -/
structure Pl where
  e : Int
  f : Int
  l : Int
def setTo (n : Nat) : List Sg → List Sg
  | [] => []
  | [x] => [{ x with t := n }]
  | x :: y :: l => x :: setTo n (y :: l)
theorem setTo_snoc (n : Nat) (l : List Sg) (x : Sg) : setTo n (l ++ [x]) = l ++ [{ x with t := n }] := by
  induction l with
  | nil => rfl
  | cons y l ih =>
    cases l with
    | nil => rfl
    | cons z l => rw [List.cons_append, List.cons_append] at *; rw [setTo, ih]; rfl
/-- A line of text is added. -/
def addG (s : List Nat) (fl at_ : Nat) (k : BF) (g : Gs) : Option Gs :=
  if 1048576 < g.tx.length + s.length ∨ (g.fr = true ∧ g.sg.length = 65536) then none
  else some ⟨g.tx ++ s, setTo (g.tx.length + s.length) (if g.fr then g.sg ++ [⟨g.tx.length, 0, fl, at_, k⟩] else g.sg), false⟩
/-- The file that an include names. -/
def incE (ix : List Nat → Option Nat) (rd : List Nat) (s : List Nat) : Except Int Nat :=
  if s.length < 2 ∨ s.head? ≠ some 34 ∨ s.getLast? ≠ some 34 ∨ s.count 34 ≠ 2 then .error 71
  else match ix ((s.drop 1).take (s.length - 2)) with
    | none => .error 73
    | some n => if n ∈ rd then .error 73 else .ok n
abbrev bAnd (a b : BF) : BF := fun e => a e && b e
abbrev bSub (a b : BF) : BF := fun e => a e && !b e
/-- The lines of a file: inc reads what an include names (its line, the condition, what was read, how many sections are open). -/
def rdL (nm : List (List Nat)) (fl d0 : Nat) (inc : List Nat → Nat → Nat → BF → Gs → Except Pl Gs) : List (List Nat) → Nat → Nat → BF → List Se → Gs → Except Pl Gs
  | [], _, _, _, op, g => match op with
    | [] => .ok { g with fr := true }
    | x :: _ => .error ⟨72, fl, x.ln⟩
  | s :: ls, ln, at_, k, op, g => match dirOf s with
    | .ifd r => match setE nm r with
      | .error e => .error ⟨e, fl, ln + 1⟩
      | .ok d => if d0 + op.length = 64 then .error ⟨2, fl, ln + 1⟩ else rdL nm fl d0 inc ls (ln + 1) (at_ + s.length + 1) (bAnd k d) (⟨k, bSub k d, false, ln + 1⟩ :: op) { g with fr := true }
    | .inc r => match inc r (ln + 1) (d0 + op.length) k g with
      | .error p => .error p
      | .ok g' => rdL nm fl d0 inc ls (ln + 1) (at_ + s.length + 1) k op { g' with fr := true }
    | .elif r => match op with
      | [] => .error ⟨72, fl, ln + 1⟩
      | x :: op' => if x.ot then .error ⟨71, fl, ln + 1⟩ else match setE nm r with
        | .error e => .error ⟨e, fl, ln + 1⟩
        | .ok d => rdL nm fl d0 inc ls (ln + 1) (at_ + s.length + 1) (bAnd x.re d) ({ x with re := bSub x.re d } :: op') { g with fr := true }
    | .els => match op with
      | [] => .error ⟨72, fl, ln + 1⟩
      | x :: op' => if x.ot then .error ⟨71, fl, ln + 1⟩ else rdL nm fl d0 inc ls (ln + 1) (at_ + s.length + 1) x.re ({ x with ot := true } :: op') { g with fr := true }
    | .en => match op with
      | [] => .error ⟨72, fl, ln + 1⟩
      | x :: op' => rdL nm fl d0 inc ls (ln + 1) (at_ + s.length + 1) x.ou op' { g with fr := true }
    | .txt => match addG (s ++ [10]) fl at_ k g with
      | none => .error ⟨2, fl, ln + 1⟩
      | some g' => rdL nm fl d0 inc ls (ln + 1) (at_ + s.length + 1) k op g'
/-- A file: its number, the files that are being read, how many sections and files are open. -/
def rdF (nm : List (List Nat)) (fs : List (List Nat × List Nat)) : Nat → List Nat → Nat → Nat → BF → Gs → Except Pl Gs
  | 0, _, _, _, _, _ => .error ⟨0, 0, 0⟩
  | f + 1, rd, d, n, k, g => rdL nm n d (fun r ln d k g => match incE (ixN (fs.map (·.1))) (n :: rd) r with
      | .error e => .error ⟨e, n, ln⟩
      | .ok m => if d = 64 then .error ⟨2, n, ln⟩ else rdF nm fs f (n :: rd) (d + 1) m k g) (linesOf ((fs[n]?.map (·.2)).getD [])) 0 0 k [] { g with fr := true }

/-- A name of a file. -/
def fnameOk (s : List Nat) : Bool := decide (s ≠ []) && s.all (fun b => decide (32 ≤ b) && b != 34 && b != 127)
def textB (l : List Nat) : Bool := decide (l = []) || l.getLast? == some 10
/-- The first error of the files. -/
def chkFs : List (List Nat × List Nat) → List (List Nat) → Nat → Option Pl
  | [], _, _ => none
  | x :: l, seen, i => if ¬ (fnameOk x.1 = true ∧ x.1 ∉ seen ∧ textB x.2 = true) then some ⟨70, i, 0⟩ else if 1048576 < x.2.length then some ⟨2, i, 0⟩ else chkFs l (seen ++ [x.1]) (i + 1)
def filesE (fs : List (List Nat × List Nat)) : Option Pl := if 256 < fs.length then some ⟨2, -1, 0⟩ else chkFs fs [] 0
/-- What Read answers. -/
def readE (nm : List (List Nat)) (fs : List (List Nat × List Nat)) (root : List Nat) : Except Pl Gs :=
  if numsOk nm = false then .error ⟨30, -1, 0⟩ else match filesE fs with
    | some p => .error p
    | none => match ixN (fs.map (·.1)) root with
      | none => .error ⟨73, -1, 0⟩
      | some n => rdF nm fs 65 [] 0 n (fun _ => true) ⟨[], [], false⟩
end Go.Proofs.YtedopgkbajhanaaGreatDoor
