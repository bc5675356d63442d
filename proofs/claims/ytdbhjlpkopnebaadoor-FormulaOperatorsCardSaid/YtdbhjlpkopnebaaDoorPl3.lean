/-
  What the joined and the negated expression of two formulas are parsed to.
  Conditions: none.
-/
import Derived.Test.YtdbhjlpkopnebaaDoorW2
import Derived.Test.YtdbhjlpkopnebaaDoorLm
namespace Go.Proofs.YtdbhjlpkopnebaaDoor
open Go Go.RowKit

theorem lex_prC {nm : List (List Nat)} {ix : List Nat → Option Nat} (hn : NmOk nm ix) (t : Fm) (h : VarsIn nm.length t) : LexS (prF nm 0 t) (tkC nm t) := by
  unfold prF
  rw [show decide (lvlF t < 0) = false from decide_eq_false (by omega)]
  exact lex_print hn t h
theorem LexS.all {s : List Nat} {ts : List (List Nat)} (h : LexS s ts) : lexA s = (ts, true) := by
  have := h [] Stop.nil
  simpa [lexA_nil] using this
theorem par_fac {nm : List (List Nat)} {ix : List Nat → Option Nat} (hn : NmOk nm ix) {n : Nat} (t : Fm) (rest : List (List Nat)) (hv : VarsIn nm.length t) (hl : (tkC nm t).length ≤ n) : facT ix (n + 1) (parK true (tkC nm t) ++ rest) = some (t, false, rest) := by
  have h := or_ok (fac_ok hn n) t ([41] :: rest) hv hl (by simp)
  have hs : loopT [124, 124] .or (andT ix n) (([41] :: rest).length + 1) t false ([41] :: rest) = some (t, false, [41] :: rest) := loopT_stop (by simp)
  have e : parK true (tkC nm t) ++ rest = [40] :: (tkC nm t ++ [41] :: rest) := by simp [parK]
  rw [e, facT, if_neg (by decide), if_pos rfl]
  have h2 : chainT [124, 124] Fm.or (chainT [38, 38] Fm.and (facT ix n)) (tkC nm t ++ [41] :: rest) = some (t, false, [41] :: rest) := h.trans hs
  rw [h2]; rfl

/-- (s)&&(t) -/
def andS (nm : List (List Nat)) (s t : Fm) : List Nat := [40] ++ prF nm 0 s ++ [41, 38, 38, 40] ++ prF nm 0 t ++ [41]
theorem and_lex {nm : List (List Nat)} {ix : List Nat → Option Nat} (hn : NmOk nm ix) (s t : Fm) (hs : VarsIn nm.length s) (ht : VarsIn nm.length t) : lexA (andS nm s t) = (parK true (tkC nm s) ++ ([38, 38] :: (parK true (tkC nm t) ++ [])), true) := by
  have e : andS nm s t = parF true (prF nm 0 s) ++ (38 :: 38 :: (parF true (prF nm 0 t) ++ [])) := by simp [andS, parF]
  rw [e, (lex_prC hn s hs).par true _ (Stop.cons (by decide)), lexA_two (.inl rfl), (lex_prC hn t ht).par true [] Stop.nil, lexA_nil]
theorem and_parse {nm : List (List Nat)} (hn : numsOk nm = true) (hi : NmOk nm (ixN nm)) (s t : Fm) (hs : VarsIn nm.length s) (ht : VarsIn nm.length t) (hz : szF s + szF t + 1 ≤ 512) : parseP nm (andS nm s t) = (postF (.and s t) 0, 0) := by
  have hl := and_lex hi s t hs ht
  have hle := tok_le (andS nm s t).length (andS nm s t)
  have e0 : lexF (andS nm s t).length (andS nm s t) = _ := hl
  rw [e0] at hle
  have len : ∀ t, (parK true (tkC nm t)).length = (tkC nm t).length + 2 := fun t => by simp [parK]
  simp only [List.length_append, List.length_cons, len, List.length_nil] at hle
  have w : wholeT (ixN nm) ((andS nm s t).length + 1) (parK true (tkC nm s) ++ ([38, 38] :: (parK true (tkC nm t) ++ []))) = some (.and s t, false, []) := by
    have f1 := par_fac hi (n := (andS nm s t).length) s ([38, 38] :: (parK true (tkC nm t) ++ [])) hs (by omega)
    have f2 := par_fac hi (n := (andS nm s t).length) t [] ht (by omega)
    have a1 : andT (ixN nm) ((andS nm s t).length + 1) (parK true (tkC nm s) ++ ([38, 38] :: (parK true (tkC nm t) ++ []))) = some (.and s t, false, []) := by
      unfold andT
      rw [chainT_of f1]
      have := loopT_op (op := [38, 38]) (mk := Fm.and) (m := 1) (a := s) (u := false) (facT_lim (ixN nm) ((andS nm s t).length + 1)) f2
      rw [this]; rfl
    show orT (ixN nm) _ _ = _
    unfold orT
    rw [chainT_of a1]; rfl
  rw [parse_some hn hl w, if_neg (by decide), if_neg (by show ¬ 512 < szF s + szF t + 1; omega)]

/-- !(s) -/
def notS (nm : List (List Nat)) (s : Fm) : List Nat := [33, 40] ++ prF nm 0 s ++ [41]
theorem not_parse {nm : List (List Nat)} (hn : numsOk nm = true) (hi : NmOk nm (ixN nm)) (s : Fm) (hs : VarsIn nm.length s) (hz : szF s + 1 ≤ 512) : parseP nm (notS nm s) = (postF (.not s) 0, 0) := by
  have hl : lexA (notS nm s) = ([33] :: (parK true (tkC nm s) ++ []), true) := by
    have e : notS nm s = 33 :: (parF true (prF nm 0 s) ++ []) := by simp [notS, parF]
    rw [e, lexA_one (by omega), (lex_prC hi s hs).par true [] Stop.nil, lexA_nil]
  have hle := tok_le (notS nm s).length (notS nm s)
  have e0 : lexF (notS nm s).length (notS nm s) = _ := hl
  rw [e0] at hle
  have len : ∀ t, (parK true (tkC nm t)).length = (tkC nm t).length + 2 := fun t => by simp [parK]
  simp only [List.length_append, List.length_cons, len, List.length_nil] at hle
  have f0 : facT (ixN nm) ((notS nm s).length + 1) ([33] :: (parK true (tkC nm s) ++ [])) = some (.not s, false, []) := by
    obtain ⟨k, hk⟩ : ∃ k, (notS nm s).length = k + 1 := ⟨(notS nm s).length - 1, by omega⟩
    rw [facT, if_pos rfl, hk, par_fac hi (n := k) s [] hs (by omega)]
  have w : wholeT (ixN nm) ((notS nm s).length + 1) ([33] :: (parK true (tkC nm s) ++ [])) = some (.not s, false, []) := by
    have a1 : andT (ixN nm) ((notS nm s).length + 1) ([33] :: (parK true (tkC nm s) ++ [])) = some (.not s, false, []) := by
      unfold andT; rw [chainT_of f0]; rfl
    show orT (ixN nm) _ _ = _
    unfold orT
    rw [chainT_of a1]; rfl
  rw [parse_some hn hl w, if_neg (by decide), if_neg (by show ¬ 512 < szF s + 1; omega)]

/-- s||t -/
def orS (nm : List (List Nat)) (s t : Fm) : List Nat := prF nm 0 s ++ [124, 124] ++ prF nm 0 t
def orJ (a : Fm) : Fm → Fm
  | .or x y => .or (orJ a x) y
  | t => .or a t
theorem orJ_else {a t : Fm} (h : lvlF t ≠ 0) : orJ a t = .or a t := by cases t <;> first | rfl | exact absurd rfl h
theorem orJ_ev (a : Fm) (e : Nat → Bool) : ∀ t, evF (orJ a t) e = (evF a e || evF t e)
  | .or x y => by
    show (evF (orJ a x) e || evF y e) = (evF a e || (evF x e || evF y e))
    rw [orJ_ev a e x, Bool.or_assoc]
  | .c _ => rfl
  | .v _ => rfl
  | .not _ => rfl
  | .and _ _ => rfl
theorem orJ_sz (a : Fm) : ∀ t, szF (orJ a t) = szF a + szF t + 1
  | .or x y => by
    show szF (orJ a x) + szF y + 1 = szF a + (szF x + szF y + 1) + 1
    rw [orJ_sz a x]; omega
  | .c _ => rfl
  | .v _ => rfl
  | .not _ => rfl
  | .and _ _ => rfl
theorem orJ_vars {n : Nat} {a : Fm} (ha : VarsIn n a) : ∀ {t}, VarsIn n t → VarsIn n (orJ a t)
  | .or _ _, h => ⟨orJ_vars ha h.1, h.2⟩
  | .c _, h => ⟨ha, h⟩
  | .v _, h => ⟨ha, h⟩
  | .not _, h => ⟨ha, h⟩
  | .and _ _, h => ⟨ha, h⟩
theorem loop_join {nm : List (List Nat)} {ix : List Nat → Option Nat} {n : Nat} (F : FacOk nm ix n) : ∀ (t a : Fm) (rest : List (List Nat)), VarsIn nm.length t → (tkC nm t).length ≤ n → rest.head? ≠ some [38, 38] →
    loopT [124, 124] .or (andT ix n) (([124, 124] :: (tkC nm t ++ rest)).length + 1) a false ([124, 124] :: (tkC nm t ++ rest)) = loopT [124, 124] .or (andT ix n) (rest.length + 1) (orJ a t) false rest := by
  intro t
  have base : ∀ t, decide (lvlF t < 1) = false → ∀ (a : Fm) (rest : List (List Nat)), VarsIn nm.length t → (tkC nm t).length ≤ n → rest.head? ≠ some [38, 38] →
      loopT [124, 124] .or (andT ix n) (([124, 124] :: (tkC nm t ++ rest)).length + 1) a false ([124, 124] :: (tkC nm t ++ rest)) = loopT [124, 124] .or (andT ix n) (rest.length + 1) (orJ a t) false rest := by
    intro t e a rest hv hl hs
    have := and_ok F t rest hv (by rw [e]; exact hl)
    rw [e, loopT_stop hs] at this
    rw [orJ_else (by have := of_decide_eq_false e; omega)]
    exact loopT_op (andT_lim ix n) (m := 1) this
  induction t with
  | c b => exact base _ rfl
  | v k => exact base _ rfl
  | not a _ => exact base _ rfl
  | and a b _ _ => exact base _ rfl
  | or x y ihx _ =>
    intro a rest hv hl hs
    have e : tkC nm (.or x y) = tkC nm x ++ [124, 124] :: parK (decide (lvlF y < 1)) (tkC nm y) := rfl
    rw [e, List.length_append, List.length_cons] at hl
    rw [e, List.append_assoc, List.cons_append, ihx a _ hv.1 (by omega) (by simp)]
    have hf := and_ok F y rest hv.2 (by omega)
    rw [loopT_stop hs] at hf
    exact loopT_op (andT_lim ix n) (m := 1) hf
theorem or_parse {nm : List (List Nat)} (hn : numsOk nm = true) (hi : NmOk nm (ixN nm)) (s t : Fm) (hs : VarsIn nm.length s) (ht : VarsIn nm.length t) (hz : szF s + szF t + 1 ≤ 512) : parseP nm (orS nm s t) = (postF (orJ s t) 0, 0) := by
  have hl : lexA (orS nm s t) = (tkC nm s ++ ([124, 124] :: (tkC nm t ++ [])), true) := by
    have e : orS nm s t = prF nm 0 s ++ (124 :: 124 :: (prF nm 0 t ++ [])) := by simp [orS]
    rw [e, lex_prC hi s hs _ (Stop.cons (by decide)), lexA_two (.inr rfl), lex_prC hi t ht [] Stop.nil, lexA_nil]
  have hle := tok_le (orS nm s t).length (orS nm s t)
  have e0 : lexF (orS nm s t).length (orS nm s t) = _ := hl
  rw [e0] at hle
  simp only [List.length_append, List.length_cons, List.length_nil] at hle
  have w : wholeT (ixN nm) ((orS nm s t).length + 1) (tkC nm s ++ ([124, 124] :: (tkC nm t ++ []))) = some (orJ s t, false, []) := by
    have F := fac_ok hi ((orS nm s t).length + 1)
    show orT (ixN nm) _ _ = _
    rw [or_ok F s _ hs (by omega) (by simp), loop_join F t s [] ht (by omega) (by simp)]
    rfl
  rw [parse_some hn hl w, if_neg (by decide), if_neg (by rw [orJ_sz]; omega)]
end Go.Proofs.YtdbhjlpkopnebaaDoor
