/-
  Normal choices, and what a choice costs.
  Conditions: none.
-/
import Derived.Test.YtbkadgdhmfolaaaLy5
namespace Go.Proofs.Ytbkadgdhmfolaaa
open Go Go.RowKit

/-- The normal choices, in order. -/
def nrm : Dt → List (List Bool)
  | .text _ => [[]]
  | .line _ => [[]]
  | .hard => [[]]
  | .seq a b => (nrm a).flatMap fun x => (nrm b).map fun y => x ++ y
  | .nest _ a => nrm a
  | .align a => nrm a
  | .group a => (if hasHard a then [] else [List.replicate (ng a + 1) true]) ++ (nrm a).map fun x => false :: x
theorem nrm_len : ∀ (t : Dt) (l : List Bool), l ∈ nrm t → l.length = ng t
  | .text _, l, h => by simp [nrm] at h; subst h; rfl
  | .line _, l, h => by simp [nrm] at h; subst h; rfl
  | .hard, l, h => by simp [nrm] at h; subst h; rfl
  | .seq a b, l, h => by
    simp only [nrm, List.mem_flatMap, List.mem_map] at h
    obtain ⟨x, hx, y, hy, rfl⟩ := h
    simp [ng, nrm_len a x hx, nrm_len b y hy]
  | .nest _ a, l, h => nrm_len a l h
  | .align a, l, h => nrm_len a l h
  | .group a, l, h => by
    simp only [nrm, List.mem_append, List.mem_map] at h
    rcases h with h | ⟨x, hx, rfl⟩
    · split at h
      · simp at h
      · simp at h; subst h; simp [ng]
    · simp [ng, nrm_len a x hx]
theorem nrm_ne : ∀ (t : Dt), nrm t ≠ []
  | .text _ => by simp [nrm]
  | .line _ => by simp [nrm]
  | .hard => by simp [nrm]
  | .seq a b => by
    intro h
    obtain ⟨x, hx⟩ := List.exists_mem_of_ne_nil _ (nrm_ne a)
    obtain ⟨y, hy⟩ := List.exists_mem_of_ne_nil _ (nrm_ne b)
    have : x ++ y ∈ nrm (.seq a b) := List.mem_flatMap.2 ⟨x, hx, List.mem_map.2 ⟨y, hy, rfl⟩⟩
    rw [h] at this; cases this
  | .nest _ a => nrm_ne a
  | .align a => nrm_ne a
  | .group a => by
    intro h
    obtain ⟨x, hx⟩ := List.exists_mem_of_ne_nil _ (nrm_ne a)
    have : false :: x ∈ nrm (.group a) := by
      simp only [nrm, List.mem_append, List.mem_map]
      exact .inr ⟨x, hx, rfl⟩
    rw [h] at this; cases this

/-- What a choice leads to: the place, the bytes beyond the width, the line feeds. -/
def runT (W : Nat) : Dt → List Bool → Nat → Pl → Pl × Nat × Nat
  | .text s, _, _, p => ((plW W p s.length).1, (plW W p s.length).2, 0)
  | .line _, _, ind, _ => ((ind, false), 0, 1)
  | .hard, _, ind, _ => ((ind, false), 0, 1)
  | .seq a b, l, ind, p => ((runT W b (l.drop (ng a)) ind (runT W a (l.take (ng a)) ind p).1).1, (runT W a (l.take (ng a)) ind p).2.1 + (runT W b (l.drop (ng a)) ind (runT W a (l.take (ng a)) ind p).1).2.1, (runT W a (l.take (ng a)) ind p).2.2 + (runT W b (l.drop (ng a)) ind (runT W a (l.take (ng a)) ind p).1).2.2)
  | .nest n a, l, ind, p => runT W a l (ind + n) p
  | .align a, l, _, p => runT W a l p.1 p
  | .group a, l, ind, p => if l.headD false then ((flatP W a p).1, (flatP W a p).2, 0) else runT W a l.tail ind p

/-! ### It is what the writer writes -/
/-- No line feed in a text. -/
def noT : Dt → Prop
  | .text s => 10 ∉ s
  | .line s => 10 ∉ s
  | .hard => True
  | .seq a b => noT a ∧ noT b
  | .nest _ a => noT a
  | .align a => noT a
  | .group a => noT a
theorem okT_noT : ∀ t, okT t → noT t
  | .text _, h => h
  | .line _, h => sp_no10 h
  | .hard, _ => trivial
  | .seq a b, h => ⟨okT_noT a h.1, okT_noT b h.2⟩
  | .nest _ a, h => okT_noT a h
  | .align a, h => okT_noT a h
  | .group a, h => okT_noT a h

/-- The bytes on the current line, n of them already behind us. -/
def posL : Nat → List Nat → Nat
  | n, [] => n
  | n, x :: o => if x = 10 then posL 0 o else posL (n + 1) o
theorem posL_app : ∀ (n : Nat) (o z : List Nat), posL n (o ++ z) = posL (posL n o) z
  | n, [], z => rfl
  | n, x :: o, z => by
    simp only [List.cons_append, posL]
    split
    · exact posL_app 0 o z
    · exact posL_app (n + 1) o z
theorem posL_no {z : List Nat} (hz : 10 ∉ z) : ∀ n, posL n z = n + z.length := by
  induction z with
  | nil => intro n; rfl
  | cons x z ih =>
    intro n
    have hx : ¬ x = 10 := fun e => hz (by simp [e])
    rw [posL, if_neg hx, ih (fun hm => hz (by simp [hm]))]
    simp only [List.length_cons]; omega
theorem costL_tail (W : Nat) {z : List Nat} (hz : 10 ∉ z) : ∀ (o : List Nat) (n : Nat), costL W (o ++ z) n = ((costL W o n).1 + ((posL n o + z.length - W) - (posL n o - W)), (costL W o n).2)
  | [], n => by
    have := costL_app W z [] n hz
    simp [costL] at this
    simp [costL, posL, this]
  | x :: o, n => by
    simp only [List.cons_append, costL, posL]
    split
    · rw [costL_tail W hz o 0]
    · rw [costL_tail W hz o (n + 1)]
      simp only [Nat.add_assoc]
theorem costL_feed (W : Nat) : ∀ (o : List Nat) (n : Nat), costL W (o ++ [10]) n = ((costL W o n).1, (costL W o n).2 + 1)
  | [], n => by simp [costL]
  | x :: o, n => by
    simp only [List.cons_append, costL]
    split
    · rw [costL_feed W o 0]
    · rw [costL_feed W o (n + 1)]

/-- The writer's state stands at the place. -/
structure AtP (st : Ws) (p : Pl) : Prop where
  col : p.1 = if st.col = 0 then st.pend else st.col
  wr : p.2 = decide (st.col ≠ 0)
  ci : st.col = posL 0 st.out
def costW (W : Nat) (st : Ws) : Nat × Nat := costL W st.out 0

theorem AtP.add {W : Nat} {st : Ws} {p : Pl} (h : AtP st p) {s : List Nat} (hs : 10 ∉ s) : AtP (wadd s st) (plW W p s.length).1 ∧ costW W (wadd s st) = ((costW W st).1 + (plW W p s.length).2, (costW W st).2) := by
  unfold wadd plW
  by_cases hn : s = []
  · subst hn
    simp [h]
  have hlen : 0 < s.length := List.length_pos_iff.2 hn
  rw [if_neg hn, if_neg (by omega)]
  have h1 := h.col
  have h2 := h.wr
  have h3 := h.ci
  unfold wput wind
  by_cases hc : st.col = 0
  · rw [if_pos hc] at h1 ⊢
    have hp2 : p.2 = false := by rw [h2]; simp [hc]
    have hz : 10 ∉ List.replicate st.pend 32 ++ s := by
      simp only [List.mem_append, not_or]
      exact ⟨fun hm => by have := List.eq_of_mem_replicate hm; omega, hs⟩
    refine ⟨⟨?_, ?_, ?_⟩, ?_⟩
    · dsimp only; rw [if_neg (by omega)]; omega
    · dsimp only; exact (decide_eq_true (by omega)).symm
    · dsimp only
      rw [List.append_assoc, posL_app, posL_no hz, ← h3, hc]; simp
    · unfold costW
      dsimp only
      rw [List.append_assoc, costL_tail W hz, ← h3, hc, hp2, h1]
      simp
  · rw [if_neg hc] at h1 ⊢
    have hp2 : p.2 = true := by rw [h2]; simp [hc]
    refine ⟨⟨?_, ?_, ?_⟩, ?_⟩
    · dsimp only; rw [if_neg (by omega)]; omega
    · dsimp only; exact (decide_eq_true (by omega)).symm
    · dsimp only
      rw [posL_app, posL_no hs, ← h3]
    · unfold costW
      dsimp only
      rw [costL_tail W hs, ← h3, hp2, h1]
      simp
theorem AtP.feed (W : Nat) {st : Ws} (i : Nat) : AtP (wfeed i st) (i, false) ∧ costW W (wfeed i st) = ((costW W st).1, (costW W st).2 + 1) := by
  refine ⟨⟨?_, ?_, ?_⟩, ?_⟩
  · simp [wfeed]
  · simp [wfeed]
  · simp only [wfeed]; rw [posL_app]; rfl
  · simp only [wfeed, costW]; exact costL_feed W st.out 0
theorem AtP.flat {W : Nat} : ∀ (t : Dt) (l : List Bool) (ind : Nat) (st : Ws) (p : Pl), AtP st p → noT t → hasHard t = false → AtP (wrT t l ind true st) (flatP W t p).1 ∧ costW W (wrT t l ind true st) = ((costW W st).1 + (flatP W t p).2, (costW W st).2)
  | .text s, _, _, st, p, h, ho, _ => h.add ho
  | .line s, _, _, st, p, h, ho, _ => h.add ho
  | .hard, _, _, st, p, h, _, hh => by simp [hasHard] at hh
  | .seq a b, l, ind, st, p, h, ho, hh => by
    simp only [hasHard, Bool.or_eq_false_iff] at hh
    obtain ⟨h1, h2⟩ := AtP.flat (W := W) a (l.take (ng a)) ind st p h ho.1 hh.1
    obtain ⟨h3, h4⟩ := AtP.flat (W := W) b (l.drop (ng a)) ind _ _ h1 ho.2 hh.2
    refine ⟨h3, ?_⟩
    simp only [wrT, flatP]
    rw [h4, h2]
    simp [Nat.add_assoc]
  | .nest _ a, l, _, st, p, h, ho, hh => AtP.flat a l _ st p h ho hh
  | .align a, l, _, st, p, h, ho, hh => AtP.flat a l _ st p h ho hh
  | .group a, l, _, st, p, h, ho, hh => AtP.flat a l.tail _ st p h ho hh
theorem AtP.run {W : Nat} : ∀ (t : Dt) (l : List Bool) (ind : Nat) (st : Ws) (p : Pl), AtP st p → noT t → l ∈ nrm t → AtP (wrT t l ind false st) (runT W t l ind p).1 ∧ costW W (wrT t l ind false st) = ((costW W st).1 + (runT W t l ind p).2.1, (costW W st).2 + (runT W t l ind p).2.2)
  | .text s, _, _, st, p, h, ho, _ => h.add ho
  | .line s, _, ind, st, p, h, ho, _ => AtP.feed W (st := st) ind
  | .hard, _, ind, st, p, h, _, _ => AtP.feed W (st := { st with wrong := st.wrong || false }) ind
  | .seq a b, l, ind, st, p, h, ho, hl => by
    simp only [nrm, List.mem_flatMap, List.mem_map] at hl
    obtain ⟨x, hx, y, hy, rfl⟩ := hl
    have hxl := nrm_len a x hx
    simp only [wrT, runT]
    rw [← hxl, List.take_left, List.drop_left]
    obtain ⟨h1, h2⟩ := AtP.run (W := W) a x ind st p h ho.1 hx
    obtain ⟨h3, h4⟩ := AtP.run (W := W) b y ind _ _ h1 ho.2 hy
    refine ⟨h3, ?_⟩
    rw [h4, h2]
    simp [Nat.add_assoc]
  | .nest _ a, l, _, st, p, h, ho, hl => AtP.run a l _ st p h ho hl
  | .align a, l, _, st, p, h, ho, hl => by
    simp only [wrT, runT]
    rw [← h.col]
    exact AtP.run a l _ st p h ho hl
  | .group a, l, ind, st, p, h, ho, hl => by
    simp only [nrm, List.mem_append, List.mem_map] at hl
    simp only [wrT, runT]
    rcases hl with hl | ⟨x, hx, rfl⟩
    · split at hl
      · simp at hl
      · rename_i hh
        simp at hl
        subst hl
        obtain ⟨h1, h2⟩ := AtP.flat (W := W) a ((List.replicate (ng a + 1) true).tail) ind st p h ho (by simpa using hh)
        simp only [List.replicate_succ, List.headD_cons, Bool.or_true, if_true] at *
        exact ⟨h1, by rw [h2]; rfl⟩
    · simp only [List.headD_cons, Bool.or_false, List.tail_cons, Bool.false_eq_true, if_false]
      exact AtP.run a x ind st p h ho hx
end Go.Proofs.Ytbkadgdhmfolaaa
