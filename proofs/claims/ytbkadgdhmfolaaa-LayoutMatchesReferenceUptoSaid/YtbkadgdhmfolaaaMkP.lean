/-
  Limits of rendered texts; the choice that the reference makes is possible.
  Conditions: none.
-/
import Derived.Test.YtbkadgdhmfolaaaMk5
namespace Go.Proofs.Ytbkadgdhmfolaaa
open Go Go.RowKit

theorem rnd_lim {d : List Nd} (hv : Valid d) (ht : TxtOk d) (flat : List Bool) : (rnd d flat).1.length ≤ 70368744177664 ∧ ∀ x ∈ (rnd d flat).1, x < 256 := by
  unfold rnd
  split
  · exact ⟨Nat.zero_le _, by simp⟩
  split
  · exact ⟨Nat.zero_le _, by simp⟩
  split
  · exact ⟨Nat.zero_le _, by simp⟩
  · have hlim := FT_lim hv ht (chF ((grp d).zip flat))
    have hl2 := (wr_lim (FT d (chF ((grp d).zip flat)) (d.length - 1)) 0 false Ws.init 0 lsz ⟨Nat.le_refl _, Nat.le_refl _, Nat.le_refl _⟩ (by rw [lsz_eq]; omega)).2
    have hu8 := wr_u8 (FT d (chF ((grp d).zip flat)) (d.length - 1)) 0 false Ws.init (by intro x hx; cases hx)
    have h0 : Ws.init.out.length = 0 := rfl
    refine ⟨?_, hu8⟩
    show (rst d flat).out.length ≤ _
    unfold rst
    omega
theorem rndT_lim {d : List Nd} {t : Dt} (h : Rep d t) (flat : List Bool) : (rndT t flat).1.length ≤ 70368744177664 ∧ ∀ x ∈ (rndT t flat).1, x < 256 := by
  rw [← h.rnd]; exact rnd_lim h.valid h.txt flat

/-! ### The choice is possible -/
def Poss (hs l : List Bool) : Prop := ∀ i : Nat, l[i]? = some true → hs[i]? ≠ some true
theorem Poss.take {a b l : List Bool} (h : Poss (a ++ b) l) : Poss a (l.take a.length) := fun i hi hh => by
  rw [List.getElem?_take] at hi
  split at hi
  · rename_i h1
    exact h i hi (by rw [List.getElem?_append_left h1]; exact hh)
  · cases hi
theorem Poss.drop {a b l : List Bool} (h : Poss (a ++ b) l) : Poss b (l.drop a.length) := fun i hi hh => by
  rw [List.getElem?_drop] at hi
  exact h _ hi (by rw [List.getElem?_append_right (by omega)]; rw [show a.length + i - a.length = i by omega]; exact hh)
theorem Poss.tail {a : Bool} {b l : List Bool} (h : Poss (a :: b) l) : Poss b l.tail := fun i hi hh => h (i + 1) (by rw [List.getElem?_tail] at hi; exact hi) (by simpa using hh)
theorem Poss.head {a : Bool} {b l : List Bool} (h : Poss (a :: b) l) (hl : l.headD false = true) : a = false := by
  cases l with
  | nil => simp at hl
  | cons x l =>
    simp at hl
    subst hl
    have := h 0 rfl
    cases a
    · rfl
    · exact absurd rfl this
theorem choose_poss (flags : List Bool) (t : Dt) : Poss (hards t) (choose flags t) := by
  suffices H : ∀ (hs : List Bool) (k : Nat), Poss hs (chooseL flags hs k) from H _ 0
  intro hs
  induction hs with
  | nil => intro k i hi; simp [chooseL] at hi
  | cons h l ih =>
    intro k i hi
    cases i with
    | zero =>
      simp [chooseL] at hi ⊢
      exact hi.2
    | succ i => simp [chooseL] at hi ⊢; exact by simpa using ih (k + 1) i hi

theorem wind_wrong (st : Ws) : (wind st).wrong = st.wrong := by unfold wind; split <;> rfl
theorem wadd_wrong (s : List Nat) (st : Ws) : (wadd s st).wrong = st.wrong := by unfold wadd wput; split <;> simp [wind_wrong]

theorem wrT_wrong : ∀ (t : Dt) (l : List Bool) (ind : Nat) (flat : Bool) (st : Ws), Poss (hards t) l → (flat = true → hasHard t = false) → (wrT t l ind flat st).wrong = st.wrong
  | .text s, _, _, _, st, _, _ => wadd_wrong s st
  | .line s, _, _, flat, st, _, _ => by
    unfold wrT; split
    · exact wadd_wrong s st
    · rfl
  | .hard, _, _, flat, st, _, h => by
    have : flat = false := by cases flat; rfl; exact absurd (h rfl) (by simp [hasHard])
    subst this
    simp [wrT, wfeed]
  | .seq a b, l, ind, flat, st, hp, h => by
    have hl := hards_len a
    have h1 := Poss.take hp
    have h2 := Poss.drop hp
    rw [hl] at h1 h2
    simp only [wrT]
    rw [wrT_wrong b _ _ _ _ h2 (fun hf => by have := h hf; simp [hasHard] at this; exact this.2), wrT_wrong a _ _ _ _ h1 (fun hf => by have := h hf; simp [hasHard] at this; exact this.1)]
  | .nest n a, l, ind, flat, st, hp, h => wrT_wrong a l _ flat st hp h
  | .align a, l, ind, flat, st, hp, h => wrT_wrong a l _ flat st hp h
  | .group a, l, ind, flat, st, hp, h => by
    simp only [wrT]
    refine wrT_wrong a l.tail ind _ st (Poss.tail hp) (fun hf => ?_)
    rcases Bool.or_eq_true .. ▸ hf with hf | hf
    · exact h hf
    · exact Poss.head hp hf

theorem rndT_choose (flags : List Bool) (t : Dt) : rndT t (choose flags t) = ((wrT t (choose flags t) 0 false Ws.init).out, 0) := by
  unfold rndT
  rw [if_neg (by rw [choose_len]; simp), wrT_wrong t _ _ _ _ (choose_poss flags t) (by simp)]
  rfl

def txt (t : Dt) (flags : List Bool) : List Nat := (wrT t (choose flags t) 0 false Ws.init).out
theorem txt_lim {d : List Nd} {t : Dt} (h : Rep d t) (flags : List Bool) : (txt t flags).length ≤ 70368744177664 ∧ ∀ x ∈ txt t flags, x < 256 := by
  have := rndT_lim h (choose flags t)
  rw [rndT_choose] at this
  exact this

def vis (l : List Nat) : List Nat := l.filter fun x => x != 32 && x != 10
end Go.Proofs.Ytbkadgdhmfolaaa
