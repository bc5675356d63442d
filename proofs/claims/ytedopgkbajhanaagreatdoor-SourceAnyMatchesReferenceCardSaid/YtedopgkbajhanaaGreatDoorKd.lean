/-
  formula: formulas as trees; what is printed; strength, a deferred WriteByte. (Printed by fe1gen.py.)
  formula: write. (Printed by fe2gen.py.)
  formula: Print.
  Conditions: none.
-/
import Derived.Test.YtedopgkbajhanaaGreatDoorBld
import Derived.Test.YtedopgkbajhanaaGreatDoorKc
namespace Go.Proofs.YtedopgkbajhanaaGreatDoor
section
open Go Go.RowKit

/-- A formula. -/
inductive Fm where
  | c (b : Bool)
  | v (n : Nat)
  | not (a : Fm)
  | and (a b : Fm)
  | or (a b : Fm)
deriving DecidableEq

/-- The nodes show this formula at i. -/
def RepF (f : List Fz) : Fm → Nat → Prop
  | .c b, i => f[i]? = some ⟨if b then 1 else 0, 0, 0, 0⟩
  | .v n, i => f[i]? = some ⟨2, (n : Nat), 0, 0⟩
  | .not a, i => ∃ j : Nat, j < i ∧ f[i]? = some ⟨3, 0, (j : Nat), 0⟩ ∧ RepF f a j
  | .and a b, i => ∃ j k : Nat, j < i ∧ k < i ∧ f[i]? = some ⟨4, 0, (j : Nat), (k : Nat)⟩ ∧ RepF f a j ∧ RepF f b k
  | .or a b, i => ∃ j k : Nat, j < i ∧ k < i ∧ f[i]? = some ⟨5, 0, (j : Nat), (k : Nat)⟩ ∧ RepF f a j ∧ RepF f b k

theorem fz_form {x : Fz} {i : Nat} (h : fzP x i) : (x = ⟨0, 0, 0, 0⟩) ∨ (x = ⟨1, 0, 0, 0⟩) ∨ (∃ n : Nat, n < 64 ∧ x = ⟨2, n, 0, 0⟩) ∨ (∃ j : Nat, j < i ∧ x = ⟨3, 0, j, 0⟩) ∨ (∃ j k : Nat, j < i ∧ k < i ∧ (x = ⟨4, 0, j, k⟩ ∨ x = ⟨5, 0, j, k⟩)) := by
  obtain ⟨o, v, a, b⟩ := x
  obtain ⟨h1, h2, h3, h4⟩ := h
  simp only at h1 h2 h3 h4
  rcases fAr_cases o with ⟨ho, e⟩ | ⟨ho, e⟩ | ⟨ho, e⟩ | ⟨e, _⟩
  · rw [if_neg (by omega)] at h3 h4
    subst h3; subst h4
    rcases ho with rfl | rfl | rfl
    · rw [if_neg (by omega)] at h2; subst h2; exact .inl rfl
    · rw [if_neg (by omega)] at h2; subst h2; exact .inr (.inl rfl)
    · rw [if_pos rfl] at h2
      refine .inr (.inr (.inl ⟨v.toNat, by omega, ?_⟩))
      rw [Int.toNat_of_nonneg h2.1]
  · rw [if_pos (by omega)] at h3
    rw [if_neg (by omega)] at h4 h2
    subst ho; subst h4; subst h2
    refine .inr (.inr (.inr (.inl ⟨a.toNat, by omega, ?_⟩)))
    rw [Int.toNat_of_nonneg h3.1]
  · rw [if_pos (by omega)] at h3 h4
    rw [if_neg (by omega)] at h2
    subst h2
    refine .inr (.inr (.inr (.inr ⟨a.toNat, b.toNat, by omega, by omega, ?_⟩)))
    rw [Int.toNat_of_nonneg h3.1, Int.toNat_of_nonneg h4.1]
    rcases ho with rfl | rfl
    · exact .inl rfl
    · exact .inr rfl
  · omega
theorem rep_of {f : List Fz} (h : ∀ i x, f[i]? = some x → fzP x i) : ∀ i, i < f.length → ∃ t, RepF f t i := by
  intro i
  induction i using Nat.strongRecOn with
  | _ i ih =>
    intro hi
    have hx := List.getElem?_eq_getElem hi
    rcases fz_form (h i _ hx) with e | e | ⟨n, _, e⟩ | ⟨j, hj, e⟩ | ⟨j, k, hj, hk, e⟩
    · exact ⟨.c false, by rw [e] at hx; exact hx⟩
    · exact ⟨.c true, by rw [e] at hx; exact hx⟩
    · exact ⟨.v n, by rw [e] at hx; exact hx⟩
    · obtain ⟨a, ha⟩ := ih j hj (by omega)
      exact ⟨.not a, j, hj, by rw [e] at hx; exact hx, ha⟩
    · obtain ⟨a, ha⟩ := ih j hj (by omega)
      obtain ⟨b, hb⟩ := ih k hk (by omega)
      rcases e with e | e
      · exact ⟨.and a b, j, k, hj, hk, by rw [e] at hx; exact hx, ha, hb⟩
      · exact ⟨.or a b, j, k, hj, hk, by rw [e] at hx; exact hx, ha, hb⟩
theorem RepF.lt {f : List Fz} : ∀ {t : Fm} {i : Nat}, RepF f t i → i < f.length
  | .c _, _, h => (List.getElem?_eq_some_iff.1 h).1
  | .v _, _, h => (List.getElem?_eq_some_iff.1 h).1
  | .not _, _, ⟨_, _, h, _⟩ => (List.getElem?_eq_some_iff.1 h).1
  | .and _ _, _, ⟨_, _, _, _, h, _⟩ => (List.getElem?_eq_some_iff.1 h).1
  | .or _ _, _, ⟨_, _, _, _, h, _⟩ => (List.getElem?_eq_some_iff.1 h).1

def lvlF : Fm → Nat
  | .or _ _ => 0
  | .and _ _ => 1
  | _ => 2
def parF (b : Bool) (s : List Nat) : List Nat := if b then 40 :: s ++ [41] else s
/-- What is printed, without the outer parentheses. -/
def prC (nm : List (List Nat)) : Fm → List Nat
  | .c b => if b then trueL else falseL
  | .v n => nm[n]?.getD []
  | .not a => 33 :: parF (decide (lvlF a < 2)) (prC nm a)
  | .and a b => parF (decide (lvlF a < 1)) (prC nm a) ++ [32, 38, 38, 32] ++ parF (decide (lvlF b < 2)) (prC nm b)
  | .or a b => parF (decide (lvlF a < 0)) (prC nm a) ++ [32, 124, 124, 32] ++ parF (decide (lvlF b < 1)) (prC nm b)
def prF (nm : List (List Nat)) (least : Nat) (t : Fm) : List Nat := parF (decide (lvlF t < least)) (prC nm t)
/-- Every condition has a name. -/
def VarsIn (n : Nat) : Fm → Prop
  | .c _ => True
  | .v k => k < n
  | .not a => VarsIn n a
  | .and a b => VarsIn n a ∧ VarsIn n b
  | .or a b => VarsIn n a ∧ VarsIn n b

end

section
open Go Go.RowKit

theorem arr_fix (a b : Value) : (#[] ++ [a, b].toArray) ++ #[] = [a, b].toArray := by simp
theorem liesB0 : LiesB 86 2 := by unfold LiesB; kernel_rfl

/-- Something was written. -/
def Wr (base g : Nat) (W : World) (A1 : Option Addr) (out xs : List Nat) (w' : World) : Prop := ∃ A' c', Bld w' base g 86 [] A' c' (out ++ xs) ∧ Mod (BldS g A1) W w' ∧ Moved W A1 A'
theorem Wr.refl {base g : Nat} {W : World} {A1 : Option Addr} {c : Nat} {out : List Nat} (h : Bld W base g 86 [] A1 c out) : Wr base g W A1 out [] W := ⟨A1, c, by simpa using h, Mod.refl _ _, Moved.refl _ _⟩
theorem Wr.trans {base g : Nat} {W w1 w2 : World} {A1 A' : Option Addr} {out xs ys : List Nat} (hm : Mod (BldS g A1) W w1) (hv : Moved W A1 A') (k : Wr base g w1 A' (out ++ xs) ys w2) : Wr base g W A1 out (xs ++ ys) w2 := by
  obtain ⟨A2, c2, hb2, hm2, hv2⟩ := k
  exact ⟨A2, c2, by rw [← List.append_assoc]; exact hb2, hm.trans hm2 (BldS.moved hv), hv.trans hv2 hm.size⟩
theorem Wr.pre {base g : Nat} {w w2 w' : World} {A : Option Addr} {out xs : List Nat} (h : Wr base g w2 A out xs w') (hE : Ext w w2) : Wr base g w A out xs w' := by
  obtain ⟨A2, c2, hb2, hm2, hv2⟩ := h
  exact ⟨A2, c2, hb2, (Mod.of_ext _ hE).trans hm2 (fun i hi => .inl hi), hv2.back hE.size⟩
theorem BldS.kept {base g : Nat} {w0 W : World} {A : Option Addr} {c : Nat} {out : List Nat} (h : Bld W base g 86 [] A c out) (hg : w0.heap.size ≤ g) : ∀ i, BldS g A i → w0.heap.size ≤ i := fun i hi => by
  have := h.g1
  rcases hi with rfl | hi
  · exact hg
  · have := (h.own.rows i hi).1
    omega

def szF : Fm → Nat
  | .c _ => 1
  | .v _ => 1
  | .not a => szF a + 1
  | .and a b => szF a + szF b + 1
  | .or a b => szF a + szF b + 1

def opF : Fm → Int
  | .c b => if b then 1 else 0
  | .v _ => 2
  | .not _ => 3
  | .and _ _ => 4
  | .or _ _ => 5
theorem opF_lvl (t : Fm) : (if opF t = 5 then (0 : Int) else if opF t = 4 then 1 else 2) = (lvlF t : Nat) := by
  cases t with
  | c b => cases b <;> rfl
  | _ => rfl
theorem RepF.node {f : List Fz} {t : Fm} {i : Nat} (h : RepF f t i) : ∃ x, f[i]? = some x ∧ x.o = opF t := by
  cases t with
  | c b => exact ⟨_, h, rfl⟩
  | v n => exact ⟨_, h, rfl⟩
  | not a => obtain ⟨j, _, h, _⟩ := h; exact ⟨_, h, rfl⟩
  | and a b => obtain ⟨j, k, _, _, h, _⟩ := h; exact ⟨_, h, rfl⟩
  | or a b => obtain ⟨j, k, _, _, h, _⟩ := h; exact ⟨_, h, rfl⟩

end

section
open Go Go.RowKit

theorem cast_inj3 {o v a b o' v' a' b' : Int} (h : (⟨o, v, a, b⟩ : Fz) = ⟨o', v', a', b'⟩) : o = o' ∧ v = v' ∧ a = a' ∧ b = b' := by cases h; exact ⟨rfl, rfl, rfl, rfl⟩
theorem RepF.det {f : List Fz} : ∀ {t t' : Fm} {i : Nat}, RepF f t i → RepF f t' i → t = t' := by
  intro t
  induction t with
  | c b =>
    intro t' i h h'
    obtain ⟨x, hx, ho⟩ := RepF.node h
    obtain ⟨x', hx', ho'⟩ := RepF.node h'
    have e := Option.some.inj (hx.symm.trans hx')
    rw [← e, ho] at ho'
    cases t' with
    | c b' => cases b <;> cases b' <;> first | rfl | (simp [opF] at ho')
    | v n => cases b <;> simp [opF] at ho'
    | not a => cases b <;> simp [opF] at ho'
    | and a c => cases b <;> simp [opF] at ho'
    | or a c => cases b <;> simp [opF] at ho'
  | v n =>
    intro t' i h h'
    obtain ⟨x', hx', ho'⟩ := RepF.node h'
    have e := Option.some.inj (hx'.symm.trans h)
    rw [e] at ho'
    cases t' with
    | c b' => cases b' <;> simp [opF] at ho'
    | v n' =>
      have := cast_inj3 (Option.some.inj (h.symm.trans h'))
      congr 1; omega
    | not a => simp [opF] at ho'
    | and a c => simp [opF] at ho'
    | or a c => simp [opF] at ho'
  | not a iha =>
    intro t' i h h'
    obtain ⟨j, hj, hx, ha⟩ := h
    obtain ⟨x', hx', ho'⟩ := RepF.node h'
    have e := Option.some.inj (hx'.symm.trans hx)
    rw [e] at ho'
    cases t' with
    | c b' => cases b' <;> simp [opF] at ho'
    | v n' => simp [opF] at ho'
    | not a' =>
      obtain ⟨j', hj', hx'', ha'⟩ := h'
      have := cast_inj3 (Option.some.inj (hx.symm.trans hx''))
      have ej : j = j' := by omega
      subst ej
      rw [iha ha ha']
    | and a c => simp [opF] at ho'
    | or a c => simp [opF] at ho'
  | and a b iha ihb =>
    intro t' i h h'
    obtain ⟨j, k, hj, hk, hx, ha, hb⟩ := h
    obtain ⟨x', hx', ho'⟩ := RepF.node h'
    have e := Option.some.inj (hx'.symm.trans hx)
    rw [e] at ho'
    cases t' with
    | c b' => cases b' <;> simp [opF] at ho'
    | v n' => simp [opF] at ho'
    | not a' => simp [opF] at ho'
    | and a' b' =>
      obtain ⟨j', k', hj', hk', hx'', ha', hb'⟩ := h'
      have := cast_inj3 (Option.some.inj (hx.symm.trans hx''))
      have ej : j = j' := by omega
      have ek : k = k' := by omega
      subst ej; subst ek
      rw [iha ha ha', ihb hb hb']
    | or a c => simp [opF] at ho'
  | or a b iha ihb =>
    intro t' i h h'
    obtain ⟨j, k, hj, hk, hx, ha, hb⟩ := h
    obtain ⟨x', hx', ho'⟩ := RepF.node h'
    have e := Option.some.inj (hx'.symm.trans hx)
    rw [e] at ho'
    cases t' with
    | c b' => cases b' <;> simp [opF] at ho'
    | v n' => simp [opF] at ho'
    | not a' => simp [opF] at ho'
    | and a c => simp [opF] at ho'
    | or a' b' =>
      obtain ⟨j', k', hj', hk', hx'', ha', hb'⟩ := h'
      have := cast_inj3 (Option.some.inj (hx.symm.trans hx''))
      have ej : j = j' := by omega
      have ek : k = k' := by omega
      subst ej; subst ek
      rw [iha ha ha', ihb hb hb']

open Classical in
/-- The formula that a list of nodes shows. -/
noncomputable def treeOf (f : List Fz) : Fm := if h : ∃ t, RepF f t (f.length - 1) then h.choose else .c false
theorem treeOf_eq {f : List Fz} {t : Fm} (h : RepF f t (f.length - 1)) : treeOf f = t := by
  have hex : ∃ t, RepF f t (f.length - 1) := ⟨t, h⟩
  unfold treeOf
  rw [dif_pos hex]
  exact RepF.det hex.choose_spec h
theorem treeOf_rep {f : List Fz} (h : FV f) : RepF f (treeOf f) (f.length - 1) := by
  obtain ⟨t, ht⟩ := rep_of h.2.2.1 (f.length - 1) (by have := h.2.1; omega)
  rw [treeOf_eq ht]; exact ht

def varsOk (n : Nat) (f : List Fz) : Prop := ∀ x ∈ f, x.o = 2 → x.v < n
theorem varsIn_of {n : Nat} {f : List Fz} (h : varsOk n f) : ∀ {t : Fm} {i : Nat}, RepF f t i → VarsIn n t
  | .c _, _, _ => trivial
  | .v k, _, hr => by have := h _ (List.mem_of_getElem? hr) rfl; simp only at this; show k < n; omega
  | .not a, _, ⟨_, _, _, ha⟩ => show VarsIn n a from varsIn_of h ha
  | .and a b, _, ⟨_, _, _, _, _, ha, hb⟩ => ⟨show VarsIn n a from varsIn_of h ha, show VarsIn n b from varsIn_of h hb⟩
  | .or a b, _, ⟨_, _, _, _, _, ha, hb⟩ => ⟨show VarsIn n a from varsIn_of h ha, show VarsIn n b from varsIn_of h hb⟩

open Classical in
/-- What Print answers. -/
noncomputable def printP (names : List (List Nat)) (f : List Fz) : List Nat × Int := if numsOk names then if FV f ∧ varsOk names.length f then (prF names 0 (treeOf f), 0) else ([], 30) else ([], 1)
theorem printP_no {names : List (List Nat)} {f : List Fz} (h : numsOk names = false) : printP names f = ([], 1) := by unfold printP; rw [h]; rfl
theorem printP_ok {names : List (List Nat)} {f : List Fz} (h : numsOk names = true) (hv : FV f) (ho : varsOk names.length f) : printP names f = (prF names 0 (treeOf f), 0) := by unfold printP; rw [if_pos h, if_pos ⟨hv, ho⟩]
theorem printP_bad {names : List (List Nat)} {f : List Fz} (h : numsOk names = true) (hv : ¬ (FV f ∧ varsOk names.length f)) : printP names f = ([], 30) := by unfold printP; rw [if_pos h, if_neg hv]
/-- A text and an error number. -/
def StrRes (w : World) (r : List Nat × Int) (v : Value) (w' : World) : Prop := v = .tuple #[.string (strOf r.1), .int .i64 r.2] ∧ Ext w w'

theorem prF_b8 {nm : List (List Nat)} (hn : NamesOk nm) : ∀ (t : Fm), ∀ x ∈ prC nm t, x < 256 := by
  have par : ∀ (b : Bool) (s : List Nat), (∀ x ∈ s, x < 256) → ∀ x ∈ parF b s, x < 256 := by
    intro b s h x hx
    unfold parF at hx
    split at hx
    · simp only [List.mem_append, List.mem_cons, List.not_mem_nil, or_false, List.cons_append] at hx
      rcases hx with rfl | hx | rfl
      · decide
      · exact h x hx
      · decide
    · exact h x hx
  intro t
  induction t with
  | c b =>
    cases b
    · show ∀ x ∈ falseL, x < 256; decide
    · show ∀ x ∈ trueL, x < 256; decide
  | v n =>
    intro x hx
    unfold prC at hx
    cases h : nm[n]? with
    | none => rw [h] at hx; cases hx
    | some s => rw [h] at hx; exact (hn s (List.mem_of_getElem? h)).1 x hx
  | not a ih =>
    intro x hx
    unfold prC at hx
    simp only [List.mem_cons] at hx
    rcases hx with rfl | hx
    · decide
    · exact par _ _ ih x hx
  | and a b iha ihb =>
    intro x hx
    unfold prC at hx
    simp only [List.mem_append, List.mem_cons, List.not_mem_nil, or_false] at hx
    rcases hx with (hx | hx) | hx
    · exact par _ _ iha x hx
    · omega
    · exact par _ _ ihb x hx
  | or a b iha ihb =>
    intro x hx
    unfold prC at hx
    simp only [List.mem_append, List.mem_cons, List.not_mem_nil, or_false] at hx
    rcases hx with (hx | hx) | hx
    · exact par _ _ iha x hx
    · omega
    · exact par _ _ ihb x hx

end
end Go.Proofs.YtedopgkbajhanaaGreatDoor
