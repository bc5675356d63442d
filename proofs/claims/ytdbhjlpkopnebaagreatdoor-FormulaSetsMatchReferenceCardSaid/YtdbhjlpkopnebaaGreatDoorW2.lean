/-
  FormulaRoundTrip: the walk.
  Conditions: none.
-/
import Derived.Test.YtdbhjlpkopnebaaGreatDoorPo
namespace Go.Proofs.YtdbhjlpkopnebaaGreatDoor
open Go Go.RowKit

theorem parF_len (b : Bool) (s : List Nat) : (parF b s).length ≤ s.length + 2 := by cases b <;> simp [parF]
theorem prC_len {nm : List (List Nat)} {M : Nat} (hM : ∀ s ∈ nm, s.length ≤ M) : ∀ t : Fm, (prC nm t).length + 2 ≤ szF t * (M + 10)
  | .c b => by cases b <;> simp [prC, szF, trueL, falseL] <;> omega
  | .v n => by
    have : (nm[n]?.getD []).length ≤ M := by
      cases h : nm[n]? with
      | none => simp
      | some s => exact hM s (List.mem_of_getElem? h)
    show (nm[n]?.getD []).length + 2 ≤ 1 * (M + 10)
    omega
  | .not a => by
    have h1 := prC_len hM a
    have h2 := parF_len (decide (lvlF a < 2)) (prC nm a)
    show (33 :: parF _ _).length + 2 ≤ (szF a + 1) * (M + 10)
    rw [List.length_cons, Nat.add_mul]; omega
  | .and a b => by
    have h1 := prC_len hM a
    have h2 := prC_len hM b
    have h3 := parF_len (decide (lvlF a < 1)) (prC nm a)
    have h4 := parF_len (decide (lvlF b < 2)) (prC nm b)
    show (parF _ _ ++ [32, 38, 38, 32] ++ parF _ _).length + 2 ≤ (szF a + szF b + 1) * (M + 10)
    rw [List.length_append, List.length_append, Nat.add_mul, Nat.add_mul]
    simp only [List.length_cons, List.length_nil]; omega
  | .or a b => by
    have h1 := prC_len hM a
    have h2 := prC_len hM b
    have h3 := parF_len (decide (lvlF a < 0)) (prC nm a)
    have h4 := parF_len (decide (lvlF b < 1)) (prC nm b)
    show (parF _ _ ++ [32, 124, 124, 32] ++ parF _ _).length + 2 ≤ (szF a + szF b + 1) * (M + 10)
    rw [List.length_append, List.length_append, Nat.add_mul, Nat.add_mul]
    simp only [List.length_cons, List.length_nil]; omega
theorem prF_len {nm : List (List Nat)} {M : Nat} (hM : ∀ s ∈ nm, s.length ≤ M) (t : Fm) : (prF nm 0 t).length ≤ szF t * (M + 10) := by
  have h1 := prC_len hM t
  have h2 := parF_len (decide (lvlF t < 0)) (prC nm t)
  unfold prF; omega
theorem letters_len (k : Nat) : ∀ s ∈ letters12.take k, s.length ≤ 9 := by
  have : letters12.all (fun s => decide (s.length ≤ 9)) = true := by decide
  intro s hs
  simpa using List.all_eq_true.1 this s (List.mem_of_mem_take hs)

/-- What stands of a made formula: its tree. -/
structure MadeF (nv : Nat) (f : List Fz) (t : Fm) : Prop where
  fv : FV f
  vo : varsOk nv f
  tr : treeOf f = t
  vi : VarsIn nv t
  sz : szF t ≤ 80
theorem madeF {nv : Nat} {f : List Fz} (h : FV f) (hv : varsOk nv f) (hl : f.length ≤ 80) : MadeF nv f (treeOf f) :=
  ⟨h, hv, rfl, varsIn_of hv (treeOf_rep h), by rw [szF_total h]; exact hl⟩
theorem varsOk.mono {n m : Nat} (h : n ≤ m) {f : List Fz} (k : varsOk n f) : varsOk m f := fun x hx ho => by have := k x hx ho; omega
theorem lett_print {nv k : Nat} {f : List Fz} {t : Fm} (h : MadeF nv f t) (hk : k ≤ 12) (hv : nv ≤ k) : printP (letters12.take k) f = (prF (letters12.take k) 0 t, 0) ∧ (prF (letters12.take k) 0 t).length ≤ 1520 ∧ (∀ x ∈ prF (letters12.take k) 0 t, x < 256) := by
  obtain ⟨h1, h2, h3⟩ := letters_ok k hk
  refine ⟨?_, ?_, ?_⟩
  · rw [printP_ok h2 h.fv (by rw [h3]; exact h.vo.mono hv), h.tr]
  · have := prF_len (letters_len k) t
    have h5 := h.sz
    have : szF t * (9 + 10) ≤ 80 * 19 := Nat.mul_le_mul h5 (Nat.le_refl _)
    omega
  · intro x hx
    unfold prF at hx
    rw [show decide (lvlF t < 0) = false from decide_eq_false (by omega)] at hx
    exact prF_b8 h1 t x hx
theorem lett_parse {nv k : Nat} {f : List Fz} {t : Fm} (h : MadeF nv f t) (hk : k ≤ 12) (hv : nv ≤ k) : parseP (letters12.take k) (prF (letters12.take k) 0 t) = (postF t 0, 0) := by
  obtain ⟨h1, h2, h3⟩ := letters_ok k hk
  exact parse_print h2 (nmOk_of h1 h2) t (by rw [h3]; exact h.vi.mono hv) (by have := h.sz; omega)
theorem lett_post {nv k : Nat} {f : List Fz} {t : Fm} (h : MadeF nv f t) (hk : k ≤ 12) (hv : nv ≤ k) : printP (letters12.take k) (postF t 0) = (prF (letters12.take k) 0 t, 0) := by
  obtain ⟨h1, h2, h3⟩ := letters_ok k hk
  exact print_post h2 (by rw [h3]; exact h.vi.mono hv) (by omega) (by have := h.sz; omega)

end Go.Proofs.YtdbhjlpkopnebaaGreatDoor
