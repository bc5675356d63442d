/-
  Formulas that numbers make: what stands at each step.
  Conditions: none.
-/
import Derived.Test.YtdbhjlpkopnebaaGreatDoorKk
namespace Go.Proofs.YtdbhjlpkopnebaaGreatDoor
open Go Go.RowKit

/-- A forest: every node is the operand of one other, or a root. -/
structure FG (nv : Nat) (f : List Fz) (rs : List Nat) : Prop where
  nd : ∀ i x, f[i]? = some x → fzP x i
  cnt : ∀ i, (fkids f).count i + rs.count i = if i < f.length then 1 else 0
  vars : varsOk nv f
theorem FG.lt {nv : Nat} {f : List Fz} {rs : List Nat} (h : FG nv f rs) {i : Nat} (hi : i ∈ rs) : i < f.length := by
  have := h.cnt i
  have hp := List.count_pos_iff.2 hi
  split at this
  · assumption
  · omega
theorem FG.empty (nv : Nat) : FG nv [] [] := ⟨fun i x h => by simp at h, fun i => by simp [fkids], fun x h => by cases h⟩
theorem snoc_node {f : List Fz} {x : Fz} (h : ∀ i y, f[i]? = some y → fzP y i) (hx : fzP x f.length) : ∀ i y, (f ++ [x])[i]? = some y → fzP y i := fun i y hy => by
  rcases app_cases hy with ⟨_, h1⟩ | ⟨h1, h2⟩
  · exact h i y h1
  · obtain ⟨e, rfl⟩ := one_cases h2
    have : i = f.length := by omega
    subst this; exact hx
theorem snoc_vars {nv : Nat} {f : List Fz} {x : Fz} (h : varsOk nv f) (hx : x.o = 2 → x.v < nv) : varsOk nv (f ++ [x]) := fun y hy ho => by
  simp only [List.mem_append, List.mem_singleton] at hy
  rcases hy with hy | rfl
  · exact h y hy ho
  · exact hx ho
/-- A node without operands. -/
theorem FG.leaf {nv : Nat} {f : List Fz} {rs : List Nat} (h : FG nv f rs) {x : Fz} (hx : fzP x f.length) (hk : fkids [x] = []) (hv : x.o = 2 → x.v < nv) : FG nv (f ++ [x]) (rs ++ [f.length]) := by
  refine ⟨snoc_node h.nd hx, fun i => ?_, snoc_vars h.vars hv⟩
  have := h.cnt i
  rw [fkids_app, hk, List.append_nil, List.count_append, List.count_singleton, List.length_append]
  simp only [List.length_cons, List.length_nil, beq_iff_eq]
  by_cases e : f.length = i
  · rw [if_neg (by omega)] at this
    rw [if_pos e, if_pos (by omega)]; omega
  · rw [if_neg e]
    by_cases hi : i < f.length
    · rw [if_pos hi] at this; rw [if_pos (by omega)]; omega
    · rw [if_neg hi] at this; rw [if_neg (by omega)]; omega
/-- A negation of the last root. -/
theorem FG.neg {nv : Nat} {f : List Fz} {rs : List Nat} {r : Nat} (h : FG nv f (rs ++ [r])) : FG nv (f ++ [⟨3, 0, (r : Nat), 0⟩]) (rs ++ [f.length]) := by
  have hr := h.lt (i := r) (by simp)
  refine ⟨snoc_node h.nd (fzP_not hr), fun i => ?_, snoc_vars h.vars (fun e => by simp at e)⟩
  have := h.cnt i
  rw [List.count_append, List.count_singleton] at this
  rw [fkids_app, fkids_not, List.count_append, List.count_append, List.count_singleton, List.count_singleton, List.length_append]
  simp only [List.length_cons, List.length_nil, beq_iff_eq] at this ⊢
  by_cases e : f.length = i
  · rw [if_neg (by omega), if_neg (by omega)] at this
    rw [if_pos e, if_neg (by omega), if_pos (by omega)]; omega
  · rw [if_neg e]
    by_cases e2 : r = i
    · rw [if_pos e2] at this ⊢
      rw [if_pos (by omega)] at this
      rw [if_pos (by omega)]; omega
    · rw [if_neg e2] at this ⊢
      by_cases hi : i < f.length
      · rw [if_pos hi] at this; rw [if_pos (by omega)]; omega
      · rw [if_neg hi] at this; rw [if_neg (by omega)]; omega
/-- Two roots are joined. -/
theorem FG.join {nv : Nat} {f : List Fz} {rs : List Nat} {a b : Nat} (h : FG nv f (rs ++ [a, b])) (op : Int) (hop : op = 4 ∨ op = 5) (sw : Bool) : FG nv (f ++ [⟨op, 0, ((if sw then b else a : Nat) : Int), ((if sw then a else b : Nat) : Int)⟩]) (rs ++ [f.length]) := by
  have ha := h.lt (i := a) (by simp)
  have hb := h.lt (i := b) (by simp)
  have hk : ∀ i, (fkids [⟨op, 0, ((if sw then b else a : Nat) : Int), ((if sw then a else b : Nat) : Int)⟩]).count i = [a, b].count i := fun i => by
    rcases hop with rfl | rfl
    · rw [fkids_and]; cases sw <;> simp only [List.count_cons, List.count_nil, if_true, if_false, Bool.false_eq_true] <;> omega
    · rw [fkids_or]; cases sw <;> simp only [List.count_cons, List.count_nil, if_true, if_false, Bool.false_eq_true] <;> omega
  refine ⟨snoc_node h.nd ?_, fun i => ?_, snoc_vars h.vars (fun e => by simp only at e; omega)⟩
  · rcases hop with rfl | rfl
    · cases sw
      · exact fzP_and ha hb
      · exact fzP_and hb ha
    · cases sw
      · exact fzP_or ha hb
      · exact fzP_or hb ha
  have := h.cnt i
  rw [List.count_append] at this
  rw [fkids_app, List.count_append, List.count_append, hk, List.count_singleton, List.length_append]
  simp only [List.length_cons, List.length_nil, beq_iff_eq] at this ⊢
  by_cases e : f.length = i
  · rw [if_neg (by omega)] at this
    rw [if_pos e, if_pos (by omega)]; omega
  · rw [if_neg e]
    by_cases hi : i < f.length
    · rw [if_pos hi] at this; rw [if_pos (by omega)]; omega
    · rw [if_neg hi] at this; rw [if_neg (by omega)]; omega
/-- A single root is the last node. -/
theorem FG.done {nv : Nat} {f : List Fz} {r : Nat} (h : FG nv f [r]) (hl : f.length ≤ 512) : FV f ∧ varsOk nv f := by
  have hr := h.lt (i := r) (by simp)
  have hlast : r = f.length - 1 := by
    refine Classical.byContradiction (fun hne => ?_)
    have hc := h.cnt (f.length - 1)
    rw [if_pos (by omega), List.count_singleton] at hc
    simp only [beq_iff_eq] at hc
    rw [if_neg (by omega)] at hc
    have hm : f.length - 1 ∈ fkids f := List.count_pos_iff.1 (by omega)
    have := fkids_lt (d := f) (i := f.length) (fun j x _ hx => h.nd j x hx) (f.length - 1) (by rw [List.take_length]; exact hm)
    omega
  refine ⟨⟨hl, by omega, h.nd, fun i hi => ?_⟩, h.vars⟩
  have hc := h.cnt i
  rw [if_pos (by omega), List.count_singleton] at hc
  simp only [beq_iff_eq] at hc
  rw [if_neg (by omega)] at hc
  omega

/-- How many nodes a valid formula's tree has. -/
theorem sum_perm {l m : List Nat} (h : l.Perm m) : l.sum = m.sum := by
  induction h with
  | nil => rfl
  | cons x _ ih => simp [ih]
  | swap x y l => simp; omega
  | trans _ _ h1 h2 => exact h1.trans h2
theorem szF_total {f : List Fz} (h : FV f) : szF (treeOf f) = f.length := by
  have tr : ∀ i, i < f.length → ∃ t, RepF f t i := rep_of h.2.2.1
  let S : Nat → Nat := fun i => if hi : i < f.length then szF (tr i hi).choose else 0
  have hS : ∀ i t, RepF f t i → S i = szF t := fun i t ht => by
    have hi := RepF.lt ht
    show (if hi : i < f.length then szF (tr i hi).choose else 0) = _
    rw [dif_pos hi, RepF.det (tr i hi).choose_spec ht]
  have key : ∀ k, k ≤ f.length → ((List.range k).map S).sum = k + ((fkids (f.take k)).map S).sum := by
    intro k
    induction k with
    | zero => intro _; simp [fkids]
    | succ k ih =>
      intro hk
      have hx := List.getElem?_eq_getElem (show k < f.length by omega)
      rw [List.range_succ, List.map_append, List.sum_append, ih (by omega), fkids_snoc f hx, List.map_append, List.sum_append]
      have : S k = 1 + ((fKids f[k]).map S).sum := by
        obtain ⟨t, ht⟩ := tr k (by omega)
        rw [hS k t ht]
        cases t with
        | c b => rw [show f[k] = _ from Option.some.inj (hx.symm.trans ht)]; cases b <;> simp [fKids, fAr, szF]
        | v n => rw [show f[k] = _ from Option.some.inj (hx.symm.trans ht)]; simp [fKids, fAr, szF]
        | not a =>
          obtain ⟨j, hj, he, ha⟩ := ht
          rw [show f[k] = _ from Option.some.inj (hx.symm.trans he)]
          have := hS j a ha
          simp [fKids, fAr, szF, this]; omega
        | and a b =>
          obtain ⟨i, j, hi, hj, he, ha, hb⟩ := ht
          rw [show f[k] = _ from Option.some.inj (hx.symm.trans he)]
          have := hS i a ha
          have := hS j b hb
          simp [fKids, fAr, szF, *]; omega
        | or a b =>
          obtain ⟨i, j, hi, hj, he, ha, hb⟩ := ht
          rw [show f[k] = _ from Option.some.inj (hx.symm.trans he)]
          have := hS i a ha
          have := hS j b hb
          simp [fKids, fAr, szF, *]; omega
      simp only [List.map_cons, List.map_nil, List.sum_cons, List.sum_nil]
      omega
  have h0 := h.2.1
  have k1 := key f.length (Nat.le_refl _)
  rw [List.take_length] at k1
  have hp : (fkids f).Perm (List.range (f.length - 1)) := by
    rw [List.perm_iff_count]
    intro i
    by_cases hi : i + 1 < f.length
    · have h1 := List.nodup_iff_count.1 (List.nodup_range (n := f.length - 1)) i
      have h2 := List.count_pos_iff.2 (List.mem_range.2 (show i < f.length - 1 by omega))
      rw [h.2.2.2 i hi]; omega
    · rw [List.count_eq_zero_of_not_mem (a := i) (l := List.range (f.length - 1)) (by simp; omega)]
      refine List.count_eq_zero_of_not_mem (fun hm => ?_)
      have := fkids_lt (d := f) (i := f.length) (fun j x _ hx => h.2.2.1 j x hx) i (by rw [List.take_length]; exact hm)
      omega
  have hs := sum_perm (hp.map S)
  have e : List.range f.length = List.range (f.length - 1) ++ [f.length - 1] := by
    rw [← List.range_succ]; congr 1; omega
  rw [e, List.map_append, List.sum_append, hs] at k1
  simp only [List.map_cons, List.map_nil, List.sum_cons, List.sum_nil] at k1
  have := hS (f.length - 1) _ (treeOf_rep h)
  omega
end Go.Proofs.YtdbhjlpkopnebaaGreatDoor
