/-
  The documents that the reference's functions build stand for the trees that one expects.
  Conditions: none.
-/
import Derived.Test.YtbkadgdhmfolaaaRep
namespace Go.Proofs.Ytbkadgdhmfolaaa
open Go Go.RowKit

def shiftN (k : Nat) (x : Nd) : Nd := { x with a := if 1 ≤ arI x.k then x.a + k else x.a, b := if 2 ≤ arI x.k then x.b + k else x.b }
def joinD (a b : List Nd) : List Nd := a ++ b.map (shiftN a.length)
def seqD (a b : List Nd) : List Nd := joinD a b ++ [⟨3, ⟨#[]⟩, 0, (a.length : Int) - 1, (a.length : Int) + b.length - 1⟩]
def wrapD (k n : Int) (a : List Nd) : List Nd := a ++ [⟨k, ⟨#[]⟩, n, (a.length : Int) - 1, 0⟩]
def leafD (k : Int) (s : ByteArray) : List Nd := [⟨k, s, 0, 0, 0⟩]

theorem kids_app (a b : List Nd) : kids (a ++ b) = kids a ++ kids b := by simp [kids]
theorem kidsOf_shift {x : Nd} {i : Nat} (h : ndP x i) (k : Nat) : kidsOf (shiftN k x) = (kidsOf x).map (· + k) := by
  unfold kidsOf shiftN
  dsimp only
  split
  · rename_i h2
    have ha := (h.a_lt (by omega)).1
    have hb := (h.b_lt (by omega)).1
    rw [if_pos (by omega), if_pos (by omega)]
    simp only [List.map_cons, List.map_nil]
    congr 1
    · omega
    · congr 1; omega
  · split
    · have ha := (h.a_lt (by omega)).1
      rw [if_pos (by omega)]
      simp only [List.map_cons, List.map_nil]
      congr 1
      omega
    · rfl
theorem kids_shift {b : List Nd} (h : NodesOk b) (k : Nat) : kids (b.map (shiftN k)) = (kids b).map (· + k) := by
  unfold kids
  rw [List.flatMap_map, List.map_flatMap]
  have : ∀ x ∈ b, kidsOf (shiftN k x) = (kidsOf x).map (· + k) := fun x hx => by
    obtain ⟨i, hi⟩ := List.mem_iff_getElem?.1 hx
    exact kidsOf_shift (h i x hi) k
  clear h
  induction b with
  | nil => rfl
  | cons x b ih => simp only [List.flatMap_cons]; rw [this x (by simp), ih (fun y hy => this y (by simp [hy]))]

theorem shift_k (k : Nat) (x : Nd) : (shiftN k x).k = x.k := rfl
theorem shift_ndP {x : Nd} {i : Nat} (h : ndP x i) (k : Nat) : ndP (shiftN k x) (i + k) := by
  refine ⟨h.1, h.2.1, ?_, ?_⟩
  · have := h.2.2.1
    show if 0 < arI x.k then 0 ≤ (if 1 ≤ arI x.k then x.a + k else x.a) ∧ (if 1 ≤ arI x.k then x.a + k else x.a) < ((i + k : Nat) : Int) else (if 1 ≤ arI x.k then x.a + k else x.a) = 0
    split
    · rename_i h1
      rw [if_pos h1] at this
      rw [if_pos (by omega)]; omega
    · rename_i h1
      rw [if_neg h1] at this
      rw [if_neg (by omega)]; exact this
  · have := h.2.2.2
    show if 1 < arI x.k then 0 ≤ (if 2 ≤ arI x.k then x.b + k else x.b) ∧ (if 2 ≤ arI x.k then x.b + k else x.b) < ((i + k : Nat) : Int) else (if 2 ≤ arI x.k then x.b + k else x.b) = 0
    split
    · rename_i h1
      rw [if_pos h1] at this
      rw [if_pos (by omega)]; omega
    · rename_i h1
      rw [if_neg h1] at this
      rw [if_neg (by omega)]; exact this

theorem kids_bound {d : List Nd} (hd : NodesOk d) : ∀ j ∈ kids d, j + 1 < d.length := by
  have := kids_lt (d := d) (i := d.length) (fun j x _ hx => hd j x hx)
  rwa [List.take_of_length_le (Nat.le_refl _)] at this

theorem seq_get {a b : List Nd} {i : Nat} {x : Nd} (h : (seqD a b)[i]? = some x) :
    (i < a.length ∧ a[i]? = some x) ∨ (∃ j y, i = a.length + j ∧ b[j]? = some y ∧ x = shiftN a.length y) ∨ (i = a.length + b.length ∧ x = ⟨3, ⟨#[]⟩, 0, (a.length : Int) - 1, (a.length : Int) + b.length - 1⟩) := by
  unfold seqD joinD at h
  by_cases h1 : i < a.length
  · left
    rw [List.append_assoc, List.getElem?_append_left h1] at h
    exact ⟨h1, h⟩
  · right
    rw [List.append_assoc, List.getElem?_append_right (by omega)] at h
    by_cases h2 : i - a.length < b.length
    · left
      rw [List.getElem?_append_left (by simpa using h2), List.getElem?_map, Option.map_eq_some_iff] at h
      obtain ⟨y, hy, rfl⟩ := h
      exact ⟨i - a.length, y, by omega, hy, rfl⟩
    · right
      rw [List.getElem?_append_right (by simp; omega)] at h
      have hlt := (List.getElem?_eq_some_iff.1 h).1
      simp at hlt
      have e : i - a.length - (b.map (shiftN a.length)).length = 0 := by simp; omega
      rw [e] at h
      simp at h
      exact ⟨by omega, h.symm⟩
theorem seq_get1 (a b : List Nd) {i : Nat} {x : Nd} (h : a[i]? = some x) : (seqD a b)[i]? = some x := by
  have := (List.getElem?_eq_some_iff.1 h).1
  unfold seqD joinD
  rw [List.append_assoc, List.getElem?_append_left this]; exact h
theorem seq_get2 (a b : List Nd) {j : Nat} {y : Nd} (h : b[j]? = some y) : (seqD a b)[a.length + j]? = some (shiftN a.length y) := by
  have := (List.getElem?_eq_some_iff.1 h).1
  unfold seqD joinD
  rw [List.append_assoc, List.getElem?_append_right (by omega), show a.length + j - a.length = j by omega, List.getElem?_append_left (by simpa using this), List.getElem?_map, h]; rfl
theorem seq_get3 (a b : List Nd) : (seqD a b)[a.length + b.length]? = some ⟨3, ⟨#[]⟩, 0, (a.length : Int) - 1, (a.length : Int) + b.length - 1⟩ := by
  unfold seqD joinD
  rw [List.append_assoc, List.getElem?_append_right (by omega), List.getElem?_append_right (by simp)]
  simp
theorem seq_len (a b : List Nd) : (seqD a b).length = a.length + b.length + 1 := by simp [seqD, joinD]; omega

theorem seq_ok {a b : List Nd} (ha : NodesOk a) (hb : NodesOk b) (h1 : 0 < a.length) (h2 : 0 < b.length) : NodesOk (seqD a b) := by
  intro i x hx
  rcases seq_get hx with ⟨_, h⟩ | ⟨j, y, rfl, hy, rfl⟩ | ⟨rfl, rfl⟩
  · exact ha i x h
  · have := shift_ndP (hb j y hy) a.length
    rwa [Nat.add_comm] at this
  · refine ⟨by dsimp only; decide, ⟨.inl rfl, by simp [bytesOf], .inl rfl, by dsimp only; decide, by dsimp only; decide⟩, ?_, ?_⟩
    · dsimp only
      rw [if_pos (by decide)]; omega
    · dsimp only
      rw [if_pos (by decide)]; omega

theorem count_shift (l : List Nat) (k i : Nat) : (l.map (· + k)).count (k + i) = l.count i := by
  induction l with
  | nil => rfl
  | cons x l ih =>
    simp only [List.map_cons, List.count_cons, ih]
    congr 1
    by_cases h : x = i
    · subst h; simp [Nat.add_comm]
    · have : ¬ x + k = k + i := by omega
      simp [h, this]
theorem count_shift0 (l : List Nat) (k i : Nat) (h : i < k) : (l.map (· + k)).count i = 0 := by
  rw [List.count_eq_zero]
  intro hm
  simp only [List.mem_map] at hm
  obtain ⟨x, _, hx⟩ := hm
  omega

theorem seq_valid {a b : List Nd} (ha : Valid a) (hb : Valid b) (hl : a.length + b.length + 1 ≤ 65536) : Valid (seqD a b) := by
  have h1 := ha.2.1
  have h2 := hb.2.1
  refine ⟨by rw [seq_len]; exact hl, by rw [seq_len]; omega, seq_ok ha.ok hb.ok h1 h2, ?_⟩
  intro i hi
  rw [seq_len] at hi
  have e : kids (seqD a b) = kids a ++ ((kids b).map (· + a.length) ++ [a.length - 1, a.length + b.length - 1]) := by
    unfold seqD joinD
    rw [kids_app, kids_app, kids_shift hb.ok, List.append_assoc]
    congr 2
    show kids [_] = _
    simp only [kids, List.flatMap_cons, List.flatMap_nil, List.append_nil]
    show (if arI 3 = 2 then _ else _) = _
    rw [if_pos (by decide)]
    congr 1
    · dsimp only; omega
    · congr 1; dsimp only; omega
  rw [e, List.count_append, List.count_append]
  have hka := kids_bound ha.ok
  have hkb := kids_bound hb.ok
  have c0 : ∀ (l : List Nat), i ∉ l → l.count i = 0 := fun l h => List.count_eq_zero.2 h
  by_cases c1 : i + 1 < a.length
  · rw [ha.2.2.2 i c1, count_shift0 _ _ _ (by omega), c0 [_, _] (by simp; omega)]
  · have n1 : i ∉ kids a := fun hm => c1 (hka i hm)
    rw [c0 _ n1]
    by_cases c2 : i < a.length
    · have : i = a.length - 1 := by omega
      rw [count_shift0 _ _ _ c2, this]
      have hne : ¬ (a.length + b.length - 1 = a.length - 1) := by omega
      simp [hne]
    · obtain ⟨j, rfl⟩ : ∃ j, i = a.length + j := ⟨i - a.length, by omega⟩
      rw [count_shift]
      by_cases c3 : j + 1 < b.length
      · rw [hb.2.2.2 j c3, c0 [_, _] (by simp; omega)]
      · have n2 : j ∉ kids b := fun hm => c3 (hkb j hm)
        rw [List.count_eq_zero.2 n2]
        have h3 : j = b.length - 1 := by omega
        have hne : ¬ (a.length - 1 = a.length + j) := by omega
        have he : a.length + b.length - 1 = a.length + j := by omega
        simp [hne, he]

theorem seq_T1 {a b : List Nd} (ha : NodesOk a) (hb : NodesOk b) (h1 : 0 < a.length) (h2 : 0 < b.length) : ∀ (i : Nat), i < a.length → T (seqD a b) i = T a i := by
  intro i
  have hs := seq_ok ha hb h1 h2
  induction i using Nat.strongRecOn with
  | _ i ih =>
    intro hi
    have hx : a[i]? = some a[i] := List.getElem?_eq_getElem hi
    generalize a[i] = x at hx
    have hn := ha i x hx
    have har := arI_of (k := x.k)
    rw [T_eq hs (seq_get1 a b hx), T_eq ha hx]
    split
    · rfl
    split
    · rfl
    split
    · rename_i h3
      have h4 := har.2.2.2.1 h3
      have h5 := (hn.a_lt (by omega)).2
      have h6 := (hn.b_lt (by omega)).2
      rw [ih _ h5 (by omega), ih _ h6 (by omega)]
    split
    · rename_i h3
      have h4 := har.2.2.2.2.1 h3
      have h5 := (hn.a_lt (by omega)).2
      rw [ih _ h5 (by omega)]
    split
    · rename_i h3
      have h4 := har.2.2.2.2.2.1 h3
      have h5 := (hn.a_lt (by omega)).2
      rw [ih _ h5 (by omega)]
    split
    · rename_i h3
      have h4 := har.2.2.2.2.2.2 h3
      have h5 := (hn.a_lt (by omega)).2
      rw [ih _ h5 (by omega)]
    · rfl

theorem seq_T2 {a b : List Nd} (ha : NodesOk a) (hb : NodesOk b) (h1 : 0 < a.length) (h2 : 0 < b.length) : ∀ (i : Nat), i < b.length → T (seqD a b) (a.length + i) = T b i := by
  intro i
  have hs := seq_ok ha hb h1 h2
  induction i using Nat.strongRecOn with
  | _ i ih =>
    intro hi
    have hx : b[i]? = some b[i] := List.getElem?_eq_getElem hi
    generalize b[i] = x at hx
    have hn := hb i x hx
    have har := arI_of (k := x.k)
    have ea : 1 ≤ arI x.k → (shiftN a.length x).a.toNat = a.length + x.a.toNat := fun h => by
      have := (hn.a_lt h).1
      show (if 1 ≤ arI x.k then x.a + (a.length : Int) else x.a).toNat = _
      rw [if_pos h]; omega
    have eb : 2 ≤ arI x.k → (shiftN a.length x).b.toNat = a.length + x.b.toNat := fun h => by
      have := (hn.b_lt h).1
      show (if 2 ≤ arI x.k then x.b + (a.length : Int) else x.b).toNat = _
      rw [if_pos h]; omega
    rw [T_eq hs (seq_get2 a b hx), T_eq hb hx, shift_k]
    split
    · rfl
    split
    · rfl
    split
    · rename_i h3
      have h4 := har.2.2.2.1 h3
      have h5 := (hn.a_lt (by omega)).2
      have h6 := (hn.b_lt (by omega)).2
      rw [ea (by omega), eb (by omega), ih _ h5 (by omega), ih _ h6 (by omega)]
    split
    · rename_i h3
      have h4 := har.2.2.2.2.1 h3
      have h5 := (hn.a_lt (by omega)).2
      rw [ea (by omega), ih _ h5 (by omega)]; rfl
    split
    · rename_i h3
      have h4 := har.2.2.2.2.2.1 h3
      have h5 := (hn.a_lt (by omega)).2
      rw [ea (by omega), ih _ h5 (by omega)]
    split
    · rename_i h3
      have h4 := har.2.2.2.2.2.2 h3
      have h5 := (hn.a_lt (by omega)).2
      rw [ea (by omega), ih _ h5 (by omega)]
    · rfl

theorem seq_has (a b : List Nd) (k : Int) (hk : k ≠ 3) : (∃ x ∈ seqD a b, x.k = k) ↔ (∃ x ∈ a, x.k = k) ∨ (∃ x ∈ b, x.k = k) := by
  unfold seqD joinD
  simp only [List.mem_append, List.mem_map, List.mem_singleton]
  constructor
  · rintro ⟨x, (hx | ⟨y, hy, rfl⟩) | rfl, h⟩
    · exact .inl ⟨x, hx, h⟩
    · exact .inr ⟨y, hy, h⟩
    · exact absurd h.symm hk
  · rintro (⟨x, hx, h⟩ | ⟨x, hx, h⟩)
    · exact ⟨x, .inl (.inl hx), h⟩
    · exact ⟨_, .inl (.inr ⟨x, hx, rfl⟩), h⟩

theorem Rep.seq {a b : List Nd} {s t : Dt} (ha : Rep a s) (hb : Rep b t) (hl : a.length + b.length + 1 ≤ 65536) : Rep (seqD a b) (.seq s t) := by
  have h1 := ha.valid.2.1
  have h2 := hb.valid.2.1
  refine ⟨seq_valid ha.valid hb.valid hl, ?_, ?_, ?_, ?_⟩
  · intro x hx
    unfold seqD joinD at hx
    simp only [List.mem_append, List.mem_map, List.mem_singleton] at hx
    rcases hx with (hx | ⟨y, hy, rfl⟩) | rfl
    · exact ha.txt x hx
    · exact hb.txt y hy
    · exact Nat.zero_le _
  · rw [seq_len, show a.length + b.length + 1 - 1 = a.length + b.length by omega, T_eq (seq_ok ha.valid.ok hb.valid.ok h1 h2) (seq_get3 a b)]
    dsimp only
    rw [if_neg (by decide), if_neg (by decide), if_pos rfl]
    rw [show ((a.length : Int) - 1).toNat = a.length - 1 by omega, show ((a.length : Int) + b.length - 1).toNat = a.length + (b.length - 1) by omega, seq_T1 ha.valid.ok hb.valid.ok h1 h2 _ (by omega), seq_T2 ha.valid.ok hb.valid.ok h1 h2 _ (by omega), ha.tree, hb.tree]
  · rw [seq_has _ _ _ (by decide), ha.hard, hb.hard]; simp [hasHard]
  · rw [seq_has _ _ _ (by decide), ha.align, hb.align]; simp [hasAlign]

theorem wrap_ok {a : List Nd} {k n : Int} (ha : NodesOk a) (h1 : 0 < a.length) (hk : arI k = 1) (hn : (n = 0 ∨ k = 4) ∧ 0 ≤ n ∧ n ≤ 1000) : NodesOk (wrapD k n a) := by
  intro i x hx
  unfold wrapD at hx
  by_cases hi : i < a.length
  · rw [List.getElem?_append_left hi] at hx
    exact ha i x hx
  · rw [List.getElem?_append_right (by omega)] at hx
    have hlt := (List.getElem?_eq_some_iff.1 hx).1
    simp at hlt
    have : i = a.length := by omega
    subst this
    simp at hx
    subst hx
    refine ⟨by dsimp only; omega, ⟨.inl rfl, by simp [bytesOf], hn⟩, ?_, ?_⟩
    · dsimp only; rw [if_pos (by omega)]; omega
    · dsimp only; rw [if_neg (by omega)]

theorem wrap_T {a : List Nd} {k n : Int} (ha : NodesOk a) (h1 : 0 < a.length) (hk : arI k = 1) (hn : (n = 0 ∨ k = 4) ∧ 0 ≤ n ∧ n ≤ 1000) : ∀ (i : Nat), i < a.length → T (wrapD k n a) i = T a i := by
  intro i
  have hs := wrap_ok ha h1 hk hn
  induction i using Nat.strongRecOn with
  | _ i ih =>
    intro hi
    have hx : a[i]? = some a[i] := List.getElem?_eq_getElem hi
    generalize a[i] = x at hx
    have hx' : (wrapD k n a)[i]? = some x := by unfold wrapD; rw [List.getElem?_append_left hi]; exact hx
    have hn := ha i x hx
    have har := arI_of (k := x.k)
    rw [T_eq hs hx', T_eq ha hx]
    split
    · rfl
    split
    · rfl
    split
    · rename_i h3
      have h4 := har.2.2.2.1 h3
      have h5 := (hn.a_lt (by omega)).2
      have h6 := (hn.b_lt (by omega)).2
      rw [ih _ h5 (by omega), ih _ h6 (by omega)]
    split
    · rename_i h3
      have h4 := har.2.2.2.2.1 h3
      have h5 := (hn.a_lt (by omega)).2
      rw [ih _ h5 (by omega)]
    split
    · rename_i h3
      have h4 := har.2.2.2.2.2.1 h3
      have h5 := (hn.a_lt (by omega)).2
      rw [ih _ h5 (by omega)]
    split
    · rename_i h3
      have h4 := har.2.2.2.2.2.2 h3
      have h5 := (hn.a_lt (by omega)).2
      rw [ih _ h5 (by omega)]
    · rfl

theorem wrap_valid {a : List Nd} {k n : Int} (ha : Valid a) (hk : arI k = 1) (hn : (n = 0 ∨ k = 4) ∧ 0 ≤ n ∧ n ≤ 1000) (hl : a.length + 1 ≤ 65536) : Valid (wrapD k n a) := by
  have h1 := ha.2.1
  have hlen : (wrapD k n a).length = a.length + 1 := by simp [wrapD]
  refine ⟨by rw [hlen]; exact hl, by rw [hlen]; omega, wrap_ok ha.ok h1 hk hn, ?_⟩
  intro i hi
  rw [hlen] at hi
  have e : kids (wrapD k n a) = kids a ++ [a.length - 1] := by
    unfold wrapD
    rw [kids_app]
    congr 1
    simp only [kids, List.flatMap_cons, List.flatMap_nil, List.append_nil, kidsOf]
    rw [if_neg (by omega), if_pos hk]
    congr 1
    omega
  rw [e, List.count_append]
  have hka := kids_bound ha.ok
  by_cases c1 : i + 1 < a.length
  · rw [ha.2.2.2 i c1, List.count_eq_zero.2 (by simp; omega)]
  · rw [List.count_eq_zero.2 (fun hm => c1 (hka i hm))]
    have : i = a.length - 1 := by omega
    rw [this]; simp

theorem Rep.wrap {a : List Nd} {s t : Dt} {k n : Int} (ha : Rep a s) (hk : arI k = 1) (hn : (n = 0 ∨ k = 4) ∧ 0 ≤ n ∧ n ≤ 1000) (hl : a.length + 1 ≤ 65536)
    (ht : (if k = 0 then Dt.text [] else if k = 1 then .line [] else if k = 3 then .seq s s else if k = 4 then .nest n.toNat s else if k = 5 then .align s else if k = 6 then .group s else .hard) = t)
    (hh : hasHard t = hasHard s) (hal : hasAlign t = (hasAlign s || decide (k = 5))) : Rep (wrapD k n a) t := by
  have h1 := ha.valid.2.1
  have hlen : (wrapD k n a).length = a.length + 1 := by simp [wrapD]
  have hmem : ∀ m : Int, (∃ x ∈ wrapD k n a, x.k = m) ↔ (∃ x ∈ a, x.k = m) ∨ k = m := fun m => by
    unfold wrapD
    simp only [List.mem_append, List.mem_singleton]
    constructor
    · rintro ⟨x, hx | rfl, h⟩
      · exact .inl ⟨x, hx, h⟩
      · exact .inr h
    · rintro (⟨x, hx, h⟩ | h)
      · exact ⟨x, .inl hx, h⟩
      · exact ⟨_, .inr rfl, h⟩
  refine ⟨wrap_valid ha.valid hk hn hl, ?_, ?_, ?_, ?_⟩
  · intro x hx
    unfold wrapD at hx
    simp only [List.mem_append, List.mem_singleton] at hx
    rcases hx with hx | rfl
    · exact ha.txt x hx
    · exact Nat.zero_le _
  · have hx : (wrapD k n a)[a.length]? = some ⟨k, ⟨#[]⟩, n, (a.length : Int) - 1, 0⟩ := by
      unfold wrapD; rw [List.getElem?_append_right (Nat.le_refl _)]; simp
    rw [hlen, show a.length + 1 - 1 = a.length by omega, T_eq (wrap_ok ha.valid.ok h1 hk hn) hx]
    dsimp only
    have e : T (wrapD k n a) ((a.length : Int) - 1).toNat = s := by
      rw [show ((a.length : Int) - 1).toNat = a.length - 1 by omega, wrap_T ha.valid.ok h1 hk hn _ (by omega), ha.tree]
    have hk3 : k ≠ 3 := fun e => by subst e; exact absurd hk (by decide)
    rw [e, ← ht]
    have hb : bytesOf ⟨#[]⟩ = [] := rfl
    rw [hb, if_neg hk3, if_neg hk3]
  · rw [hmem, hh, ha.hard]
    constructor
    · rintro (h | rfl)
      · exact h
      · exact absurd hk (by decide)
    · exact fun h => .inl h
  · rw [hmem, hal, ha.align]
    simp

theorem leaf_valid {k : Int} {s : ByteArray} (hk : arI k = 0) (h10 : 10 ∉ bytesOf s) (h2 : s = ⟨#[]⟩ ∨ k = 0 ∨ k = 1) : Valid (leafD k s) := by
  refine ⟨by simp [leafD], by simp [leafD], ?_, ?_⟩
  · intro i x hx
    have hlt := (List.getElem?_eq_some_iff.1 hx).1
    have : i = 0 := by simp [leafD] at hlt; exact hlt
    subst this
    simp [leafD] at hx
    subst hx
    refine ⟨by dsimp only; omega, ⟨h2, h10, .inl rfl, by dsimp only; decide, by dsimp only; decide⟩, ?_, ?_⟩
    · dsimp only; rw [if_neg (by omega)]
    · dsimp only; rw [if_neg (by omega)]
  · intro i hi; simp [leafD] at hi

theorem Rep.leaf {k : Int} {s : ByteArray} {t : Dt} (hk : k = 0 ∨ k = 1 ∨ k = 2) (h10 : 10 ∉ bytesOf s) (hs : s.size ≤ 10000) (h2 : s = ⟨#[]⟩ ∨ k = 0 ∨ k = 1) (ht : (if k = 0 then Dt.text (bytesOf s) else if k = 1 then .line (bytesOf s) else .hard) = t) : Rep (leafD k s) t := by
  have hk0 : arI k = 0 := by
    have := arI_of (k := k)
    rcases hk with h | h | h
    · exact this.1 h
    · exact this.2.1 h
    · exact this.2.2.1 h
  have hv := leaf_valid hk0 h10 h2
  refine ⟨hv, ?_, ?_, ?_, ?_⟩
  · intro x hx; simp [leafD] at hx; subst hx; exact hs
  · have hx : (leafD k s)[0]? = some ⟨k, s, 0, 0, 0⟩ := rfl
    show T (leafD k s) 0 = t
    rw [T_eq hv.ok hx, ← ht]
    dsimp only
    split
    · rfl
    split
    · rfl
    · rw [if_neg (by omega), if_neg (by omega), if_neg (by omega), if_neg (by omega)]
  · rw [← ht]
    rcases hk with rfl | rfl | rfl <;> simp [leafD, hasHard]
  · rw [← ht]
    rcases hk with rfl | rfl | rfl <;> simp [leafD, hasAlign]
end Go.Proofs.Ytbkadgdhmfolaaa
