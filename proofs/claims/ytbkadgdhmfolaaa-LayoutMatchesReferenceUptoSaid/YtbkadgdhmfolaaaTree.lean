/-
  Documents as trees: the tree below a node, its groups in preorder; each node of a valid document lies below another at most once.
  Conditions: none.
-/
import Derived.Test.YtbkadgdhmfolaaaDoc3
namespace Go.Proofs.Ytbkadgdhmfolaaa
open Go Go.RowKit

inductive Dt where
  | text (s : List Nat)
  | line (s : List Nat)
  | hard
  | seq (a b : Dt)
  | nest (n : Nat) (a : Dt)
  | align (a : Dt)
  | group (a : Dt)

def tre (d : List Nd) : Nat → Nat → Dt
  | 0, _ => .hard
  | f + 1, i => match d[i]? with
    | none => .hard
    | some x => if x.k = 0 then .text (bytesOf x.t) else if x.k = 1 then .line (bytesOf x.t) else if x.k = 3 then .seq (tre d f x.a.toNat) (tre d f x.b.toNat)
      else if x.k = 4 then .nest x.n.toNat (tre d f x.a.toNat) else if x.k = 5 then .align (tre d f x.a.toNat) else if x.k = 6 then .group (tre d f x.a.toNat) else .hard

def ids (d : List Nd) : Nat → Nat → List Nat
  | 0, _ => []
  | f + 1, i => match d[i]? with
    | none => []
    | some x => (if x.k = 6 then [i] else []) ++ (if 1 ≤ arI x.k then ids d f x.a.toNat else []) ++ (if 2 ≤ arI x.k then ids d f x.b.toNat else [])

def nds (d : List Nd) : Nat → Nat → List Nat
  | 0, _ => []
  | f + 1, i => match d[i]? with
    | none => []
    | some x => i :: ((if 1 ≤ arI x.k then nds d f x.a.toNat else []) ++ (if 2 ≤ arI x.k then nds d f x.b.toNat else []))

def NodesOk (d : List Nd) : Prop := ∀ i x, d[i]? = some x → ndP x i
theorem Valid.ok {d : List Nd} (h : Valid d) : NodesOk d := h.2.2.1

theorem ndP.a_lt {x : Nd} {i : Nat} (h : ndP x i) (k : 1 ≤ arI x.k) : 0 ≤ x.a ∧ x.a.toNat < i := by
  have := h.2.2.1; rw [if_pos (by omega)] at this; omega
theorem ndP.b_lt {x : Nd} {i : Nat} (h : ndP x i) (k : 2 ≤ arI x.k) : 0 ≤ x.b ∧ x.b.toNat < i := by
  have := h.2.2.2; rw [if_pos (by omega)] at this; omega
theorem arI_of {k : Int} : (k = 0 → arI k = 0) ∧ (k = 1 → arI k = 0) ∧ (k = 2 → arI k = 0) ∧ (k = 3 → arI k = 2) ∧ (k = 4 → arI k = 1) ∧ (k = 5 → arI k = 1) ∧ (k = 6 → arI k = 1) := by
  refine ⟨?_, ?_, ?_, ?_, ?_, ?_, ?_⟩ <;> (rintro rfl; rfl)
theorem arI_kind {k : Int} (h : 0 ≤ arI k) : k = 0 ∨ k = 1 ∨ k = 2 ∨ k = 3 ∨ k = 4 ∨ k = 5 ∨ k = 6 := by
  unfold arI at h
  split at h
  · omega
  · split at h
    · omega
    · split at h <;> omega

section
variable {d : List Nd} (hd : NodesOk d)
include hd

theorem tre_fuel : ∀ (f g i : Nat), i < f → i < g → tre d f i = tre d g i := by
  intro f
  induction f with
  | zero => intro g i h; omega
  | succ f ih =>
    intro g i h1 h2
    cases g with
    | zero => omega
    | succ g =>
      unfold tre
      cases hx : d[i]? with
      | none => rfl
      | some x =>
        have hn := hd i x hx
        simp only
        have ha := arI_of (k := x.k)
        split
        · rfl
        split
        · rfl
        split
        · rename_i h3
          have h4 := ha.2.2.2.1 h3
          rw [ih g _ (by have := (hn.a_lt (by omega)).2; omega) (by have := (hn.a_lt (by omega)).2; omega), ih g _ (by have := (hn.b_lt (by omega)).2; omega) (by have := (hn.b_lt (by omega)).2; omega)]
        split
        · rename_i h3
          have h4 := ha.2.2.2.2.1 h3
          rw [ih g _ (by have := (hn.a_lt (by omega)).2; omega) (by have := (hn.a_lt (by omega)).2; omega)]
        split
        · rename_i h3
          have h4 := ha.2.2.2.2.2.1 h3
          rw [ih g _ (by have := (hn.a_lt (by omega)).2; omega) (by have := (hn.a_lt (by omega)).2; omega)]
        split
        · rename_i h3
          have h4 := ha.2.2.2.2.2.2 h3
          rw [ih g _ (by have := (hn.a_lt (by omega)).2; omega) (by have := (hn.a_lt (by omega)).2; omega)]
        · rfl

theorem ids_fuel : ∀ (f g i : Nat), i < f → i < g → ids d f i = ids d g i := by
  intro f
  induction f with
  | zero => intro g i h; omega
  | succ f ih =>
    intro g i h1 h2
    cases g with
    | zero => omega
    | succ g =>
      unfold ids
      cases hx : d[i]? with
      | none => rfl
      | some x =>
        have hn := hd i x hx
        simp only
        by_cases h3 : 1 ≤ arI x.k
        · rw [if_pos h3, if_pos h3, ih g _ (by have := (hn.a_lt h3).2; omega) (by have := (hn.a_lt h3).2; omega)]
          by_cases h4 : 2 ≤ arI x.k
          · rw [if_pos h4, if_pos h4, ih g _ (by have := (hn.b_lt h4).2; omega) (by have := (hn.b_lt h4).2; omega)]
          · rw [if_neg h4, if_neg h4]
        · have h4 : ¬ 2 ≤ arI x.k := by omega
          simp [h3, h4]

theorem nds_fuel : ∀ (f g i : Nat), i < f → i < g → nds d f i = nds d g i := by
  intro f
  induction f with
  | zero => intro g i h; omega
  | succ f ih =>
    intro g i h1 h2
    cases g with
    | zero => omega
    | succ g =>
      unfold nds
      cases hx : d[i]? with
      | none => rfl
      | some x =>
        have hn := hd i x hx
        simp only
        by_cases h3 : 1 ≤ arI x.k
        · rw [if_pos h3, if_pos h3, ih g _ (by have := (hn.a_lt h3).2; omega) (by have := (hn.a_lt h3).2; omega)]
          by_cases h4 : 2 ≤ arI x.k
          · rw [if_pos h4, if_pos h4, ih g _ (by have := (hn.b_lt h4).2; omega) (by have := (hn.b_lt h4).2; omega)]
          · rw [if_neg h4, if_neg h4]
        · have h4 : ¬ 2 ≤ arI x.k := by omega
          simp [h3, h4]
end

def T (d : List Nd) (i : Nat) : Dt := tre d (i + 1) i
def G (d : List Nd) (i : Nat) : List Nat := ids d (i + 1) i
def N (d : List Nd) (i : Nat) : List Nat := nds d (i + 1) i

section
variable {d : List Nd} (hd : NodesOk d) {i : Nat} {x : Nd} (hx : d[i]? = some x)
include hd hx

theorem T_eq : T d i = if x.k = 0 then .text (bytesOf x.t) else if x.k = 1 then .line (bytesOf x.t) else if x.k = 3 then .seq (T d x.a.toNat) (T d x.b.toNat)
      else if x.k = 4 then .nest x.n.toNat (T d x.a.toNat) else if x.k = 5 then .align (T d x.a.toNat) else if x.k = 6 then .group (T d x.a.toNat) else .hard := by
  have hn := hd i x hx
  have ha := arI_of (k := x.k)
  unfold T
  conv => lhs; unfold tre
  simp only [hx]
  split
  · rfl
  split
  · rfl
  split
  · rename_i h3
    have h4 := ha.2.2.2.1 h3
    rw [tre_fuel hd i (x.a.toNat + 1) _ (hn.a_lt (by omega)).2 (by omega), tre_fuel hd i (x.b.toNat + 1) _ (hn.b_lt (by omega)).2 (by omega)]
  split
  · rename_i h3
    have h4 := ha.2.2.2.2.1 h3
    rw [tre_fuel hd i (x.a.toNat + 1) _ (hn.a_lt (by omega)).2 (by omega)]
  split
  · rename_i h3
    have h4 := ha.2.2.2.2.2.1 h3
    rw [tre_fuel hd i (x.a.toNat + 1) _ (hn.a_lt (by omega)).2 (by omega)]
  split
  · rename_i h3
    have h4 := ha.2.2.2.2.2.2 h3
    rw [tre_fuel hd i (x.a.toNat + 1) _ (hn.a_lt (by omega)).2 (by omega)]
  · rfl

theorem G_eq : G d i = (if x.k = 6 then [i] else []) ++ (if 1 ≤ arI x.k then G d x.a.toNat else []) ++ (if 2 ≤ arI x.k then G d x.b.toNat else []) := by
  have hn := hd i x hx
  unfold G
  conv => lhs; unfold ids
  simp only [hx]
  by_cases h3 : 1 ≤ arI x.k
  · rw [if_pos h3, if_pos h3, ids_fuel hd i (x.a.toNat + 1) _ (hn.a_lt h3).2 (by omega)]
    by_cases h4 : 2 ≤ arI x.k
    · rw [if_pos h4, if_pos h4, ids_fuel hd i (x.b.toNat + 1) _ (hn.b_lt h4).2 (by omega)]
    · rw [if_neg h4, if_neg h4]
  · have h4 : ¬ 2 ≤ arI x.k := by omega
    simp [h3, h4]

theorem N_eq : N d i = i :: ((if 1 ≤ arI x.k then N d x.a.toNat else []) ++ (if 2 ≤ arI x.k then N d x.b.toNat else [])) := by
  have hn := hd i x hx
  unfold N
  conv => lhs; unfold nds
  simp only [hx]
  by_cases h3 : 1 ≤ arI x.k
  · rw [if_pos h3, if_pos h3, nds_fuel hd i (x.a.toNat + 1) _ (hn.a_lt h3).2 (by omega)]
    by_cases h4 : 2 ≤ arI x.k
    · rw [if_pos h4, if_pos h4, nds_fuel hd i (x.b.toNat + 1) _ (hn.b_lt h4).2 (by omega)]
    · rw [if_neg h4, if_neg h4]
  · have h4 : ¬ 2 ≤ arI x.k := by omega
    simp [h3, h4]
end

theorem mem_kids {d : List Nd} {k : Nat} : k ∈ kids d ↔ ∃ (p : Nat) (x : Nd), d[p]? = some x ∧ k ∈ kidsOf x := by
  simp only [kids, List.mem_flatMap]
  constructor
  · rintro ⟨x, hx, hk⟩
    obtain ⟨p, hp⟩ := List.mem_iff_getElem?.1 hx
    exact ⟨p, x, hp, hk⟩
  · rintro ⟨p, x, hp, hk⟩
    exact ⟨x, List.mem_of_getElem? hp, hk⟩

theorem mem_kidsOf {x : Nd} {k : Nat} : k ∈ kidsOf x ↔ (1 ≤ arI x.k ∧ k = x.a.toNat) ∨ (2 ≤ arI x.k ∧ k = x.b.toNat) := by
  have := arI_le x.k
  unfold kidsOf
  split
  · rename_i h; simp [h]
  · split
    · rename_i h; simp [h]
    · rename_i h1 h2
      have : ¬ 1 ≤ arI x.k := by omega
      have : ¬ 2 ≤ arI x.k := by omega
      simp [*]

theorem parent_unique {d : List Nd} (hv : Valid d) {p q k : Nat} {x y : Nd} (hp : d[p]? = some x) (hq : d[q]? = some y) (hk : k ∈ kidsOf x) (hk' : k ∈ kidsOf y) : p = q := by
  have key : ∀ (p q : Nat) (x y : Nd), d[p]? = some x → d[q]? = some y → k ∈ kidsOf x → k ∈ kidsOf y → ¬ p < q := by
    intro p q x y hp hq hk hk' hlt
    have hkl := kidsOf_lt (hv.2.2.1 p x hp) k hk
    have hpl := (List.getElem?_eq_some_iff.1 hp).1
    have hql := (List.getElem?_eq_some_iff.1 hq).1
    have hc := hv.2.2.2 k (by omega)
    have hs : kids d = kids (d.take q) ++ kids (d.drop q) := by
      unfold kids; rw [← List.flatMap_append, List.take_append_drop]
    rw [hs, List.count_append] at hc
    have h1 : k ∈ kids (d.take q) := mem_kids.2 ⟨p, x, by rw [List.getElem?_take, if_pos hlt]; exact hp, hk⟩
    have h2 : k ∈ kids (d.drop q) := mem_kids.2 ⟨0, y, by rw [List.getElem?_drop]; exact hq, hk'⟩
    have := List.count_pos_iff.2 h1
    have := List.count_pos_iff.2 h2
    omega
  have := key p q x y hp hq hk hk'
  have := key q p y x hq hp hk' hk
  omega

section
variable {d : List Nd} (hv : Valid d)
include hv

theorem N_le : ∀ (i : Nat) (k : Nat), k ∈ N d i → k ≤ i := by
  intro i
  induction i using Nat.strongRecOn with
  | _ i ih =>
    intro k hk
    cases hx : d[i]? with
    | none => simp [N, nds, hx] at hk
    | some x =>
      have hn := hv.ok i x hx
      rw [N_eq hv.ok hx, List.mem_cons, List.mem_append] at hk
      rcases hk with rfl | hk | hk
      · exact Nat.le_refl _
      · split at hk
        · rename_i h
          have h1 := (hn.a_lt h).2
          have := ih _ h1 k hk
          omega
        · cases hk
      · split at hk
        · rename_i h
          have h1 := (hn.b_lt h).2
          have := ih _ h1 k hk
          omega
        · cases hk

theorem N_parent : ∀ (i k : Nat), k ∈ N d i → k ≠ i → ∃ (p : Nat) (x : Nd), d[p]? = some x ∧ k ∈ kidsOf x ∧ p ∈ N d i := by
  intro i
  induction i using Nat.strongRecOn with
  | _ i ih =>
    intro k hk hki
    cases hx : d[i]? with
    | none => simp [N, nds, hx] at hk
    | some x =>
      have hn := hv.ok i x hx
      rw [N_eq hv.ok hx] at hk ⊢
      rw [List.mem_cons, List.mem_append] at hk
      rcases hk with rfl | hk | hk
      · exact absurd rfl hki
      · split at hk
        · rename_i h
          have h1 := (hn.a_lt h).2
          by_cases hka : k = x.a.toNat
          · exact ⟨i, x, hx, mem_kidsOf.2 (.inl ⟨h, hka⟩), by simp⟩
          · obtain ⟨p, y, h2, h3, h4⟩ := ih _ h1 k hk hka
            exact ⟨p, y, h2, h3, by simp [h, h4]⟩
        · cases hk
      · split at hk
        · rename_i h
          have h1 := (hn.b_lt h).2
          by_cases hka : k = x.b.toNat
          · exact ⟨i, x, hx, mem_kidsOf.2 (.inr ⟨h, hka⟩), by simp⟩
          · obtain ⟨p, y, h2, h3, h4⟩ := ih _ h1 k hk hka
            exact ⟨p, y, h2, h3, by simp [h, h4]⟩
        · cases hk

theorem N_apart {i : Nat} {x : Nd} (hx : d[i]? = some x) (h2 : 2 ≤ arI x.k) : ∀ (m k : Nat), i - k = m → k ∈ N d x.a.toNat → k ∈ N d x.b.toNat → False := by
  have hn := hv.ok i x hx
  have ha := (hn.a_lt (by omega)).2
  have hb := (hn.b_lt h2).2
  have hil := (List.getElem?_eq_some_iff.1 hx).1
  have hab : x.a.toNat ≠ x.b.toNat := fun e => by
    have hc := hv.2.2.2 x.a.toNat (by omega)
    have hs : kids d = kids (d.take i) ++ (kidsOf x ++ kids (d.drop (i + 1))) := by
      unfold kids
      rw [← List.flatMap_cons, ← List.flatMap_append]
      congr 1
      have : d.drop i = x :: d.drop (i + 1) := by
        rw [List.drop_eq_getElem_cons hil]; congr 1
        exact (List.getElem?_eq_some_iff.1 hx).2
      rw [← this, List.take_append_drop]
    have hk : kidsOf x = [x.a.toNat, x.b.toNat] := by
      unfold kidsOf; rw [if_pos (by have := arI_le x.k; omega)]
    rw [hs, hk, List.count_append, List.count_append, ← e] at hc
    simp at hc
    omega
  intro m
  induction m using Nat.strongRecOn with
  | _ m ih =>
    intro k hm h3 h4
    have h5 := N_le hv _ _ h3
    have h6 := N_le hv _ _ h4
    by_cases hka : k = x.a.toNat
    · obtain ⟨p, y, hp, hk, hpn⟩ := N_parent hv _ _ h4 (by omega)
      have := parent_unique hv hp hx hk (mem_kidsOf.2 (.inl ⟨by omega, hka⟩))
      have := N_le hv _ _ hpn
      omega
    · by_cases hkb : k = x.b.toNat
      · obtain ⟨p, y, hp, hk, hpn⟩ := N_parent hv _ _ h3 (by omega)
        have := parent_unique hv hp hx hk (mem_kidsOf.2 (.inr ⟨by omega, hkb⟩))
        have := N_le hv _ _ hpn
        omega
      · obtain ⟨p, y, hp, hk, hpn⟩ := N_parent hv _ _ h3 hka
        obtain ⟨q, z, hq, hk2, hqn⟩ := N_parent hv _ _ h4 hkb
        have hpq := parent_unique hv hp hq hk hk2
        subst hpq
        have hlt := kidsOf_lt (hv.ok p y hp) k hk
        have := N_le hv _ _ hpn
        exact ih (i - p) (by omega) p rfl hpn hqn

theorem N_nodup : ∀ (i : Nat), (N d i).Nodup := by
  intro i
  induction i using Nat.strongRecOn with
  | _ i ih =>
    cases hx : d[i]? with
    | none => simp [N, nds, hx]
    | some x =>
      have hn := hv.ok i x hx
      rw [N_eq hv.ok hx, List.nodup_cons]
      refine ⟨fun hm => ?_, ?_⟩
      · rw [List.mem_append] at hm
        rcases hm with hm | hm
        · split at hm
          · rename_i h
            have := N_le hv _ _ hm
            have := (hn.a_lt h).2
            omega
          · cases hm
        · split at hm
          · rename_i h
            have := N_le hv _ _ hm
            have := (hn.b_lt h).2
            omega
          · cases hm
      · rw [List.nodup_append]
        refine ⟨?_, ?_, ?_⟩
        · split
          · rename_i h; exact ih _ (hn.a_lt h).2
          · simp
        · split
          · rename_i h; exact ih _ (hn.b_lt h).2
          · simp
        · intro u hu v hv' e
          subst e
          split at hv'
          · rename_i h
            rw [if_pos (by omega)] at hu
            exact N_apart hv hx h _ u rfl hu hv'
          · cases hv'

omit hv in
theorem G_sub (hd : NodesOk d) : ∀ (i : Nat), (G d i).Sublist (N d i) := by
  intro i
  induction i using Nat.strongRecOn with
  | _ i ih =>
    cases hx : d[i]? with
    | none => simp [N, nds, G, ids, hx]
    | some x =>
      have hn := hd i x hx
      rw [N_eq hd hx, G_eq hd hx]
      have h1 : (if 1 ≤ arI x.k then G d x.a.toNat else []).Sublist (if 1 ≤ arI x.k then N d x.a.toNat else []) := by
        split
        · rename_i h; exact ih _ (hn.a_lt h).2
        · exact List.Sublist.refl _
      have h2 : (if 2 ≤ arI x.k then G d x.b.toNat else []).Sublist (if 2 ≤ arI x.k then N d x.b.toNat else []) := by
        split
        · rename_i h; exact ih _ (hn.b_lt h).2
        · exact List.Sublist.refl _
      rw [List.append_assoc]
      split
      · exact (h1.append h2).cons_cons i
      · exact (h1.append h2).cons i

omit hv in
theorem nodup_len : ∀ (n : Nat) (l : List Nat), l.Nodup → (∀ x ∈ l, x < n) → l.length ≤ n
  | 0, [], _, _ => by simp
  | 0, x :: l, _, h => absurd (h x (by simp)) (by omega)
  | n + 1, l, hn, h => by
    by_cases hm : n ∈ l
    · have h1 := List.length_erase_of_mem hm
      have h2 := nodup_len n (l.erase n) (hn.erase n) (fun x hx => by
        have h3 := h x (List.mem_of_mem_erase hx)
        have h4 : x ≠ n := fun e => by subst e; exact (List.Nodup.not_mem_erase hn) hx
        omega)
      have h3 : 0 < l.length := List.length_pos_of_mem hm
      omega
    · have := nodup_len n l hn (fun x hx => by
        have h3 := h x hx
        have h4 : x ≠ n := fun e => by subst e; exact hm hx
        omega)
      omega

theorem G_nodup (i : Nat) : (G d i).Nodup := (G_sub hv.ok i).nodup (N_nodup hv i)
theorem G_le (i : Nat) : ∀ k ∈ G d i, k ≤ i := fun k hk => N_le hv i k ((G_sub hv.ok i).subset hk)
theorem G_len (i : Nat) : (G d i).length ≤ i + 1 := nodup_len (i + 1) _ (G_nodup hv i) (fun k hk => by have := G_le hv i k hk; omega)
end
end Go.Proofs.Ytbkadgdhmfolaaa
