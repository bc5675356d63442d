/-
  The order of results; keeping the least.
  Conditions: none.
-/
import Derived.Test.YtbkadgdhmfolaaaLq1
namespace Go.Proofs.Ytbkadgdhmfolaaa
open Go Go.RowKit

theorem lessC_nil_r (x : List Bool) : lessC x [] = false := by cases x <;> rfl
theorem lessC_nil_l (b : Bool) (y : List Bool) : lessC [] (b :: y) = true := rfl
theorem lessC_cons (a b : Bool) (x y : List Bool) : lessC (a :: x) (b :: y) = if a = b then lessC x y else a := by
  unfold lessC strOf chB
  cases a <;> cases b <;> simp [Op.bytesLess]
def leC (x y : List Bool) : Prop := lessC y x = false
theorem leC_cons (a b : Bool) (x y : List Bool) : leC (a :: x) (b :: y) ↔ (a = b ∧ leC x y) ∨ (a = true ∧ b = false) := by
  unfold leC
  rw [lessC_cons]
  cases a <;> cases b <;> simp
theorem leC_refl : ∀ x, leC x x
  | [] => rfl
  | a :: x => (leC_cons a a x x).2 (.inl ⟨rfl, leC_refl x⟩)
theorem leC_trans : ∀ x y z, leC x y → leC y z → leC x z
  | [], y, [], _, _ => rfl
  | [], y, c :: z, _, _ => by unfold leC; exact lessC_nil_r _
  | a :: x, [], z, h, _ => by unfold leC at h; rw [lessC_nil_l] at h; cases h
  | a :: x, b :: y, [], _, h => by unfold leC at h; rw [lessC_nil_l] at h; cases h
  | a :: x, b :: y, c :: z, h1, h2 => by
    rw [leC_cons] at h1 h2 ⊢
    rcases h1 with ⟨rfl, h1⟩ | ⟨rfl, rfl⟩
    · rcases h2 with ⟨rfl, h2⟩ | ⟨rfl, rfl⟩
      · exact .inl ⟨rfl, leC_trans x y z h1 h2⟩
      · exact .inr ⟨rfl, rfl⟩
    · rcases h2 with ⟨rfl, h2⟩ | ⟨h, _⟩
      · exact .inr ⟨rfl, rfl⟩
      · cases h
theorem leC_total : ∀ x y, leC x y ∨ leC y x
  | [], y => .inl (by unfold leC; exact lessC_nil_r _)
  | a :: x, [] => .inr (by unfold leC; exact lessC_nil_r _)
  | a :: x, b :: y => by
    rw [leC_cons, leC_cons]
    have := leC_total x y
    cases a <;> cases b <;> simp <;> exact this
theorem leC_anti : ∀ x y, leC x y → leC y x → x = y
  | [], [], _, _ => rfl
  | [], b :: y, _, h => by unfold leC at h; rw [lessC_nil_l] at h; cases h
  | a :: x, [], h, _ => by unfold leC at h; rw [lessC_nil_l] at h; cases h
  | a :: x, b :: y, h1, h2 => by
    rw [leC_cons] at h1 h2
    rcases h1 with ⟨rfl, h1⟩ | ⟨rfl, rfl⟩
    · rcases h2 with ⟨_, h2⟩ | ⟨h, h'⟩
      · rw [leC_anti x y h1 h2]
      · rw [h] at h'; cases h'
    · rcases h2 with ⟨h, _⟩ | ⟨h, _⟩ <;> cases h
theorem leC_app : ∀ (x x' y y' : List Bool), x.length = x'.length → leC x x' → leC y y' → leC (x ++ y) (x' ++ y')
  | [], [], y, y', _, _, h => h
  | [], _ :: _, _, _, h, _, _ => by simp at h
  | _ :: _, [], _, _, h, _, _ => by simp at h
  | a :: x, b :: x', y, y', hl, h1, h2 => by
    rw [List.cons_append, List.cons_append, leC_cons]
    rw [leC_cons] at h1
    rcases h1 with ⟨rfl, h1⟩ | h1
    · exact .inl ⟨rfl, leC_app x x' y y' (by simpa using hl) h1 h2⟩
    · exact .inr h1

def leR (r s : Rs) : Prop := lessR s r = false
theorem leR_iff (r s : Rs) : leR r s ↔ r.b < s.b ∨ (r.b = s.b ∧ (r.l < s.l ∨ (r.l = s.l ∧ leC r.c s.c))) := by
  unfold leR lessR leC
  by_cases h1 : s.b = r.b
  · rw [if_neg (by omega)]
    by_cases h2 : s.l = r.l
    · rw [if_neg (by omega)]
      simp [h1, h2]
    · rw [if_pos h2]
      simp [h1]; omega
  · rw [if_pos h1]
    simp; omega
theorem leR_refl (r : Rs) : leR r r := (leR_iff r r).2 (.inr ⟨rfl, .inr ⟨rfl, leC_refl _⟩⟩)
theorem leR_trans {r s t : Rs} (h : leR r s) (k : leR s t) : leR r t := by
  rw [leR_iff] at *
  rcases h with h | ⟨h, h2 | ⟨h2, h3⟩⟩ <;> rcases k with k | ⟨k, k2 | ⟨k2, k3⟩⟩
  · left; omega
  · left; omega
  · left; omega
  · left; omega
  · right; exact ⟨by omega, .inl (by omega)⟩
  · right; exact ⟨by omega, .inl (by omega)⟩
  · left; omega
  · right; exact ⟨by omega, .inl (by omega)⟩
  · right; exact ⟨by omega, .inr ⟨by omega, leC_trans _ _ _ h3 k3⟩⟩
theorem leR_total (r s : Rs) : leR r s ∨ leR s r := by
  rw [leR_iff, leR_iff]
  rcases Nat.lt_trichotomy r.b s.b with h | h | h
  · exact .inl (.inl h)
  · rcases Nat.lt_trichotomy r.l s.l with k | k | k
    · exact .inl (.inr ⟨h, .inl k⟩)
    · rcases leC_total r.c s.c with j | j
      · exact .inl (.inr ⟨h, .inr ⟨k, j⟩⟩)
      · exact .inr (.inr ⟨h.symm, .inr ⟨k.symm, j⟩⟩)
    · exact .inr (.inr ⟨h.symm, .inl k⟩)
  · exact .inr (.inl h)
theorem leR_anti {r s : Rs} (h : leR r s) (k : leR s r) : r = s := by
  rw [leR_iff] at *
  obtain ⟨b, l, c⟩ := r
  obtain ⟨b', l', c'⟩ := s
  dsimp only at h k
  have hb : b = b' := by omega
  have hl : l = l' := by omega
  subst hb hl
  rw [leC_anti c c' (by rcases h with h | ⟨_, h | ⟨_, h⟩⟩ <;> first | omega | exact h) (by rcases k with h | ⟨_, h | ⟨_, h⟩⟩ <;> first | omega | exact h)]
theorem lessR_le {r s : Rs} (h : lessR r s = true) : leR r s := by
  rcases leR_total r s with k | k
  · exact k
  · unfold leR at k; rw [h] at k; cases k
def addR (r s : Rs) : Rs := ⟨r.b + s.b, r.l + s.l, r.c ++ s.c⟩
theorem addR_le {r r' s s' : Rs} (hl : r.c.length = r'.c.length) (h : leR r r') (k : leR s s') : leR (addR r s) (addR r' s') := by
  rw [leR_iff] at *
  simp only [addR]
  rcases h with h | ⟨h, h2 | ⟨h2, h3⟩⟩ <;> rcases k with k | ⟨k, k2 | ⟨k2, k3⟩⟩
  · left; omega
  · left; omega
  · left; omega
  · left; omega
  · right; exact ⟨by omega, .inl (by omega)⟩
  · right; exact ⟨by omega, .inl (by omega)⟩
  · left; omega
  · right; exact ⟨by omega, .inl (by omega)⟩
  · right; exact ⟨by omega, .inr ⟨by omega, leC_app _ _ _ _ hl h3 k3⟩⟩

section
variable {α : Type} [DecidableEq α]
theorem getM_mem {a : α} {r : Rs} : ∀ {m : List (α × Rs)}, getM a m = some r → (a, r) ∈ m
  | [], h => by simp [getM] at h
  | (b, x) :: m, h => by
    simp only [getM] at h
    split at h
    · rename_i hab; subst hab; simp at h; subst h; simp
    · exact List.mem_cons_of_mem _ (getM_mem h)
theorem getM_none {a : α} : ∀ {m : List (α × Rs)}, getM a m = none → a ∉ m.map (·.1)
  | [], _ => by simp
  | (b, x) :: m, h => by
    simp only [getM] at h
    split at h
    · cases h
    · rename_i hab
      simp only [List.map_cons, List.mem_cons, not_or]
      exact ⟨hab, getM_none h⟩
theorem mem_getM {a : α} {r : Rs} : ∀ {m : List (α × Rs)}, (m.map (·.1)).Nodup → (a, r) ∈ m → getM a m = some r
  | [], _, h => by simp at h
  | (b, x) :: m, hn, h => by
    simp only [List.map_cons, List.nodup_cons] at hn
    simp only [getM]
    rcases List.mem_cons.1 h with h | h
    · cases h; rw [if_pos rfl]
    · have : a ≠ b := fun e => hn.1 (by rw [← e]; exact List.mem_map.2 ⟨_, h, rfl⟩)
      rw [if_neg this]
      exact mem_getM hn.2 h
theorem putM_keys_new {a : α} {r : Rs} : ∀ {m : List (α × Rs)}, getM a m = none → putM a r m = m ++ [(a, r)]
  | [], _ => rfl
  | (b, x) :: m, h => by
    simp only [getM] at h
    split at h
    · cases h
    · rename_i hab
      simp only [putM, if_neg hab, putM_keys_new h, List.cons_append]
theorem putM_keys_old {a : α} {r o : Rs} : ∀ {m : List (α × Rs)}, getM a m = some o → (putM a r m).map (·.1) = m.map (·.1)
  | [], h => by simp [getM] at h
  | (b, x) :: m, h => by
    simp only [getM] at h
    simp only [putM]
    split
    · rfl
    · rename_i hab
      rw [if_neg hab] at h
      simp only [List.map_cons, putM_keys_old h]
theorem mem_putM {a b : α} {r x : Rs} : ∀ {m : List (α × Rs)}, (b, x) ∈ putM a r m → (b = a ∧ x = r) ∨ (b, x) ∈ m
  | [], h => by simp [putM] at h; exact .inl h
  | (c, y) :: m, h => by
    simp only [putM] at h
    split at h
    · rename_i hab
      subst hab
      rcases List.mem_cons.1 h with h | h
      · cases h; exact .inl ⟨rfl, rfl⟩
      · exact .inr (List.mem_cons_of_mem _ h)
    · rcases List.mem_cons.1 h with h | h
      · cases h; exact .inr (by simp)
      · rcases mem_putM h with h | h
        · exact .inl h
        · exact .inr (List.mem_cons_of_mem _ h)
theorem putM_mem {a : α} {r : Rs} : ∀ (m : List (α × Rs)), (a, r) ∈ putM a r m
  | [] => by simp [putM]
  | (c, y) :: m => by
    simp only [putM]
    split
    · rename_i hab; subst hab; simp
    · exact List.mem_cons_of_mem _ (putM_mem m)
theorem putM_other {a b : α} {r x : Rs} (h : b ≠ a) : ∀ {m : List (α × Rs)}, (b, x) ∈ m → (b, x) ∈ putM a r m
  | [], hm => by simp at hm
  | (c, y) :: m, hm => by
    simp only [putM]
    rcases List.mem_cons.1 hm with hm | hm
    · cases hm
      rw [if_neg (fun e => h e.symm)]; simp
    · split
      · exact List.mem_cons_of_mem _ hm
      · exact List.mem_cons_of_mem _ (putM_other h hm)

theorem kpM_nodup {a : α} {r : Rs} {m : List (α × Rs)} (h : (m.map (·.1)).Nodup) : ((kpM a r m).map (·.1)).Nodup := by
  unfold kpM
  cases hg : getM a m with
  | none =>
    dsimp only
    rw [putM_keys_new hg, List.map_append, List.nodup_append]
    refine ⟨h, by simp, fun x hx y hy e => ?_⟩
    simp at hy
    exact getM_none hg (by rw [← hy, ← e]; exact hx)
  | some o =>
    dsimp only
    split
    · rw [putM_keys_old hg]; exact h
    · exact h
theorem kpM_sub {a b : α} {r x : Rs} {m : List (α × Rs)} (h : (b, x) ∈ kpM a r m) : (b = a ∧ x = r) ∨ (b, x) ∈ m := by
  unfold kpM at h
  split at h
  · exact mem_putM h
  · split at h
    · exact mem_putM h
    · exact .inr h
theorem kpM_new {a : α} {r : Rs} (m : List (α × Rs)) : ∃ x, (a, x) ∈ kpM a r m ∧ leR x r := by
  unfold kpM
  split
  · exact ⟨r, putM_mem m, leR_refl r⟩
  · rename_i o hg
    split
    · exact ⟨r, putM_mem m, leR_refl r⟩
    · rename_i hl
      exact ⟨o, getM_mem hg, by unfold leR; simpa using hl⟩
theorem kpM_old {a b : α} {r y : Rs} {m : List (α × Rs)} (hn : (m.map (·.1)).Nodup) (h : (b, y) ∈ m) : ∃ x, (b, x) ∈ kpM a r m ∧ leR x y := by
  by_cases hab : b = a
  · subst hab
    have hg := mem_getM hn h
    unfold kpM
    rw [hg]
    dsimp only
    split
    · rename_i hl; exact ⟨r, putM_mem m, lessR_le hl⟩
    · exact ⟨y, h, leR_refl y⟩
  · refine ⟨y, ?_, leR_refl y⟩
    unfold kpM
    split
    · exact putM_other hab h
    · split
      · exact putM_other hab h
      · exact h
end
end Go.Proofs.Ytbkadgdhmfolaaa
