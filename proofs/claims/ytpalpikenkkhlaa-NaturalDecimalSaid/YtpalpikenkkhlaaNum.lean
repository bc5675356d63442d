/-
  Natural numbers as lists of limbs to the base 2^32: plain mathematics, no program in sight.
  Conditions: none.
-/
namespace Go.Proofs.Ytpalpikenkkhlaa

def val : List Nat → Nat
  | [] => 0
  | x :: l => x + 4294967296 * val l

def Limbs (l : List Nat) : Prop := ∀ x ∈ l, x < 4294967296

def toLF : Nat → Nat → List Nat
  | 0, _ => []
  | f + 1, n => if n = 0 then [] else (n % 4294967296) :: toLF f (n / 4294967296)

def toL (n : Nat) : List Nat := toLF n n

theorem toLF_eq : ∀ (f g n : Nat), n ≤ f → n ≤ g → toLF f n = toLF g n := by
  intro f
  induction f with
  | zero => intro g n h1 _; have : n = 0 := by omega
            subst this; cases g <;> simp [toLF]
  | succ f ih =>
    intro g n h1 h2
    by_cases h0 : n = 0
    · subst h0; cases g <;> simp [toLF]
    · cases g with
      | zero => omega
      | succ g =>
        simp only [toLF, if_neg h0]
        rw [ih g (n / 4294967296) (by omega) (by omega)]

theorem toL_zero : toL 0 = [] := rfl
theorem toL_pos {n : Nat} (h : 0 < n) : toL n = (n % 4294967296) :: toL (n / 4294967296) := by
  unfold toL
  cases n with
  | zero => omega
  | succ n =>
    rw [toLF, if_neg (by omega)]
    rw [toLF_eq n ((n + 1) / 4294967296) _ (by omega) (Nat.le_refl _)]

theorem limbs_nil : Limbs [] := fun x h => by cases h
theorem limbs_cons {x : Nat} {l : List Nat} : Limbs (x :: l) ↔ x < 4294967296 ∧ Limbs l := by
  unfold Limbs; simp
theorem limbs_append {l m : List Nat} : Limbs (l ++ m) ↔ Limbs l ∧ Limbs m := by
  unfold Limbs
  constructor
  · exact fun h => ⟨fun x hx => h x (by simp [hx]), fun x hx => h x (by simp [hx])⟩
  · intro h x hx; rcases List.mem_append.1 hx with h1 | h1
    · exact h.1 x h1
    · exact h.2 x h1
theorem Limbs.get {l : List Nat} (h : Limbs l) {j x : Nat} (hx : l[j]? = some x) : x < 4294967296 := h x (List.mem_of_getElem? hx)
theorem Limbs.take {l : List Nat} (h : Limbs l) (n : Nat) : Limbs (l.take n) := fun x hx => h x (List.mem_of_mem_take hx)
theorem Limbs.drop {l : List Nat} (h : Limbs l) (n : Nat) : Limbs (l.drop n) := fun x hx => h x (List.mem_of_mem_drop hx)

theorem val_append (l m : List Nat) : val (l ++ m) = val l + 4294967296 ^ l.length * val m := by
  induction l with
  | nil => simp [val]
  | cons x l ih => simp only [List.cons_append, val, ih, List.length_cons, Nat.pow_succ]; grind

theorem val_snoc (l : List Nat) (x : Nat) : val (l ++ [x]) = val l + 4294967296 ^ l.length * x := by
  rw [val_append]; simp [val]

theorem val_lt {l : List Nat} (h : Limbs l) : val l < 4294967296 ^ l.length := by
  induction l with
  | nil => simp [val]
  | cons x l ih =>
    have h1 := (limbs_cons.1 h).1
    have h2 := ih (limbs_cons.1 h).2
    simp only [val, List.length_cons, Nat.pow_succ]
    omega

theorem val_take_succ {l : List Nat} {i x : Nat} (h : l[i]? = some x) : val (l.take (i + 1)) = val (l.take i) + 4294967296 ^ i * x := by
  have hi : i < l.length := (List.getElem?_eq_some_iff.1 h).1
  rw [List.take_add_one, h, Option.toList_some, val_snoc, List.length_take, Nat.min_eq_left (Nat.le_of_lt hi)]

theorem val_toL (n : Nat) : val (toL n) = n := by
  induction n using Nat.strongRecOn with
  | _ n ih =>
    by_cases h : n = 0
    · subst h; rfl
    · rw [toL_pos (by omega), val, ih _ (by omega)]; omega

theorem limbs_toL (n : Nat) : Limbs (toL n) := by
  induction n using Nat.strongRecOn with
  | _ n ih =>
    by_cases h : n = 0
    · subst h; exact limbs_nil
    · rw [toL_pos (by omega), limbs_cons]; exact ⟨Nat.mod_lt _ (by omega), ih _ (by omega)⟩

theorem toL_last (n : Nat) : (toL n).getLast? ≠ some 0 := by
  induction n using Nat.strongRecOn with
  | _ n ih =>
    by_cases h : n = 0
    · subst h; simp [toL_zero]
    · rw [toL_pos (by omega)]
      by_cases h1 : n / 4294967296 = 0
      · rw [h1, toL_zero]; simp; omega
      · have := ih (n / 4294967296) (by omega)
        cases hl : toL (n / 4294967296) with
        | nil => have := val_toL (n / 4294967296); rw [hl] at this; simp [val] at this; omega
        | cons y m => rw [hl] at this; rw [List.getLast?_cons_cons]; exact this

theorem toL_val {l : List Nat} (h : Limbs l) (hz : l.getLast? ≠ some 0) : toL (val l) = l := by
  induction l with
  | nil => rfl
  | cons x l ih =>
    obtain ⟨hx, hl⟩ := limbs_cons.1 h
    have hz' : l.getLast? ≠ some 0 := by
      cases l with
      | nil => simp
      | cons y m => rwa [List.getLast?_cons_cons] at hz
    have ih' := ih hl hz'
    have hpos : 0 < x + 4294967296 * val l := by
      rcases Nat.eq_zero_or_pos x with h0 | h0
      · subst h0
        cases l with
        | nil => simp at hz
        | cons y m =>
          rcases Nat.eq_zero_or_pos (val (y :: m)) with h1 | h1
          · rw [h1, toL_zero] at ih'; cases ih'
          · omega
      · omega
    rw [val, toL_pos hpos]
    have e1 : (x + 4294967296 * val l) % 4294967296 = x := by omega
    have e2 : (x + 4294967296 * val l) / 4294967296 = val l := by omega
    rw [e1, e2, ih']

theorem toL_len (n k : Nat) : (toL n).length ≤ k ↔ n < 4294967296 ^ k := by
  constructor
  · intro h
    have := val_lt (limbs_toL n)
    rw [val_toL] at this
    exact Nat.lt_of_lt_of_le this (Nat.pow_le_pow_right (by omega) h)
  · intro h
    induction k generalizing n with
    | zero => simp at h; subst h; simp [toL_zero]
    | succ k ih =>
      by_cases h0 : n = 0
      · subst h0; simp [toL_zero]
      · rw [toL_pos (by omega), List.length_cons]
        have : n / 4294967296 < 4294967296 ^ k := by
          rw [Nat.pow_succ] at h
          exact Nat.div_lt_of_lt_mul (by omega)
        have := ih _ this
        omega

theorem toL_len_le {l : List Nat} (h : Limbs l) : (toL (val l)).length ≤ l.length := (toL_len _ _).2 (val_lt h)

/-- A list of limbs that a number is written as: no more than 1024, the last of them not 0. -/
def Vd (l : List Nat) : Prop := l.length ≤ 1024 ∧ l.getLast? ≠ some 0
instance (l : List Nat) : Decidable (Vd l) := by unfold Vd; infer_instance

theorem toL_vd {l : List Nat} (h : Limbs l) (hv : Vd l) : toL (val l) = l := toL_val h hv.2
theorem vd_toL {n : Nat} (h : n < 4294967296 ^ 1024) : Vd (toL n) := ⟨(toL_len n 1024).2 h, toL_last n⟩

/-- What a result of n looks like: its limbs, or ErrLarge. -/
def resL (n : Nat) : List Nat := if (toL n).length ≤ 1024 then toL n else []
def resE (n : Nat) : Int := if (toL n).length ≤ 1024 then 0 else 2

theorem val_drop_zero {l : List Nat} {n : Nat} (h : ∀ x ∈ l.drop n, x = 0) : val (l.take n) = val l := by
  have h1 : val l = val (l.take n ++ l.drop n) := by rw [List.take_append_drop]
  rw [h1, val_append]
  have : ∀ m : List Nat, (∀ x ∈ m, x = 0) → val m = 0 := by
    intro m
    induction m with
    | nil => intro _; rfl
    | cons x m ih => intro h; rw [val, h x (by simp), ih (fun y hy => h y (by simp [hy]))]
  rw [this _ h]; simp

/-- Zeros at the end struck: the number's own limbs. -/
theorem strip_eq {l : List Nat} (hl : Limbs l) {n : Nat} (h : ∀ x ∈ l.drop n, x = 0) (hn : n = 0 ∨ ∃ x, l[n - 1]? = some x ∧ x ≠ 0) : l.take n = toL (val l) := by
  rw [← val_drop_zero h, toL_val (hl.take n)]
  rcases hn with rfl | ⟨x, hx, h0⟩
  · simp
  · have hlt : n - 1 < l.length := (List.getElem?_eq_some_iff.1 hx).1
    rcases Nat.eq_zero_or_pos n with rfl | hp
    · simp
    · rw [List.getLast?_eq_getElem?, List.length_take, Nat.min_eq_left (by omega), List.getElem?_take, if_pos (by omega), hx]
      simpa using h0

theorem val_split (l : List Nat) (i : Nat) : val l = val (l.take i) + 4294967296 ^ i * val (l.drop i) := by
  rcases Nat.lt_or_ge i l.length with h | h
  · have := val_append (l.take i) (l.drop i)
    rwa [List.take_append_drop, List.length_take, Nat.min_eq_left (Nat.le_of_lt h)] at this
  · rw [List.take_of_length_le h, List.drop_of_length_le h]; simp [val]

theorem val_take_lt {l : List Nat} (h : Limbs l) (i : Nat) : val (l.take i) < 4294967296 ^ i :=
  Nat.lt_of_lt_of_le (val_lt (h.take i)) (Nat.pow_le_pow_right (by omega) (by rw [List.length_take]; omega))

theorem val_drop (l : List Nat) (i : Nat) : val (l.drop i) = l[i]?.getD 0 + 4294967296 * val (l.drop (i + 1)) := by
  rcases Nat.lt_or_ge i l.length with h | h
  · rw [List.drop_eq_getElem_cons h, val]; simp [h]
  · rw [List.drop_of_length_le h, List.drop_of_length_le (by omega)]; simp [val, h]

theorem val_take_succ' (l : List Nat) (i : Nat) : val (l.take (i + 1)) = val (l.take i) + 4294967296 ^ i * l[i]?.getD 0 := by
  rcases Nat.lt_or_ge i l.length with h | h
  · rw [val_take_succ (List.getElem?_eq_getElem h)]; simp [h]
  · rw [List.take_of_length_le h, List.take_of_length_le (by omega)]; simp [h]

theorem limbs_getD {l : List Nat} (h : Limbs l) (i : Nat) : l[i]?.getD 0 < 4294967296 := by
  cases hi : l[i]? with
  | none => simp
  | some x => simpa using h.get hi

theorem lt_of_drop {a b : List Nat} (ha : Limbs a) (i : Nat) (h : val (a.drop i) < val (b.drop i)) : val a < val b := by
  rw [val_split a i, val_split b i]
  have h1 := val_take_lt ha i
  have h2 : 4294967296 ^ i * (val (a.drop i) + 1) ≤ 4294967296 ^ i * val (b.drop i) := Nat.mul_le_mul_left _ h
  rw [Nat.mul_add] at h2
  omega

theorem val_ge {l : List Nat} (h0 : l ≠ []) (hz : l.getLast? ≠ some 0) : 4294967296 ^ (l.length - 1) ≤ val l := by
  rw [val_split l (l.length - 1), val_drop]
  have hlt : l.length - 1 < l.length := by have := List.length_pos_iff.2 h0; omega
  rw [List.getLast?_eq_getElem?, List.getElem?_eq_getElem hlt] at hz
  rw [List.getElem?_eq_getElem hlt]
  simp only [Option.getD_some]
  have hx : 1 ≤ l[l.length - 1] := by
    rcases Nat.eq_zero_or_pos l[l.length - 1] with h | h
    · rw [h] at hz; exact absurd rfl hz
    · exact h
  have := Nat.mul_le_mul_left (4294967296 ^ (l.length - 1)) (show 1 ≤ l[l.length - 1] + 4294967296 * val (l.drop (l.length - 1 + 1)) by omega)
  omega

theorem lt_of_length {a b : List Nat} (ha : Limbs a) (hb : b.getLast? ≠ some 0) (h : a.length < b.length) : val a < val b := by
  have h1 := val_lt ha
  have h2 := val_ge (l := b) (fun e => by simp [e] at h) hb
  have h3 : 4294967296 ^ a.length ≤ 4294967296 ^ (b.length - 1) := Nat.pow_le_pow_right (by omega) (by omega)
  omega

/-- -1, 0 or 1. -/
def cmpN (a b : Nat) : Int := if a < b then -1 else if b < a then 1 else 0
theorem cmpN_lt {a b : Nat} (h : a < b) : cmpN a b = -1 := by simp [cmpN, h]
theorem cmpN_gt {a b : Nat} (h : b < a) : cmpN a b = 1 := by unfold cmpN; rw [if_neg (by omega), if_pos h]
theorem cmpN_eq {a b : Nat} (h : a = b) : cmpN a b = 0 := by unfold cmpN; rw [if_neg (by omega), if_neg (by omega)]
def cmpL (a b : List Nat) : Int := if Vd a ∧ Vd b then cmpN (val a) (val b) else 0

/-- Add, one limb further. -/
theorem add_step {p : List Nat} {i c : Nat} {a b : List Nat} (hp : p.length = i) (h : val p + c * 4294967296 ^ i = val (a.take i) + val (b.take i)) {s : Nat} (hs : s = c + a[i]?.getD 0 + b[i]?.getD 0) :
    val (p ++ [s % 4294967296]) + s / 4294967296 * 4294967296 ^ (i + 1) = val (a.take (i + 1)) + val (b.take (i + 1)) := by
  rw [val_snoc, hp, val_take_succ', val_take_succ', Nat.pow_succ]
  have hd : s % 4294967296 + 4294967296 * (s / 4294967296) = s := Nat.mod_add_div s 4294967296
  generalize 4294967296 ^ i = P at *
  generalize s % 4294967296 = r at *
  generalize s / 4294967296 = q at *
  grind

theorem limbs_snoc {p : List Nat} (hp : Limbs p) (s : Nat) : Limbs (p ++ [s % 4294967296]) := limbs_append.2 ⟨hp, limbs_cons.2 ⟨Nat.mod_lt _ (by omega), limbs_nil⟩⟩

/-- Sub, one limb further: d is what is borrowed. -/
theorem sub_step {p : List Nat} {i d : Nat} {a b : List Nat} (hp : p.length = i) (h : val p + val (b.take i) = val (a.take i) + d * 4294967296 ^ i) {x y d' : Nat} (hy : x + d' * 4294967296 = y + (d + b[i]?.getD 0)) (hx : a[i]?.getD 0 = x) :
    val (p ++ [y]) + val (b.take (i + 1)) = val (a.take (i + 1)) + d' * 4294967296 ^ (i + 1) := by
  rw [val_snoc, hp, val_take_succ', val_take_succ', Nat.pow_succ, hx]
  generalize 4294967296 ^ i = P at *
  grind

theorem set_mid {α : Type} (p : List α) (x y : α) (r : List α) : (p ++ x :: r).set p.length y = p ++ y :: r := by
  induction p with
  | nil => rfl
  | cons z p ih => simp [ih]
theorem set_mid' {α : Type} (p : List α) (x y : α) (r : List α) {i : Nat} (hi : p.length = i) : (p ++ x :: r).set i y = (p ++ [y]) ++ r := by
  subst hi; rw [set_mid]; simp
theorem get_mid {α : Type} (p : List α) (x : α) (r : List α) {i : Nat} (hi : p.length = i) : (p ++ x :: r)[i]? = some x := by
  subst hi; simp
end Go.Proofs.Ytpalpikenkkhlaa
