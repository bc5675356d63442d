/-
  Decimal digits: plain mathematics (the laws of the limbs, to the base 10).
  Conditions: none.
-/
import Derived.Test.YtpalpikenkkhlaaNum2
namespace Go.Proofs.Ytpalpikenkkhlaa

def dval : List Nat → Nat
  | [] => 0
  | x :: l => x + 10 * dval l

def DigL (l : List Nat) : Prop := ∀ x ∈ l, x < 10

def decLF : Nat → Nat → List Nat
  | 0, _ => []
  | f + 1, n => if n = 0 then [] else (n % 10) :: decLF f (n / 10)

def decL (n : Nat) : List Nat := decLF n n

theorem decLF_eq : ∀ (f g n : Nat), n ≤ f → n ≤ g → decLF f n = decLF g n := by
  intro f
  induction f with
  | zero => intro g n h1 _; have : n = 0 := by omega
            subst this; cases g <;> simp [decLF]
  | succ f ih =>
    intro g n h1 h2
    by_cases h0 : n = 0
    · subst h0; cases g <;> simp [decLF]
    · cases g with
      | zero => omega
      | succ g =>
        simp only [decLF, if_neg h0]
        rw [ih g (n / 10) (by omega) (by omega)]

theorem decL_zero : decL 0 = [] := rfl
theorem decL_pos {n : Nat} (h : 0 < n) : decL n = (n % 10) :: decL (n / 10) := by
  unfold decL
  cases n with
  | zero => omega
  | succ n =>
    rw [decLF, if_neg (by omega)]
    rw [decLF_eq n ((n + 1) / 10) _ (by omega) (Nat.le_refl _)]

theorem digs_nil : DigL [] := fun x h => by cases h
theorem digs_cons {x : Nat} {l : List Nat} : DigL (x :: l) ↔ x < 10 ∧ DigL l := by
  unfold DigL; simp
theorem digs_append {l m : List Nat} : DigL (l ++ m) ↔ DigL l ∧ DigL m := by
  unfold DigL
  constructor
  · exact fun h => ⟨fun x hx => h x (by simp [hx]), fun x hx => h x (by simp [hx])⟩
  · intro h x hx; rcases List.mem_append.1 hx with h1 | h1
    · exact h.1 x h1
    · exact h.2 x h1
theorem DigL.get {l : List Nat} (h : DigL l) {j x : Nat} (hx : l[j]? = some x) : x < 10 := h x (List.mem_of_getElem? hx)
theorem DigL.take {l : List Nat} (h : DigL l) (n : Nat) : DigL (l.take n) := fun x hx => h x (List.mem_of_mem_take hx)
theorem DigL.drop {l : List Nat} (h : DigL l) (n : Nat) : DigL (l.drop n) := fun x hx => h x (List.mem_of_mem_drop hx)

theorem dval_append (l m : List Nat) : dval (l ++ m) = dval l + 10 ^ l.length * dval m := by
  induction l with
  | nil => simp [dval]
  | cons x l ih => simp only [List.cons_append, dval, ih, List.length_cons, Nat.pow_succ]; grind

theorem dval_snoc (l : List Nat) (x : Nat) : dval (l ++ [x]) = dval l + 10 ^ l.length * x := by
  rw [dval_append]; simp [dval]

theorem dval_lt {l : List Nat} (h : DigL l) : dval l < 10 ^ l.length := by
  induction l with
  | nil => simp [dval]
  | cons x l ih =>
    have h1 := (digs_cons.1 h).1
    have h2 := ih (digs_cons.1 h).2
    simp only [dval, List.length_cons, Nat.pow_succ]
    omega

theorem dval_take_succ {l : List Nat} {i x : Nat} (h : l[i]? = some x) : dval (l.take (i + 1)) = dval (l.take i) + 10 ^ i * x := by
  have hi : i < l.length := (List.getElem?_eq_some_iff.1 h).1
  rw [List.take_add_one, h, Option.toList_some, dval_snoc, List.length_take, Nat.min_eq_left (Nat.le_of_lt hi)]

theorem dval_toL (n : Nat) : dval (decL n) = n := by
  induction n using Nat.strongRecOn with
  | _ n ih =>
    by_cases h : n = 0
    · subst h; rfl
    · rw [decL_pos (by omega), dval, ih _ (by omega)]; omega

theorem digs_toL (n : Nat) : DigL (decL n) := by
  induction n using Nat.strongRecOn with
  | _ n ih =>
    by_cases h : n = 0
    · subst h; exact digs_nil
    · rw [decL_pos (by omega), digs_cons]; exact ⟨Nat.mod_lt _ (by omega), ih _ (by omega)⟩

theorem decL_last (n : Nat) : (decL n).getLast? ≠ some 0 := by
  induction n using Nat.strongRecOn with
  | _ n ih =>
    by_cases h : n = 0
    · subst h; simp [decL_zero]
    · rw [decL_pos (by omega)]
      by_cases h1 : n / 10 = 0
      · rw [h1, decL_zero]; simp; omega
      · have := ih (n / 10) (by omega)
        cases hl : decL (n / 10) with
        | nil => have := dval_toL (n / 10); rw [hl] at this; simp [dval] at this; omega
        | cons y m => rw [hl] at this; rw [List.getLast?_cons_cons]; exact this

theorem decL_val {l : List Nat} (h : DigL l) (hz : l.getLast? ≠ some 0) : decL (dval l) = l := by
  induction l with
  | nil => rfl
  | cons x l ih =>
    obtain ⟨hx, hl⟩ := digs_cons.1 h
    have hz' : l.getLast? ≠ some 0 := by
      cases l with
      | nil => simp
      | cons y m => rwa [List.getLast?_cons_cons] at hz
    have ih' := ih hl hz'
    have hpos : 0 < x + 10 * dval l := by
      rcases Nat.eq_zero_or_pos x with h0 | h0
      · subst h0
        cases l with
        | nil => simp at hz
        | cons y m =>
          rcases Nat.eq_zero_or_pos (dval (y :: m)) with h1 | h1
          · rw [h1, decL_zero] at ih'; cases ih'
          · omega
      · omega
    rw [dval, decL_pos hpos]
    have e1 : (x + 10 * dval l) % 10 = x := by omega
    have e2 : (x + 10 * dval l) / 10 = dval l := by omega
    rw [e1, e2, ih']

theorem decL_len (n k : Nat) : (decL n).length ≤ k ↔ n < 10 ^ k := by
  constructor
  · intro h
    have := dval_lt (digs_toL n)
    rw [dval_toL] at this
    exact Nat.lt_of_lt_of_le this (Nat.pow_le_pow_right (by omega) h)
  · intro h
    induction k generalizing n with
    | zero => simp at h; subst h; simp [decL_zero]
    | succ k ih =>
      by_cases h0 : n = 0
      · subst h0; simp [decL_zero]
      · rw [decL_pos (by omega), List.length_cons]
        have : n / 10 < 10 ^ k := by
          rw [Nat.pow_succ] at h
          exact Nat.div_lt_of_lt_mul (by omega)
        have := ih _ this
        omega

theorem decL_len_le {l : List Nat} (h : DigL l) : (decL (dval l)).length ≤ l.length := (decL_len _ _).2 (dval_lt h)



theorem dval_drop_zero {l : List Nat} {n : Nat} (h : ∀ x ∈ l.drop n, x = 0) : dval (l.take n) = dval l := by
  have h1 : dval l = dval (l.take n ++ l.drop n) := by rw [List.take_append_drop]
  rw [h1, dval_append]
  have : ∀ m : List Nat, (∀ x ∈ m, x = 0) → dval m = 0 := by
    intro m
    induction m with
    | nil => intro _; rfl
    | cons x m ih => intro h; rw [dval, h x (by simp), ih (fun y hy => h y (by simp [hy]))]
  rw [this _ h]; simp

theorem dstrip_eq {l : List Nat} (hl : DigL l) {n : Nat} (h : ∀ x ∈ l.drop n, x = 0) (hn : n = 0 ∨ ∃ x, l[n - 1]? = some x ∧ x ≠ 0) : l.take n = decL (dval l) := by
  rw [← dval_drop_zero h, decL_val (hl.take n)]
  rcases hn with rfl | ⟨x, hx, h0⟩
  · simp
  · have hlt : n - 1 < l.length := (List.getElem?_eq_some_iff.1 hx).1
    rcases Nat.eq_zero_or_pos n with rfl | hp
    · simp
    · rw [List.getLast?_eq_getElem?, List.length_take, Nat.min_eq_left (by omega), List.getElem?_take, if_pos (by omega), hx]
      simpa using h0

/-! ### Texts -/
/-- The digits of n, the least significant first; of 0: one zero. -/
def decD (n : Nat) : List Nat := if n = 0 then [0] else decL n
/-- The text of n, as bytes. -/
def textL (n : Nat) : List Nat := (decD n).reverse.map (48 + ·)

theorem decD_dig (n : Nat) : DigL (decD n) := by
  unfold decD; split
  · exact digs_cons.2 ⟨by omega, digs_nil⟩
  · exact digs_toL n
theorem textL_lt (n : Nat) : ∀ x ∈ textL n, x < 256 := by
  intro x hx
  simp only [textL, List.mem_map, List.mem_reverse] at hx
  obtain ⟨y, hy, rfl⟩ := hx
  have := decD_dig n y hy
  omega

theorem dval_split (l : List Nat) (i : Nat) : dval l = dval (l.take i) + 10 ^ i * dval (l.drop i) := by
  rcases Nat.lt_or_ge i l.length with h | h
  · have := dval_append (l.take i) (l.drop i)
    rwa [List.take_append_drop, List.length_take, Nat.min_eq_left (Nat.le_of_lt h)] at this
  · rw [List.take_of_length_le h, List.drop_of_length_le h]; simp [dval]

/-- How many digits a number of at most 1024 limbs can have. -/
theorem digits_bd {v k n K : Nat} (hv : v < 4294967296 ^ K) (hn : 0 < n) (h : 10 ^ k * n ≤ v) : k < 10 * K := by
  have h1 : (4294967296 : Nat) ^ K ≤ 10 ^ (10 * K) := by
    rw [Nat.pow_mul]
    exact Nat.pow_le_pow_left (by decide) K
  have h2 : 10 ^ k < 10 ^ (10 * K) := by
    have := Nat.mul_le_mul_left (10 ^ k) hn
    omega
  exact (Nat.pow_lt_pow_iff_right (by decide)).1 h2

/-- The value of a string of digits. -/
def pvF (v : Nat) (l : List Nat) : Nat := l.foldl (fun v x => 10 * v + (x - 48)) v
def pv (l : List Nat) : Nat := pvF 0 l
theorem pvF_mono (l : List Nat) : ∀ v, v ≤ pvF v l := by
  induction l with
  | nil => intro v; exact Nat.le_refl _
  | cons x l ih => intro v; have := ih (10 * v + (x - 48)); simp only [pvF, List.foldl_cons] at *; omega
theorem pv_snoc (l : List Nat) (x : Nat) : pv (l ++ [x]) = 10 * pv l + (x - 48) := by simp [pv, pvF]
theorem pv_take_le (l : List Nat) (i : Nat) : pv (l.take i) ≤ pv l := by
  conv => rhs; rw [← List.take_append_drop i l]
  simp only [pv, pvF, List.foldl_append]
  exact pvF_mono _ _
theorem pv_take_succ {l : List Nat} {i x : Nat} (h : l[i]? = some x) : pv (l.take (i + 1)) = 10 * pv (l.take i) + (x - 48) := by
  rw [List.take_add_one, h, Option.toList_some, pv_snoc]

def ParseOk (l : List Nat) : Prop := l ≠ [] ∧ (l.length ≤ 1 ∨ l[0]? ≠ some 48) ∧ ∀ x ∈ l, 48 ≤ x ∧ x ≤ 57
instance (l : List Nat) : Decidable (ParseOk l) := by unfold ParseOk; infer_instance

def parL (l : List Nat) : List Nat := if ParseOk l then resL (pv l) else []
def parE (l : List Nat) : Int := if ParseOk l then resE (pv l) else 12

theorem toL_mono {a b : Nat} (h : a ≤ b) : (toL a).length ≤ (toL b).length := by
  rw [toL_len]
  exact Nat.lt_of_le_of_lt h ((toL_len b _).1 (Nat.le_refl _))

theorem toL_of_len {p : List Nat} (hL : Limbs p) (h : p.length ≤ (toL (val p)).length) : toL (val p) = p := by
  refine toL_val hL (fun hz => ?_)
  have hne : p ≠ [] := fun e => by subst e; simp at hz
  have hpos := List.length_pos_iff.2 hne
  have h1 : val p = val (p.take (p.length - 1)) := by
    refine (val_drop_zero (fun x hx => ?_)).symm
    rw [List.getLast?_eq_getElem?] at hz
    have hlt : p.length - 1 < p.length := by omega
    rw [List.drop_eq_getElem_cons hlt, show p.length - 1 + 1 = p.length by omega, List.drop_length] at hx
    simp at hx
    rw [List.getElem?_eq_getElem hlt] at hz
    rw [hx]; simpa using hz
  have h2 := toL_len_le (hL.take (p.length - 1))
  rw [← h1, List.length_take] at h2
  omega

/-- Times ten and a digit, limb by limb. -/
theorem ten_step {p x : List Nat} {k c d : Nat} (hp : p.length = k) (h : val p + c * 4294967296 ^ k = 10 * val (x.take k) + d) {y : Nat} (hy : x[k]? = some y) :
    val (p ++ [(c + 10 * y) % 4294967296]) + (c + 10 * y) / 4294967296 * 4294967296 ^ (k + 1) = 10 * val (x.take (k + 1)) + d := by
  rw [val_snoc, hp, val_take_succ hy, Nat.pow_succ]
  have hd : (c + 10 * y) % 4294967296 + 4294967296 * ((c + 10 * y) / 4294967296) = c + 10 * y := Nat.mod_add_div _ _
  generalize 4294967296 ^ k = P at *
  generalize (c + 10 * y) % 4294967296 = r at *
  generalize (c + 10 * y) / 4294967296 = q at *
  grind

theorem ten_end {p x : List Nat} {c d : Nat} (hp : p.length = x.length) (hLp : Limbs p) (hc : c < 4294967296) (hz : toL (val x) = x) (h : val p + c * 4294967296 ^ x.length = 10 * val (x.take x.length) + d) :
    toL (10 * val x + d) = if c = 0 then p else p ++ [c] := by
  rw [List.take_length] at h
  split
  · rename_i h0
    subst h0
    rw [Nat.zero_mul, Nat.add_zero] at h
    rw [← h]
    refine toL_of_len hLp ?_
    rw [h, hp]
    conv => lhs; rw [← hz]
    exact toL_mono (by omega)
  · rename_i h0
    have e : 10 * val x + d = val (p ++ [c]) := by rw [val_snoc, hp, ← h, Nat.mul_comm]
    rw [e]
    exact toL_val (limbs_append.2 ⟨hLp, limbs_cons.2 ⟨hc, limbs_nil⟩⟩) (by simp; exact h0)
end Go.Proofs.Ytpalpikenkkhlaa
