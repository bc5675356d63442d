/-
  Bits of limbs: plain mathematics for the long divisions.
  Conditions: none.
-/
import Derived.Test.YtpalpikenkkhlaaNum
namespace Go.Proofs.Ytpalpikenkkhlaa

theorem pow_split (at_ : Nat) : 2 ^ at_ = 4294967296 ^ (at_ / 32) * 2 ^ (at_ % 32) := by
  have : at_ = 32 * (at_ / 32) + at_ % 32 := (Nat.div_add_mod at_ 32).symm
  conv => lhs; rw [this, Nat.pow_add, Nat.pow_mul]

theorem base_split {e : Nat} (he : e < 32) : 4294967296 = 2 ^ (e + 1) * 2 ^ (31 - e) := by
  rw [← Nat.pow_add, show e + 1 + (31 - e) = 32 by omega]

theorem val_div_base {a : List Nat} (h : Limbs a) (k : Nat) : val a / 4294967296 ^ k = val (a.drop k) := by
  rw [val_split a k]
  have h1 := val_take_lt h k
  rw [Nat.add_mul_div_left _ _ (by omega : 0 < 4294967296 ^ k), Nat.div_eq_of_lt h1, Nat.zero_add]

theorem bit_limb {a : List Nat} (h : Limbs a) (at_ : Nat) : val a / 2 ^ at_ % 2 = a[at_ / 32]?.getD 0 / 2 ^ (at_ % 32) % 2 := by
  rw [pow_split at_, ← Nat.div_div_eq_div_mul, val_div_base h, val_drop]
  have he : at_ % 32 < 32 := Nat.mod_lt _ (by omega)
  generalize at_ % 32 = e at *
  generalize a[at_ / 32]?.getD 0 = x
  generalize val (a.drop (at_ / 32 + 1)) = v
  have e1 : 4294967296 * v = 2 ^ e * (2 * (2 ^ (31 - e) * v)) := by
    conv => lhs; rw [base_split he, Nat.pow_succ]
    grind
  rw [e1, Nat.add_mul_div_left _ _ (Nat.two_pow_pos e), Nat.add_mul_mod_self_left]

theorem val_set (q : List Nat) (k z : Nat) (hk : k < q.length) : val (q.set k z) + 4294967296 ^ k * q[k] = val q + 4294967296 ^ k * z := by
  induction q generalizing k with
  | nil => simp at hk
  | cons x q ih =>
    cases k with
    | zero => simp only [List.set_cons_zero, val, List.getElem_cons_zero, Nat.pow_zero]; omega
    | succ k =>
      simp only [List.set_cons_succ, val, List.getElem_cons_succ, Nat.pow_succ]
      have := ih k (by simpa using hk)
      grind

theorem or_limb {q : List Nat} (h : Limbs q) {Q at_ : Nat} (hq : val q = Q * 2 ^ (at_ + 1)) {y : Nat} (hy : q[at_ / 32]? = some y) :
    y ||| 2 ^ (at_ % 32) = y + 2 ^ (at_ % 32) ∧ y + 2 ^ (at_ % 32) < 4294967296 ∧ val (q.set (at_ / 32) (y + 2 ^ (at_ % 32))) = val q + 2 ^ at_ := by
  have he : at_ % 32 < 32 := Nat.mod_lt _ (by omega)
  have hlt : at_ / 32 < q.length := (List.getElem?_eq_some_iff.1 hy).1
  have hyl := h.get hy
  have h1 := val_div_base h (at_ / 32)
  rw [val_drop, hy, Option.getD_some, hq, Nat.pow_succ, pow_split at_] at h1
  have h2 : Q * (4294967296 ^ (at_ / 32) * 2 ^ (at_ % 32) * 2) / 4294967296 ^ (at_ / 32) = Q * 2 ^ (at_ % 32 + 1) := by
    rw [show Q * (4294967296 ^ (at_ / 32) * 2 ^ (at_ % 32) * 2) = (Q * 2 ^ (at_ % 32 + 1)) * 4294967296 ^ (at_ / 32) by rw [Nat.pow_succ]; grind]
    exact Nat.mul_div_cancel _ (Nat.pow_pos (by omega))
  rw [h2] at h1
  have hdvd : 2 ^ (at_ % 32 + 1) ∣ y := by
    have e1 : 2 ^ (at_ % 32 + 1) ∣ y + 4294967296 * val (q.drop (at_ / 32 + 1)) := ⟨Q, by rw [← h1, Nat.mul_comm]⟩
    have e2 : 2 ^ (at_ % 32 + 1) ∣ 4294967296 * val (q.drop (at_ / 32 + 1)) := by
      rw [base_split he, Nat.mul_assoc]; exact Nat.dvd_mul_right _ _
    exact (Nat.dvd_add_left e2).1 e1
  obtain ⟨r, hr⟩ := hdvd
  have hor : y ||| 2 ^ (at_ % 32) = y + 2 ^ (at_ % 32) := by
    have := Nat.shiftLeft_add_eq_or_of_lt (b := 2 ^ (at_ % 32)) (i := at_ % 32 + 1) (Nat.pow_lt_pow_right (by omega) (by omega)) r
    rw [Nat.shiftLeft_eq, Nat.mul_comm r, ← hr] at this
    exact this.symm
  have hb : y ||| 2 ^ (at_ % 32) < 2 ^ 32 := Nat.or_lt_two_pow (by omega) (Nat.pow_lt_pow_right (by omega) he)
  refine ⟨hor, by omega, ?_⟩
  have h3 := val_set q (at_ / 32) (y + 2 ^ (at_ % 32)) hlt
  have h4 : q[at_ / 32] = y := by simpa [List.getElem?_eq_getElem hlt] using hy
  rw [h4, Nat.mul_add, ← pow_split at_] at h3
  omega

/-- One step of a long division in the binary system. -/
theorem long_step {N a b Q R : Nat} (h : a / 2 ^ (N + 1) = Q * b + R) : a / 2 ^ N = 2 * Q * b + (2 * R + a / 2 ^ N % 2) := by
  have e : a / 2 ^ (N + 1) = a / 2 ^ N / 2 := by rw [Nat.pow_succ, Nat.div_div_eq_div_mul]
  rw [e] at h
  have := Nat.div_add_mod (a / 2 ^ N) 2
  generalize a / 2 ^ N = x at *
  generalize x / 2 = y at *
  generalize x % 2 = z at *
  subst h
  grind

/-! ### Lists of bits -/
def bval : List Nat → Nat
  | [] => 0
  | x :: l => x + 2 * bval l

def BitL (l : List Nat) : Prop := ∀ x ∈ l, x < 2
theorem bitL_nil : BitL [] := fun x h => by cases h
theorem bitL_cons {x : Nat} {l : List Nat} : BitL (x :: l) ↔ x < 2 ∧ BitL l := by unfold BitL; simp
theorem bitL_append {l m : List Nat} : BitL (l ++ m) ↔ BitL l ∧ BitL m := by
  unfold BitL
  constructor
  · exact fun h => ⟨fun x hx => h x (by simp [hx]), fun x hx => h x (by simp [hx])⟩
  · intro h x hx; rcases List.mem_append.1 hx with h1 | h1
    · exact h.1 x h1
    · exact h.2 x h1
theorem BitL.get {l : List Nat} (h : BitL l) {j x : Nat} (hx : l[j]? = some x) : x < 2 := h x (List.mem_of_getElem? hx)
theorem BitL.drop {l : List Nat} (h : BitL l) (n : Nat) : BitL (l.drop n) := fun x hx => h x (List.mem_of_mem_drop hx)
theorem BitL.take {l : List Nat} (h : BitL l) (n : Nat) : BitL (l.take n) := fun x hx => h x (List.mem_of_mem_take hx)

theorem bval_append (l m : List Nat) : bval (l ++ m) = bval l + 2 ^ l.length * bval m := by
  induction l with
  | nil => simp [bval]
  | cons x l ih => simp only [List.cons_append, bval, ih, List.length_cons, Nat.pow_succ]; grind

theorem bval_snoc (l : List Nat) (x : Nat) : bval (l ++ [x]) = bval l + 2 ^ l.length * x := by
  rw [bval_append]; simp [bval]

theorem bval_lt {l : List Nat} (h : BitL l) : bval l < 2 ^ l.length := by
  induction l with
  | nil => simp [bval]
  | cons x l ih =>
    have h1 := (bitL_cons.1 h).1
    have h2 := ih (bitL_cons.1 h).2
    simp only [bval, List.length_cons, Nat.pow_succ]
    omega

theorem bval_drop (l : List Nat) (i : Nat) : bval (l.drop i) = l[i]?.getD 0 + 2 * bval (l.drop (i + 1)) := by
  rcases Nat.lt_or_ge i l.length with h | h
  · rw [List.drop_eq_getElem_cons h, bval]; simp [h]
  · rw [List.drop_of_length_le h, List.drop_of_length_le (by omega)]; simp [bval, h]

theorem bval_split (l : List Nat) (i : Nat) : bval l = bval (l.take i) + 2 ^ i * bval (l.drop i) := by
  rcases Nat.lt_or_ge i l.length with h | h
  · have := bval_append (l.take i) (l.drop i)
    rwa [List.take_append_drop, List.length_take, Nat.min_eq_left (Nat.le_of_lt h)] at this
  · rw [List.take_of_length_le h, List.drop_of_length_le h]; simp [bval]

theorem bval_replicate (n : Nat) : bval (List.replicate n 0) = 0 := by
  induction n with
  | zero => rfl
  | succ n ih => rw [List.replicate_succ, bval, ih]

theorem bval_set (q : List Nat) (k z : Nat) (hk : k < q.length) : bval (q.set k z) + 2 ^ k * q[k] = bval q + 2 ^ k * z := by
  induction q generalizing k with
  | nil => simp at hk
  | cons x q ih =>
    cases k with
    | zero => simp only [List.set_cons_zero, bval, List.getElem_cons_zero, Nat.pow_zero]; omega
    | succ k =>
      simp only [List.set_cons_succ, bval, List.getElem_cons_succ, Nat.pow_succ]
      have := ih k (by simpa using hk)
      grind

theorem pow32 (j : Nat) : 4294967296 ^ j = 2 ^ (32 * j) := by rw [Nat.pow_mul]
end Go.Proofs.Ytpalpikenkkhlaa
