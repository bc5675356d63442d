/-
  Texts and their numbers: plain mathematics, and the walks of NaturalStrings and NaturalPowers.
  Conditions: none.
-/
import Derived.Test.YtpalpikenkkhlaaT14
namespace Go.Proofs.Ytpalpikenkkhlaa
open Go Go.RowKit

/-- The digits of a text, the least significant first. -/
def digs (l : List Nat) : List Nat := l.reverse.map (· - 48)

theorem pvF_eq (l : List Nat) : ∀ v, pvF v l = dval (digs l) + 10 ^ l.length * v := by
  induction l with
  | nil => intro v; simp [pvF, digs, dval]
  | cons x l ih =>
    intro v
    have h : pvF v (x :: l) = pvF (10 * v + (x - 48)) l := rfl
    rw [h, ih]
    have e : digs (x :: l) = digs l ++ [x - 48] := by simp [digs]
    have el : (digs l).length = l.length := by simp [digs]
    rw [e, dval_snoc, el, List.length_cons, Nat.pow_succ]
    grind
theorem pv_eq (l : List Nat) : pv l = dval (digs l) := by
  have := pvF_eq l 0
  unfold pv; omega

theorem digs_dig {l : List Nat} (h : ∀ x ∈ l, 48 ≤ x ∧ x ≤ 57) : DigL (digs l) := by
  intro x hx
  simp only [digs, List.mem_map, List.mem_reverse] at hx
  obtain ⟨y, hy, rfl⟩ := hx
  have := h y hy
  omega
theorem digs_back {l : List Nat} (h : ∀ x ∈ l, 48 ≤ x ∧ x ≤ 57) : (digs l).reverse.map (48 + ·) = l := by
  simp only [digs, List.map_reverse, List.reverse_reverse, List.map_map]
  conv => rhs; rw [← List.map_id l]
  apply List.map_congr_left
  intro x hx
  have := h x hx
  simp; omega

theorem pv_lt {l : List Nat} (h : ∀ x ∈ l, 48 ≤ x ∧ x ≤ 57) : pv l < 10 ^ l.length := by
  rw [pv_eq]
  have := dval_lt (digs_dig h)
  simpa [digs] using this

theorem textL_pv {l : List Nat} (h : ParseOk l) : textL (pv l) = l := by
  obtain ⟨hne, h0, hd⟩ := h
  have hD := digs_dig hd
  by_cases hz : (digs l).getLast? = some 0
  · have hl : l.length = 1 := by
      rcases h0 with h0 | h0
      · have := List.length_pos_iff.2 hne; omega
      · exfalso
        cases l with
        | nil => exact hne rfl
        | cons x l =>
          simp [digs] at hz h0
          have := hd x (by simp)
          omega
    obtain ⟨x, rfl⟩ := List.length_eq_one_iff.1 hl
    simp [digs] at hz
    have := hd x (by simp)
    have : x = 48 := by omega
    subst this
    rfl
  · have e : decL (dval (digs l)) = digs l := decL_val hD hz
    have hp : pv l ≠ 0 := by
      intro h9
      rw [pv_eq] at h9
      rw [h9, decL_zero] at e
      have : (digs l).length = l.length := by simp [digs]
      rw [← e] at this
      exact hne (List.eq_nil_of_length_eq_zero this.symm)
    unfold textL decD
    rw [if_neg hp, pv_eq, e, digs_back hd]

theorem ten_limbs {n k : Nat} (h : n < 10 ^ (9 * k)) : Lt k n := by
  refine Nat.lt_of_lt_of_le h ?_
  rw [Nat.pow_mul]
  exact Nat.pow_le_pow_left (by decide) k

theorem dval_nines (n : Nat) : dval (List.replicate n 9) + 1 = 10 ^ n := by
  induction n with
  | zero => rfl
  | succ n ih => rw [List.replicate_succ, dval, Nat.pow_succ]; omega
theorem dval_zeros (n : Nat) : dval (List.replicate n 0) = 0 := by
  induction n with
  | zero => rfl
  | succ n ih => rw [List.replicate_succ, dval, ih]

theorem decL_pow (n : Nat) : decL (10 ^ n) = List.replicate n 0 ++ [1] := by
  have e : dval (List.replicate n 0 ++ [1]) = 10 ^ n := by rw [dval_snoc, dval_zeros]; simp
  rw [← e]
  refine decL_val ?_ (by simp)
  exact digs_append.2 ⟨fun x hx => by rw [List.eq_of_mem_replicate hx]; omega, digs_cons.2 ⟨by omega, digs_nil⟩⟩
theorem textL_pow (n : Nat) : textL (10 ^ n) = 49 :: List.replicate n 48 := by
  unfold textL decD
  rw [if_neg (by have := Nat.pow_pos (n := n) (show 0 < 10 by omega); omega), decL_pow]
  simp
theorem decL_nines (n : Nat) : decL (10 ^ n - 1) = List.replicate n 9 := by
  have e : 10 ^ n - 1 = dval (List.replicate n 9) := by have := dval_nines n; omega
  rw [e]
  refine decL_val (fun x hx => by rw [List.eq_of_mem_replicate hx]; omega) ?_
  intro h
  have := List.mem_of_getLast? h
  have := List.eq_of_mem_replicate this
  omega
theorem textL_nines {n : Nat} (h : 0 < n) : textL (10 ^ n - 1) = List.replicate n 57 := by
  unfold textL decD
  have h1 : 10 ^ 1 ≤ 10 ^ n := Nat.pow_le_pow_right (by omega) h
  rw [if_neg (by omega), decL_nines]
  simp

theorem textL_bytes (n : Nat) : bytesOf (strOf (textL n)) = textL n := bytesOf_strOf (textL_lt n)

def isDig (l : List Nat) (i : Nat) : Bool := decide (l ≠ []) && decide (∀ x ∈ l.take i, 48 ≤ x ∧ x ≤ 57)
theorem isDig_iff (l : List Nat) (i : Nat) : isDig l i = true ↔ l ≠ [] ∧ ∀ x ∈ l.take i, 48 ≤ x ∧ x ≤ 57 := by unfold isDig; simp
theorem isDig_step {l : List Nat} {i x : Nat} (hx : l[i]? = some x) : isDig l (i + 1) = true ↔ isDig l i = true ∧ 48 ≤ x ∧ x ≤ 57 := by
  rw [isDig_iff, isDig_iff, List.take_add_one, hx]
  simp only [Option.toList_some, List.mem_append, List.mem_singleton]
  constructor
  · exact fun h => ⟨⟨h.1, fun y hy => h.2 y (.inl hy)⟩, h.2 x (.inr rfl)⟩
  · rintro ⟨⟨h1, h2⟩, h3⟩
    exact ⟨h1, fun y hy => hy.elim (h2 y) (fun e => e ▸ h3)⟩

theorem naturalStrings_law (s : ByteArray) (w0 : World) (hlen : s.size ≤ maxLen) :
    Fn Try.prog 4 [.string s] w0 (fun v w' => v = .bool true ∧ Ext w0 w') := by
  have hL := bytesOf_length s
  have hlt := bytesOf_lt s
  generalize hl : bytesOf s = l at *
  have hss : strOf l = s := by rw [← hl, strOf_bytesOf]
  refine fn_of_exec (c := { c4 with cuts := [2] }) gx_ok Try.func4 rfl rfl rfl ?_
  refine call (sanityN w0) ?_
  rintro v w1 ⟨rfl, hE0⟩
  refine cut gx_ok [] (fun _ : Unit => []) (fun _ w => w = w1 ∧ s.size ≤ 100) ?_ ?_
  · refine wif_d (fun h => ?_) (fun h => ?_)
    · exact And.intro rfl hE0
    · exact ⟨(), rfl, rfl, by omega⟩
  rintro _ w ⟨rfl, hs⟩
  refine call (parse_fn _ _ hlen) ?_
  rintro v w2 ⟨A, c, rfl, ha, hE⟩
  rw [hl] at ha ⊢
  replace hE0 := hE0.trans hE
  refine loop gx_ok [7, 6] (fun s : Nat × Bool => [.int .i64 s.1, .bool s.2]) (fun s w3 => w3 = w2 ∧ s.1 ≤ l.length ∧ s.2 = isDig l s.1) (fun s _ => l.length - s.1) (0, !decide (s = { data := #[] })) rfl ⟨rfl, Nat.zero_le _, ?_⟩ ?_
  · dsimp only
    rw [Bool.eq_iff_iff, isDig_iff]
    simp only [Bool.not_eq_true', decide_eq_false_iff_not, str_empty, hl]
    simp
  rintro ⟨i, b⟩ w3 ⟨rfl, hi, hb⟩
  dsimp only at hi hb ⊢
  refine wif_d (fun h1 => ?_) (fun h1 => ?_)
  · have hxi : l[i]? = some l[i] := List.getElem?_eq_getElem (by omega)
    have hst := isDig_step hxi
    refine wif (fun h2 => ?_) (fun h2 => ?_)
    · refine sindex' (j := i) (by omega) (fun x hx hx2 => ?_)
      rw [hl, hxi] at hx; cases hx
      refine wif_d (fun h3 => ?_) (fun h3 => ?_)
      · refine sindex' (j := i) (by omega) (fun x hx hx2 => ?_)
        rw [hl, hxi] at hx; cases hx
        refine norm_i64_to ((i + 1 : Nat) : Int) (by omega) (by omega) ?_
        refine ⟨(i + 1, decide ((l[i] : Int) ≤ 57)), rfl, ⟨rfl, by show i + 1 ≤ l.length; omega, ?_⟩, by show l.length - (i + 1) < l.length - i; omega⟩
        dsimp only
        rw [Bool.eq_iff_iff, hst, ← hb]
        simp only [decide_eq_true_eq, h2, true_and]
        omega
      · refine norm_i64_to ((i + 1 : Nat) : Int) (by omega) (by omega) ?_
        refine ⟨(i + 1, false), rfl, ⟨rfl, by show i + 1 ≤ l.length; omega, ?_⟩, by show l.length - (i + 1) < l.length - i; omega⟩
        dsimp only
        rw [Bool.eq_iff_iff, hst]
        simp; omega
    · refine norm_i64_to ((i + 1 : Nat) : Int) (by omega) (by omega) ?_
      refine ⟨(i + 1, false), rfl, ⟨rfl, by show i + 1 ≤ l.length; omega, ?_⟩, by show l.length - (i + 1) < l.length - i; omega⟩
      dsimp only
      rw [Bool.eq_iff_iff, hst, ← hb, h2]
      simp
  · have hil : i = l.length := by omega
    subst hil
    have yes : ParseOk l → (∃ q : Nat, pv l = q ∧ NV w3 A c q ∧ Lt 12 q ∧ parL l = toL q ∧ parE l = 0) := fun hok => by
      have h9 : Lt 12 (pv l) := ten_limbs (Nat.lt_of_lt_of_le (pv_lt hok.2.2) (Nat.pow_le_pow_right (by omega) (by omega)))
      have e1 : parL l = toL (pv l) := by rw [parL_yes hok, lt_resL h9 (by omega)]
      exact ⟨_, rfl, by have h8 := ha; rw [e1] at h8; exact h8, h9, e1, by rw [parE_yes hok, lt_resE h9 (by omega)]⟩
    have okay : ∀ hok : ParseOk l, Fn Try.prog 20 [.slice A (parL l).length c] w3 (fun v w' => v = .bool true ∧ Ext w3 w') := fun hok => by
      obtain ⟨q, _, h1, h2, h3, _⟩ := yes hok
      rw [h3]
      exact validN 12 h1 h2 (by omega)
    have okay2 : ∀ hok : ParseOk l, ∀ w4, Ext w3 w4 → Fn Try.prog 17 [.slice A (parL l).length c] w4 (fun v w' => v = .string s ∧ Ext w4 w') := fun hok w4 h4 => by
      obtain ⟨q, h0, h1, h2, h3, _⟩ := yes hok
      rw [h3]
      have := textN 12 (h1.ext h4) h2 (by omega)
      rw [← h0, textL_pv hok, hss] at this
      rw [← h0]
      exact this
    refine wif (fun h2 => ?_) (fun h2 => ?_)
    · rw [hb, isDig_iff, List.take_length] at h2
      obtain ⟨hne, hd⟩ := h2
      refine wif_eq (fun h3 => ?_) (fun h3 => ?_)
      · have hok : ParseOk l := ⟨hne, .inl (by omega), hd⟩
        obtain ⟨q, _, _, _, _, h5⟩ := yes hok
        rw [h5]
        refine wif_eqt rfl ?_
        refine call (okay hok) ?_
        rintro v w4 ⟨rfl, hE4⟩
        refine wif_t rfl ?_
        refine call (okay2 hok _ hE4) ?_
        rintro v w5 ⟨rfl, hE5⟩
        refine wif_dt rfl ?_
        exact And.intro rfl (hE0.trans (hE4.trans hE5))
      · refine sindex' (j := 0) (by have := List.length_pos_iff.2 hne; omega) (fun x hx hx2 => ?_)
        rw [hl] at hx
        refine wif_ne (fun h4 => ?_) (fun h4 => ?_)
        · have hok : ParseOk l := ⟨hne, .inr (by rw [hx]; simp; omega), hd⟩
          obtain ⟨q, _, _, _, _, h5⟩ := yes hok
          rw [h5]
          refine wif_eqt rfl ?_
          refine call (okay hok) ?_
          rintro v w4 ⟨rfl, hE4⟩
          refine wif_t rfl ?_
          refine call (okay2 hok _ hE4) ?_
          rintro v w5 ⟨rfl, hE5⟩
          refine wif_dt rfl ?_
          exact And.intro rfl (hE0.trans (hE4.trans hE5))
        · have hno : ¬ ParseOk l := fun h => by
            rcases h.2.1 with h | h
            · have := List.length_pos_iff.2 hne; omega
            · rw [hx] at h; exact h (by congr 1; omega)
          rw [parE_no hno, parL_no hno]
          refine wif_eqt rfl ?_
          refine wif_eqt rfl ?_
          exact And.intro rfl hE0
    · have hno : ¬ ParseOk l := fun h => by
        rw [hb, Bool.eq_false_iff] at h2
        exact h2 ((isDig_iff _ _).2 ⟨h.1, by rw [List.take_length]; exact h.2.2⟩)
      rw [parE_no hno, parL_no hno]
      refine wif_eqt rfl ?_
      refine wif_eqt rfl ?_
      exact And.intro rfl hE0
end Go.Proofs.Ytpalpikenkkhlaa
