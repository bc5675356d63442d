/-
  Texts in their order, and the walk of NaturalDecimal.
  Conditions: none.
-/
import Derived.Test.YtpalpikenkkhlaaT16
import Derived.Test.YtpalpikenkkhlaaPick
namespace Go.Proofs.Ytpalpikenkkhlaa
open Go Go.RowKit

theorem digs_textL (x : Nat) : digs (textL x) = decD x := by
  simp only [digs, textL, ← List.map_reverse, List.reverse_reverse, List.map_map]
  conv => rhs; rw [← List.map_id (decD x)]
  apply List.map_congr_left
  intro y _
  simp
theorem dval_decD (x : Nat) : dval (decD x) = x := by
  unfold decD; split
  · rename_i h; subst h; rfl
  · exact dval_toL x
theorem pv_textL (x : Nat) : pv (textL x) = x := by rw [pv_eq, digs_textL, dval_decD]
theorem textL_dig (n : Nat) : ∀ x ∈ textL n, 48 ≤ x ∧ x ≤ 57 := by
  intro x hx
  simp only [textL, List.mem_map, List.mem_reverse] at hx
  obtain ⟨y, hy, rfl⟩ := hx
  have := decD_dig n y hy
  omega
theorem textL_length (n : Nat) : (textL n).length = (decD n).length := by simp [textL]
theorem textL_pos (n : Nat) : 0 < (textL n).length := by
  rw [textL_length]; unfold decD; split
  · simp
  · rw [decL_pos (by omega)]; simp
theorem textL_inj {x y : Nat} (h : textL x = textL y) : x = y := by rw [← pv_textL x, h, pv_textL]
theorem textL_len_mono {x y : Nat} (h : x ≤ y) : (textL x).length ≤ (textL y).length := by
  by_cases hx : x = 0
  · subst hx; exact textL_pos y
  · rw [textL_length, textL_length]
    unfold decD
    rw [if_neg hx, if_neg (by omega), decL_len]
    exact Nat.lt_of_le_of_lt h ((decL_len y _).1 (Nat.le_refl _))
theorem textL_head {x : Nat} (h : 1 < (textL x).length) : (textL x)[0]? ≠ some 48 := by
  rw [textL_length] at h
  have hx : x ≠ 0 := fun e => by subst e; simp [decD] at h
  have hl := decL_last x
  unfold textL decD
  rw [if_neg hx]
  intro h0
  rw [List.getElem?_map, ← List.head?_eq_getElem?, List.head?_reverse] at h0
  cases hg : (decL x).getLast? with
  | none => rw [hg] at h0; cases h0
  | some z =>
    rw [hg] at h0
    simp at h0
    rw [hg, h0] at hl
    exact hl rfl
theorem parseOk_textL (x : Nat) : ParseOk (textL x) := by
  refine ⟨fun e => ?_, ?_, textL_dig x⟩
  · have := textL_pos x; rw [e] at this; simp at this
  · by_cases h : (textL x).length ≤ 1
    · exact .inl h
    · exact .inr (textL_head (by omega))

def lessL : List Nat → List Nat → Bool
  | [], [] => false
  | [], _ :: _ => true
  | _ :: _, [] => false
  | a :: l, b :: m => a < b || (a == b && lessL l m)

theorem less_pv : ∀ {A B : List Nat}, (∀ x ∈ A, 48 ≤ x ∧ x ≤ 57) → (∀ x ∈ B, 48 ≤ x ∧ x ≤ 57) → A.length = B.length → (lessL A B = true ↔ pv A < pv B)
  | [], [], _, _, _ => by simp [lessL]
  | [], _ :: _, _, _, h => by simp at h
  | _ :: _, [], _, _, h => by simp at h
  | a :: A, b :: B, hA, hB, h => by
    have h1 := hA a (by simp)
    have h2 := hB b (by simp)
    have hA' : ∀ x ∈ A, 48 ≤ x ∧ x ≤ 57 := fun x hx => hA x (by simp [hx])
    have hB' : ∀ x ∈ B, 48 ≤ x ∧ x ≤ 57 := fun x hx => hB x (by simp [hx])
    have hl : A.length = B.length := by simpa using h
    have ih := less_pv hA' hB' hl
    have c1 := pv_lt hA'
    have c2 := pv_lt hB'
    have e : ∀ (z : Nat) (l : List Nat), pv (z :: l) = pv l + 10 ^ l.length * (z - 48) := fun z l => by
      have h3 := pvF_eq l (10 * 0 + (z - 48))
      have h4 := pv_eq l
      have h5 : pv (z :: l) = pvF (10 * 0 + (z - 48)) l := rfl
      rw [h5, h3, h4]; simp
    rw [e, e, hl]
    rw [hl] at c1
    simp only [lessL, Bool.or_eq_true, decide_eq_true_eq, Bool.and_eq_true, beq_iff_eq, ih]
    generalize 10 ^ B.length = P at *
    rcases Nat.lt_trichotomy a b with h3 | h3 | h3
    · have : P * (a - 48 + 1) ≤ P * (b - 48) := Nat.mul_le_mul_left _ (by omega)
      rw [Nat.mul_add] at this
      constructor
      · intro _; omega
      · intro _; exact .inl h3
    · subst h3
      constructor
      · rintro (h4 | h4)
        · omega
        · omega
      · intro h4; exact .inr ⟨rfl, by omega⟩
    · have : P * (b - 48 + 1) ≤ P * (a - 48) := Nat.mul_le_mul_left _ (by omega)
      rw [Nat.mul_add] at this
      constructor
      · rintro (h4 | h4) <;> omega
      · intro h4; exfalso; omega

theorem bytesLess_lessL : ∀ (a b : List UInt8), Op.bytesLess a b = lessL (a.map UInt8.toNat) (b.map UInt8.toNat)
  | [], [] => rfl
  | [], _ :: _ => rfl
  | _ :: _, [] => rfl
  | a :: l, b :: m => by
    have ih := bytesLess_lessL l m
    have e1 : (decide (a < b)) = decide (a.toNat < b.toNat) := by rw [Bool.eq_iff_iff]; simp [UInt8.lt_iff_toNat_lt]
    have e2 : (a == b) = (a.toNat == b.toNat) := by rw [Bool.eq_iff_iff]; simp [UInt8.toNat_inj]
    simp only [Op.bytesLess, List.map_cons, lessL, ih, e1, e2]

theorem strLess {x y : Nat} (h : (textL x).length = (textL y).length) : Op.bytesLess (strOf (textL x)).data.toList (strOf (textL y)).data.toList = decide (x < y) := by
  have e : ∀ n, (strOf (textL n)).data.toList.map UInt8.toNat = textL n := fun n => textL_bytes n
  rw [bytesLess_lessL, e, e, Bool.eq_iff_iff, less_pv (textL_dig x) (textL_dig y) h, pv_textL, pv_textL, decide_eq_true_eq]

theorem naturalDecimal_law (A0 : Option Addr) (n0 c0 : Nat) (l0 : List Nat) (A1 : Option Addr) (n1 c1 : Nat) (l1 : List Nat) (w0 : World) (h0 : SN w0 A0 n0 c0 l0) (L0 : Limbs l0) (h1 : SN w0 A1 n1 c1 l1) (L1 : Limbs l1) :
    Fn Try.prog 9 [.slice A0 n0 c0, .slice A1 n1 c1] w0 (fun v w' => v = .bool true ∧ Ext w0 w') := by
  refine fn_of_exec (c := { c9 with cuts := [7, 17] }) gx_ok Try.func9 rfl rfl rfl ?_
  refine call (sanityN w0) ?_
  rintro v w1 ⟨rfl, hE0⟩
  replace h0 := h0.ext hE0
  replace h1 := h1.ext hE0
  refine call (madeN _ _ _ _ 20 _ h0 L0 (by omega)) ?_
  rintro v w2 ⟨Ax, cx, x, rfl, Lx, hx, hE⟩
  replace h1 := h1.ext hE
  replace hE0 := hE0.trans hE
  refine call (madeN _ _ _ _ 20 _ h1 L1 (by omega)) ?_
  rintro v w3 ⟨Ay, cy, y, rfl, Ly, hy, hE⟩
  replace hx := hx.ext hE
  replace hE0 := hE0.trans hE
  refine call (textN 20 hx Lx (by omega)) ?_
  rintro v w4 ⟨rfl, hE⟩
  replace hx := hx.ext hE
  replace hy := hy.ext hE
  replace hE0 := hE0.trans hE
  refine call (textN 20 hy Ly (by omega)) ?_
  rintro v w5 ⟨rfl, hE⟩
  replace hx := hx.ext hE
  replace hy := hy.ext hE
  replace hE0 := hE0.trans hE
  have hsx := strOf_size (textL x)
  have hsy := strOf_size (textL y)
  have hpx := textL_pos x
  have hlx : (textL x).length ≤ 200 := by
    rw [textL_length]; unfold decD; split
    · simp
    · rw [decL_len]
      refine Nat.lt_of_lt_of_le Lx ?_
      refine Nat.le_trans (Nat.pow_le_pow_left (by decide : 4294967296 ≤ 10 ^ 10) 20) ?_
      rw [← Nat.pow_mul]
      exact Nat.pow_le_pow_right (by omega) (by omega)
  have hly : (textL y).length ≤ 200 := by
    rw [textL_length]; unfold decD; split
    · simp
    · rw [decL_len]
      refine Nat.lt_of_lt_of_le Ly ?_
      refine Nat.le_trans (Nat.pow_le_pow_left (by decide : 4294967296 ≤ 10 ^ 10) 20) ?_
      rw [← Nat.pow_mul]
      exact Nat.pow_le_pow_right (by omega) (by omega)
  refine call (parse_fn _ _ (by unfold maxLen; omega)) ?_
  rintro v w6 ⟨Ab, cb, rfl, hb, hE⟩
  have ep : parL (bytesOf (strOf (textL x))) = toL x := by rw [textL_bytes, parL_yes (parseOk_textL x), pv_textL, lt_resL Lx (by omega)]
  have ee : parE (bytesOf (strOf (textL x))) = 0 := by rw [textL_bytes, parE_yes (parseOk_textL x), pv_textL, lt_resE Lx (by omega)]
  rw [ep] at hb ⊢
  rw [ee]
  replace hx := hx.ext hE
  replace hy := hy.ext hE
  replace hE0 := hE0.trans hE
  refine cut gx_ok [] (fun _ : Unit => []) (fun _ w => Ext w6 w) ?_ ?_
  · refine wif_nef rfl ?_
    refine call (sameT hb hx rfl) ?_
    rintro v w7 ⟨rfl, hE7⟩
    refine wif_not (wif_t rfl ?_)
    refine wif_df (fun e => ?_) ?_
    · have := str_empty.1 e
      rw [textL_bytes] at this
      rw [this] at hpx; simp at hpx
    refine wif_d (fun h2 => ?_) (fun h2 => ?_)
    · refine sindex' (j := 0) (by omega) (fun z hz hz2 => ?_)
      rw [textL_bytes] at hz
      refine wif_eqf (fun e => ?_) ?_
      · exact textL_head (x := x) (by omega) (by rw [hz]; congr 1; omega)
      · exact ⟨(), rfl, hE7⟩
    · exact ⟨(), rfl, hE7⟩
  rintro _ w7 hE7
  replace hx := hx.ext hE7
  replace hy := hy.ext hE7
  replace hE0 := hE0.trans hE7
  refine at_build0 gx_ok rfl rfl rfl rfl rfl rfl ?_
  intro w8 hE8 hsz8 hB8
  have hv0 : NV w8 (some ⟨w7.heap.size, 0, none⟩) 0 0 := Sl.own' hB8 rfl (by show 0 ≤ maxLen; exact Nat.zero_le _)
  replace hx := hx.ext hE8
  replace hy := hy.ext hE8
  replace hE0 := hE0.trans hE8
  refine loop gx_ok [13, 12] (fun s : Nat × Option Addr × Nat => [.int .i64 s.1, .slice s.2.1 (toL (pv ((textL x).take s.1))).length s.2.2]) (fun s w9 => Ext w8 w9 ∧ s.1 ≤ (textL x).length ∧ NV w9 s.2.1 s.2.2 (pv ((textL x).take s.1))) (fun s _ => (textL x).length - s.1) (0, some ⟨w7.heap.size, 0, none⟩, 0) rfl ⟨Ext.refl _, Nat.zero_le _, hv0⟩ ?_
  rintro ⟨i, A, c⟩ w9 ⟨hE9, hi, hv⟩
  dsimp only at hi hv ⊢
  refine wif_d (fun h2 => ?_) (fun h2 => ?_)
  · have hxi : (textL x)[i]? = some (textL x)[i] := List.getElem?_eq_getElem (by omega)
    have hd := textL_dig x _ (List.mem_of_getElem? hxi)
    have hsucc := pv_take_succ hxi
    have hle := pv_take_le (textL x) i
    have hle2 := pv_take_le (textL x) (i + 1)
    rw [pv_textL] at hle hle2
    generalize (textL x)[i] = z at *
    have Lv : Lt 20 (pv ((textL x).take i)) := lt_le Lx hle
    refine sindex' (j := i) (by omega) (fun u hu hu2 => ?_)
    rw [textL_bytes, hxi] at hu; cases hu
    refine wif_df (by omega) ?_
    refine sindex' (j := i) (by omega) (fun u hu hu2 => ?_)
    rw [textL_bytes, hxi] at hu; cases hu
    refine wif_df (by omega) ?_
    refine draw_pick gx_ok [0, 3, 4, 5, 6, 7] [1, 2, 8, 9, 10] (by kernel_rfl) ?_
    refine sindex' (j := i) (by omega) (fun u hu hu2 => ?_)
    rw [textL_bytes, hxi] at hu; cases hu
    refine norm (sub48 hd.1 hd.2) ?_
    refine norm_u64 (by omega) ?_
    refine call (ofN 10 _ (by omega)) ?_
    rintro v w10 ⟨A10, c10, rfl, h10, hE10⟩
    replace hv := (hv.ext (Ext.drew w9)).ext hE10
    refine call (mulN 20 1 hv h10 Lv (by decide) (by omega)) ?_
    rintro v w11 ⟨A11, c11, rfl, h11, hE11⟩
    refine call (ofN (z - 48) _ (by omega)) ?_
    rintro v w12 ⟨A12, c12, rfl, h12, hE12⟩
    have e9 : pv ((textL x).take i) * 10 + (z - 48) = pv ((textL x).take (i + 1)) := by omega
    refine call (addN 20 (h11.ext hE12) h12 (by rw [e9]; exact lt_le Lx hle2) (by omega)) ?_
    rintro v w13 ⟨A13, c13, rfl, h13, hE13⟩
    rw [e9] at h13 ⊢
    refine norm_i64_to ((i + 1 : Nat) : Int) (by omega) (by omega) ?_
    exact ⟨(i + 1, A13, c13), rfl, ⟨hE9.trans ((Ext.drew w9).trans (hE10.trans (hE11.trans (hE12.trans hE13)))), by show i + 1 ≤ (textL x).length; omega, h13⟩, by show (textL x).length - (i + 1) < (textL x).length - i; omega⟩
  · rw [List.take_of_length_le (by omega), pv_textL] at hv ⊢
    replace hx := hx.ext hE9
    replace hy := hy.ext hE9
    replace hE0 := hE0.trans hE9
    refine cut gx_ok [14] (fun o : Int => [.int .i64 o]) (fun o w => w = w9 ∧ o = cmpN x y) ?_ ?_
    · refine wif_d (fun h3 => ?_) (fun h3 => ?_)
      · have hlt : x < y := by
          rcases Nat.lt_or_ge x y with h | h
          · exact h
          · have := textL_len_mono h; omega
        exact ⟨-1, rfl, rfl, (cmpN_lt hlt).symm⟩
      · have other : (¬ ((strOf (textL x)).size = (strOf (textL y)).size ∧ x < y)) → WIf (decide (strOf (textL x) = strOf (textL y))) (cmpN x y = 0) (cmpN x y = 1) := fun hn => by
          have hxy : ¬ x < y := fun h => by
            have := textL_len_mono (Nat.le_of_lt h)
            exact hn ⟨by omega, h⟩
          refine wif_d (fun e => ?_) (fun e => ?_)
          · have := strOf_inj (textL_lt x) (textL_lt y) e
            rw [textL_inj this]; exact cmpN_eq rfl
          · have : x ≠ y := fun e2 => e (by rw [e2])
            exact cmpN_gt (by omega)
        refine wif_eq (fun h4 => ?_) (fun h4 => ?_)
        · refine wif (b := Op.bytesLess (strOf (textL x)).data.toList (strOf (textL y)).data.toList) (fun h5 => ?_) (fun h5 => ?_)
          · rw [strLess (by omega), decide_eq_true_eq] at h5
            exact ⟨-1, rfl, rfl, (cmpN_lt h5).symm⟩
          · rw [strLess (by omega), decide_eq_false_iff_not] at h5
            have ho := other (fun h => h5 h.2)
            unfold WIf at ho
            refine wif_not (wif (fun h6 => ?_) (fun h6 => ?_))
            · exact ⟨0, rfl, rfl, (ho.1 h6).symm⟩
            · exact ⟨1, rfl, rfl, (ho.2 h6).symm⟩
        · have ho := other (fun h => h4 (by omega))
          unfold WIf at ho
          refine wif_not (wif (fun h6 => ?_) (fun h6 => ?_))
          · exact ⟨0, rfl, rfl, (ho.1 h6).symm⟩
          · exact ⟨1, rfl, rfl, (ho.2 h6).symm⟩
    rintro o w10 ⟨rfl, rfl⟩
    refine call (sameT hv hx rfl) ?_
    rintro v w11 ⟨rfl, hE11⟩
    refine wif_t rfl ?_
    refine call (compareN 20 20 (hx.ext hE11) (hy.ext hE11) Lx Ly (by omega) (by omega)) ?_
    rintro v w12 ⟨rfl, hE12⟩
    refine wif_eqt rfl ?_
    exact And.intro rfl (hE0.trans (hE11.trans hE12))
end Go.Proofs.Ytpalpikenkkhlaa
