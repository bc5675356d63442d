/-
  Text of both: the contracts.
  Conditions: none.
-/
import Derived.Test.YtpalpikenkkhlaaT8
import Derived.Test.YtpalpikenkkhlaaNum3
namespace Go.Proofs.Ytpalpikenkkhlaa
open Go Go.RowKit

def textS (a : List Nat) : ByteArray := if Vd a then strOf (textL (val a)) else strOf []

theorem ten_nine {D D' : List Nat} {v : Nat} (hl : D'.length = D.length + 9) (h : dval D' = dval D + 10 ^ D.length * (v % 1000000000)) {V : Nat} (hV : V = dval D + 10 ^ D.length * v) : V = dval D' + 10 ^ D'.length * (v / 1000000000) := by
  rw [h, hl, Nat.pow_add, hV]
  have := Nat.mod_add_div v 1000000000
  have e : (10 : Nat) ^ 9 = 1000000000 := rfl
  rw [e]
  generalize v % 1000000000 = x at *
  generalize v / 1000000000 = y at *
  generalize 10 ^ D.length = P at *
  grind

theorem dig_step {D : List Nat} {r : Nat} {V : Nat} (h : dval D + 10 ^ D.length * r = V) : dval (D ++ [r % 10]) + 10 ^ (D ++ [r % 10]).length * (r / 10) = V := by
  rw [dval_snoc, List.length_append, List.length_singleton, Nat.pow_succ, ← h]
  have := Nat.mod_add_div r 10
  generalize r % 10 = x at *
  generalize r / 10 = y at *
  generalize 10 ^ D.length = P at *
  grind

theorem text_fn (A : Option Addr) (n c : Nat) (a : List Nat) (w : World) (ha : SN w A n c a) (hLa : Limbs a) :
    Fn Try.prog 17 [.slice A n c] w (fun v w' => v = .string (textS a) ∧ Ext w w') := by
  have hla := ha.length
  refine fn_of_exec (c := { c17 with cuts := [12] }) gx_ok Try.func17 rfl rfl rfl ?_
  unfold textS
  refine call (valid_fn _ _ _ _ _ ha) ?_
  rintro v w' ⟨rfl, rfl⟩
  refine wif_not (wif_d (fun hva => ?_) (fun hva => ?_))
  case refine_2 => rw [if_neg hva]; exact And.intro rfl (Ext.refl _)
  rw [if_pos hva]
  have hn1024 : n ≤ 1024 := by have := hva.1; omega
  have hV := Nat.lt_of_lt_of_le (val_lt hLa) (pow_le_pow (show a.length ≤ 1024 by omega))
  refine at_build0 gx_ok rfl rfl rfl rfl rfl rfl ?_
  intro w1 hE1 hsz hB
  have hown : Own w1 w'.heap.size 5 1 (some ⟨w'.heap.size, 0, none⟩) 0 0 [] := Own.empty hB (Nat.le_refl _)
  refine loop gx_ok [3, 0] (fun s : (Option Addr × Nat × Nat) × (Option Addr × Nat × Nat) × Nat => [.slice s.1.1 s.1.2.1 s.1.2.2, .slice s.2.1.1 s.2.1.2.1 s.2.1.2.2])
    (fun s w2 => Ext w' w2 ∧ ∃ D, D.length = s.1.2.1 ∧ DigL D ∧ Own w2 w'.heap.size 5 1 s.1.1 s.1.2.1 s.1.2.2 (bytesV (D.map (48 + ·))) ∧ SN w2 s.2.1.1 s.2.1.2.1 s.2.1.2.2 (toL s.2.2) ∧ s.2.1.2.1 ≤ 1024 ∧ val a = dval D + 10 ^ D.length * s.2.2 ∧ (val a = 0 → D = []) ∧ D.length ≤ 10300)
    (fun s _ => s.2.2) ((some ⟨w'.heap.size, 0, none⟩, 0, 0), (A, n, c), val a) rfl ⟨hE1, [], rfl, digs_nil, hown, by rw [toL_vd hLa hva]; exact ha.ext hE1, hn1024, by simp [dval], fun _ => rfl, Nat.zero_le _⟩ ?_
  rintro ⟨⟨A1, k1, c1⟩, ⟨A2, k2, c2⟩, v⟩ w2 ⟨hE2, D, hD, hLD, ho, hs, hk2, hval, hz, hDl⟩
  dsimp only at hD ho hs hk2 hval ⊢
  have hls := hs.length
  refine wif_d (fun h2 => ?_) (fun h2 => ?_)
  · have hv0 : 0 < v := by
      rcases Nat.eq_zero_or_pos v with h | h
      · subst h; simp [toL_zero] at hls; omega
      · exact h
    have hDb : D.length < 10 * 1024 := digits_bd hV hv0 (by omega)
    refine call (short_fn _ _ _ 1000000000 _ _ hs (limbs_toL v) hk2 (by omega) (by omega)) ?_
    rintro u w3 ⟨A3, c3, rfl, hs3, hF3, hE3⟩
    rw [val_toL] at hs3 ⊢
    have hr : v % 1000000000 < 1000000000 := Nat.mod_lt _ (by omega)
    refine loop gx_ok [20, 3, 5] (fun s : Nat × (Option Addr × Nat × Nat) × Nat => [.int .i64 s.1, .slice s.2.1.1 s.2.1.2.1 s.2.1.2.2, .int .u32 s.2.2])
      (fun s w4 => Ext w' w4 ∧ SN w4 A3 (toL (v / 1000000000)).length c3 (toL (v / 1000000000)) ∧ (∀ ad ad3, s.2.1.1 = some ad → A3 = some ad3 → ad3.block ≠ ad.block) ∧ Fresh w2 w4 A3 ∧ s.1 ≤ 9 ∧ s.2.2 < 10 ^ (9 - s.1) ∧ ∃ E, E.length = s.2.1.2.1 ∧ E.length = D.length + s.1 ∧ DigL E ∧ Own w4 w'.heap.size 5 1 s.2.1.1 s.2.1.2.1 s.2.1.2.2 (bytesV (E.map (48 + ·))) ∧ dval E + 10 ^ E.length * s.2.2 = dval D + 10 ^ D.length * (v % 1000000000))
      (fun s _ => 9 - s.1) (0, (A1, k1, c1), v % 1000000000) rfl ⟨hE2.trans hE3, hs3, ?_, hF3, Nat.zero_le _, hr, D, hD, rfl, hLD, ho.ext hE3, rfl⟩ ?_
    · intro ad ad3 e1 e2
      have h1 := (hF3 ad3 e2).1
      have h2 := (ho.row.lt ad.block (by simp only at e1; rw [e1]; rfl)).2
      omega
    rintro ⟨j, ⟨A4, k4, c4⟩, r⟩ w4 ⟨hE4, hs4, hap, hF4, hj, hrj, E, hEl, hEl2, hLE, hoE, hdE⟩
    dsimp only at hap hj hrj hEl hEl2 hoE hdE ⊢
    refine wif_d (fun h3 => ?_) (fun h3 => ?_)
    · have hrb : r < 1000000000 := Nat.lt_of_lt_of_le hrj (by have := Nat.pow_le_pow_right (n := 10) (by omega) (show 9 - j ≤ 9 by omega); exact this)
      refine norm_rem (d := 10) (by omega) ?_
      refine norm_u32_to ((48 + r % 10 : Nat) : Int) (by omega) (by omega) ?_
      refine norm_u8_to ((48 + r % 10 : Nat) : Int) rfl (by omega) ?_
      refine at_build1 gx_ok rfl rfl rfl rfl rfl rfl rfl rfl ?_
      intro w5 hE5 hsz5 hB5
      have hs5 : Sl w5 1 (some ⟨w4.heap.size, 0, none⟩) 1 1 (bytesV [48 + r % 10]) := Sl.own' hB5 rfl (by simp [maxLen])
      refine at_append' gx_ok rfl rfl rfl rfl rfl rfl rfl ⟨_, rfl⟩ rfl rfl (hoE.ext hE5) hs5 (bytesV_scalar _) (by unfold maxLen; omega) (by show _ * 1 ≤ _; omega) (by have := hE4.size; have := hE5.size; omega) ?_
      intro A5 c5 w6 hgr6 ho6 hnew6
      have hE6 : Ext w' w6 := (hE4.trans hE5).row (Nat.le_refl _) (hoE.ext hE5) hgr6
      refine normIf (m := ((r / 10 : Nat) : Int)) (by decide) ?_ ?_
      · have := tdiv_nat r 10
        rw [show ((10 : Nat) : Int) = 10 from rfl] at this
        rw [this]; exact IntWalk.u32_in _ (by omega)
      refine norm_i64_to ((j + 1 : Nat) : Int) (by omega) (by omega) ?_
      have hap5 : ∀ g ad3, (Value.slice A4 k4 c4).ownBlock = some g → A3 = some ad3 → ad3.block ≠ g := by
        intro g ad3 e1 e2
        cases A4 with
        | none => simp [Value.ownBlock] at e1
        | some ad => simp [Value.ownBlock] at e1; rw [← e1]; exact hap ad ad3 rfl e2
      have hs6 := (hs4.ext hE5).apart hgr6 hap5
      refine ⟨(j + 1, (A5, k4 + 1, c5), r / 10), rfl, ⟨hE6, hs6, ?_, fun ad3 e2 => ⟨(hF4 ad3 e2).1, Nat.lt_of_lt_of_le (hF4 ad3 e2).2 (Nat.le_trans hE5.size hgr6.size)⟩, by show j + 1 ≤ 9; omega, ?_, E ++ [r % 10], by simp [hEl], by simp; omega, digs_append.2 ⟨hLE, digs_cons.2 ⟨Nat.mod_lt _ (by omega), digs_nil⟩⟩, ?_, dig_step hdE⟩, by show 9 - (j + 1) < 9 - j; omega⟩
      · intro ad ad3 e1 e2
        rcases hnew6 ad e1 with h | h
        · exact hap ad ad3 h e2
        · have := (hF4 ad3 e2).2
          have := hE5.size
          omega
      · show r / 10 < 10 ^ (9 - (j + 1))
        rw [show 9 - j = 9 - (j + 1) + 1 by omega, Nat.pow_succ] at hrj
        omega
      · show Own w6 _ _ 1 A5 (k4 + 1) c5 (bytesV ((E ++ [r % 10]).map (48 + ·)))
        rw [List.map_append, bytesV_append]; exact ho6
    · have : j = 9 := by omega
      subst this
      simp at hrj
      subst hrj
      rw [Nat.mul_zero, Nat.add_zero] at hdE
      have hval' := ten_nine hEl2 hdE hval
      refine ⟨((A4, k4, c4), (A3, (toL (v / 1000000000)).length, c3), v / 1000000000), rfl, ⟨hE4, E, hEl, hLE, hoE, hs4, ?_, hval', ?_, by omega⟩, by show v / 1000000000 < v; omega⟩
      · show (toL (v / 1000000000)).length ≤ 1024
        have := toL_mono (show v / 1000000000 ≤ v by omega); omega
      · intro h0
        have := Nat.pow_pos (n := D.length) (show 0 < 10 by omega)
        have h5 := Nat.mul_le_mul this hv0
        omega
  · have hv0 : v = 0 := by
      have : toL v = [] := List.eq_nil_of_length_eq_zero (by omega)
      exact toL_eq_nil.1 this
    subst hv0
    rw [Nat.mul_zero, Nat.add_zero] at hval
    have hso := ho.sl
    have hk1 := hso.le
    have hc1 : (c1 : Int) ≤ 9223372036854775807 := by have := hso.cap; unfold maxLen at this; omega
    refine cut gx_ok [3] (fun k : Nat => [.slice A1 k c1]) (fun k w3 => w3 = w2 ∧ k ≤ k1 ∧ ((k = 0 ∧ textL (val a) = [48]) ∨ (0 < k ∧ D.take k = decD (val a)))) ?_ ?_
    · refine loop gx_ok [3] (fun k : Nat => [.slice A1 k c1]) (fun k w3 => w3 = w2 ∧ k ≤ k1 ∧ ∀ x ∈ D.drop k, x = 0) (fun k _ => k) k1 rfl ⟨rfl, Nat.le_refl _, by rw [← hD]; simp⟩ ?_
      rintro k w3 ⟨rfl, hk, hz3⟩
      have hsk : Sl w3 1 A1 k c1 (bytesV ((D.take k).map (48 + ·))) := by
        have := hso.take hk
        rwa [Nat.mul_one, ← bytesV_take, ← List.map_take] at this
      have fin : (k ≤ 1 ∨ ∃ x, D[k - 1]? = some x ∧ x ≠ 0) → (k = 0 ∧ textL (val a) = [48]) ∨ (0 < k ∧ D.take k = decD (val a)) := by
        intro hlast
        rcases Nat.eq_zero_or_pos (val a) with h0 | h0
        · left
          rw [hz h0] at hD
          simp at hD
          refine ⟨by omega, ?_⟩
          rw [h0]; rfl
        · right
          have hk0 : 0 < k := by
            rcases Nat.eq_zero_or_pos k with h | h
            · subst h
              have := dval_drop_zero hz3
              simp [dval] at this
              omega
            · exact h
          refine ⟨hk0, ?_⟩
          unfold decD
          rw [if_neg (by omega), hval]
          refine dstrip_eq hLD hz3 ?_
          rcases hlast with h | h
          · have hk1' : k = 1 := by omega
            subst hk1'
            right
            have hx : D[0]? = some D[0] := List.getElem?_eq_getElem (by omega)
            refine ⟨D[0], hx, fun h00 => ?_⟩
            have := drop_pred (l := D) (k := 1) (by omega) hz3 (by rw [← h00]; exact hx)
            have := dval_drop_zero this
            simp [dval] at this
            omega
          · exact .inr h
      refine wif_d (fun h3 => ?_) (fun h3 => ?_)
      · refine norm_i64_to ((k - 1 : Nat) : Int) (by omega) (by omega) ?_
        refine index_sl hsk (by omega) (fun ad u hA hu hcell => ?_)
        obtain ⟨y, hy, rfl⟩ := bytesV_get hu
        obtain ⟨x, hx, rfl⟩ : ∃ x, D[k - 1]? = some x ∧ y = 48 + x := by
          rw [List.getElem?_map, List.getElem?_take, if_pos (by omega)] at hy
          cases hd : D[k - 1]? with
          | none => rw [hd] at hy; simp at hy
          | some x => rw [hd] at hy; simp at hy; exact ⟨x, rfl, hy.symm⟩
        refine load hcell ?_
        refine wif_eq (fun h4 => ?_) (fun h4 => ?_)
        · refine norm_i64_to ((k - 1 : Nat) : Int) (by omega) (by omega) ?_
          refine at_slice_h gx_ok rfl rfl rfl rfl rfl rfl (by omega) ?_
          have : x = 0 := by omega
          subst this
          exact ⟨k - 1, rfl, ⟨rfl, by omega, drop_pred (by omega) hz3 hx⟩, by show k - 1 < k; omega⟩
        · exact ⟨k, rfl, rfl, hk, fin (.inr ⟨x, hx, by omega⟩)⟩
      · exact ⟨k, rfl, rfl, hk, fin (.inl (by omega))⟩
    rintro k w3 ⟨rfl, hk, hk3⟩
    refine wif_eq (fun h3 => ?_) (fun h3 => ?_)
    · rcases hk3 with ⟨_, ht⟩ | ⟨h, _⟩
      · refine And.intro ?_ hE2
        rw [ht]; rfl
      · omega
    rcases hk3 with ⟨h, _⟩ | ⟨hk0, hDk⟩
    · omega
    have hsk : Sl w3 1 A1 k c1 (bytesV ((decD (val a)).map (48 + ·))) := by
      have := hso.take hk
      rwa [Nat.mul_one, ← bytesV_take, ← List.map_take, hDk] at this
    have hlD : (decD (val a)).length = k := by rw [← hDk, List.length_take]; omega
    have hT : textL (val a) = ((decD (val a)).map (48 + ·)).reverse := by rw [textL, List.map_reverse]
    have hlT : (textL (val a)).length = k := by rw [hT]; simp [hlD]
    refine at_make gx_ok rfl rfl rfl rfl rfl rfl rfl rfl (by show 1 * _ ≤ _; omega) (by unfold maxLen; omega) ?_
    intro w4 hE4 hsz4 hB4
    refine loop gx_ok [58] (fun i : Nat => [.int .i64 i]) (fun i w5 => Ext w3 w5 ∧ i ≤ k ∧ Blk w5 w3.heap.size 5 (bytesV ((textL (val a)).take i) ++ List.replicate (k - i) (.int .u8 0))) (fun i _ => k - i) 0 rfl ⟨hE4, Nat.zero_le _, by simpa [bytesV] using hB4⟩ ?_
    rintro i w5 ⟨hE5, hi, hB5⟩
    refine wif_d (fun h5 => ?_) (fun h5 => ?_)
    · refine norm_i64_to ((k - 1 : Nat) : Int) (by omega) (by omega) ?_
      refine norm_i64_to ((k - 1 - i : Nat) : Int) (by omega) (by omega) ?_
      refine index_sl (hsk.ext hE5) (by omega) (fun ad u hA hu hcell => ?_)
      obtain ⟨y, hy, rfl⟩ := bytesV_get hu
      refine load hcell ?_
      refine index (by omega) ?_
      rw [show k - i = (k - (i + 1)) + 1 by omega, List.replicate_succ] at hB5
      refine store_blk hB5 (by rw [List.length_append, bytesV_length, List.length_take]; simp; omega) ?_
      intro w6 hgr6 hB6
      have hTi : (textL (val a))[i]? = some y := by
        rw [hT, List.getElem?_reverse (by simp; omega)]
        rw [← hy]; congr 1; simp [hlD]
      rw [set_mid' _ _ _ _ (by rw [bytesV_length, List.length_take]; omega)] at hB6
      refine norm_i64_to ((i + 1 : Nat) : Int) (by omega) (by omega) ?_
      refine ⟨i + 1, rfl, ⟨hE5.own hgr6 (Nat.le_refl _), by omega, ?_⟩, by show k - (i + 1) < k - i; omega⟩
      rw [List.take_add_one, hTi, bytesV_append]
      exact hB6
    · have : i = k := by omega
      subst this
      rw [Nat.sub_self, List.replicate_zero, List.append_nil, List.take_of_length_le (by omega)] at hB5
      have hs5 : Sl w5 1 (some ⟨w3.heap.size, 0, none⟩) i i (bytesV (textL (val a))) := Sl.own' hB5 (by rw [bytesV_length]; exact hlT) (by unfold maxLen; omega)
      refine at_str gx_ok rfl rfl rfl rfl rfl rfl rfl rfl hs5 ?_
      exact And.intro rfl (hE2.trans hE5)

theorem decL_cons {v : Nat} (h : 0 < v) : decL v = v % 10 :: decL (v / 10) := decL_pos h

theorem rtext_fn (A : Option Addr) (n c : Nat) (a : List Nat) (w : World) (ha : SN w A n c a) (hLa : Limbs a) :
    Fn Try.prog 18 [.slice A n c] w (fun v w' => v = .string (textS a) ∧ Ext w w') := by
  have hla := ha.length
  refine fn_of_exec (c := c18) gx_ok Try.func18 rfl rfl rfl ?_
  unfold textS
  refine call (rvalid_fn _ _ _ _ _ ha) ?_
  rintro v w' ⟨rfl, rfl⟩
  refine wif_not (wif_d (fun hva => ?_) (fun hva => ?_))
  case refine_2 => rw [if_neg hva]; exact And.intro rfl (Ext.refl _)
  rw [if_pos hva]
  have hn1024 : n ≤ 1024 := by have := hva.1; omega
  have hV := Nat.lt_of_lt_of_le (val_lt hLa) (pow_le_pow (show a.length ≤ 1024 by omega))
  refine wif_eq (fun h0 => ?_) (fun h0 => ?_)
  · have : a = [] := List.eq_nil_of_length_eq_zero (by omega)
    subst this
    exact And.intro rfl (Ext.refl _)
  have hpos : 0 < val a := val_pos hva (fun e => by subst e; simp at hla; omega)
  have hdD : decD (val a) = decL (val a) := by unfold decD; rw [if_neg (by omega)]
  refine loop gx_ok [3, 0] (fun s : List Nat × (Option Addr × Nat × Nat) × Nat => [.string (strOf (s.1.reverse.map (48 + ·))), .slice s.2.1.1 s.2.1.2.1 s.2.1.2.2])
    (fun s w2 => Ext w' w2 ∧ SN w2 s.2.1.1 s.2.1.2.1 s.2.1.2.2 (toL s.2.2) ∧ s.2.1.2.1 ≤ 1024 ∧ decL (val a) = s.1 ++ decL s.2.2)
    (fun s _ => s.2.2) ([], (A, n, c), val a) rfl ⟨Ext.refl _, by rw [toL_vd hLa hva]; exact ha, hn1024, rfl⟩ ?_
  rintro ⟨D, ⟨A2, k2, c2⟩, v⟩ w2 ⟨hE2, hs, hk2, hval⟩
  dsimp only at hs hk2 hval ⊢
  have hls := hs.length
  refine wif_d (fun h2 => ?_) (fun h2 => ?_)
  · have hv0 : 0 < v := by
      rcases Nat.eq_zero_or_pos v with h | h
      · subst h; simp [toL_zero] at hls; omega
      · exact h
    have hDb : D.length < 10 * 1024 := by
      refine digits_bd hV hv0 ?_
      have h1 := dval_toL (val a)
      rw [hval, dval_append, dval_toL] at h1
      omega
    refine call (small_fn _ _ _ 10 _ _ hs (limbs_toL v) hk2 (by omega) (by omega)) ?_
    rintro u w3 ⟨A3, c3, rfl, hs3, _, hE3⟩
    rw [val_toL] at hs3 ⊢
    have hr : v % 10 < 10 := Nat.mod_lt _ (by omega)
    refine norm_u64_to ((48 + v % 10 : Nat) : Int) (by omega) (by omega) ?_
    refine norm_u8_to ((48 + v % 10 : Nat) : Int) rfl (by omega) ?_
    refine at_build1 gx_ok rfl rfl rfl rfl rfl rfl rfl rfl ?_
    intro w5 hE5 hsz5 hB5
    have hs5 : Sl w5 1 (some ⟨w3.heap.size, 0, none⟩) 1 1 (bytesV [48 + v % 10]) := Sl.own' hB5 rfl (by simp [maxLen])
    refine at_str gx_ok rfl rfl rfl rfl rfl rfl rfl rfl hs5 ?_
    refine need (by rw [strOf_size, strOf_size]; simp [maxLen]; omega) ?_
    rw [strOf_append]
    refine ⟨(D ++ [v % 10], (A3, (toL (v / 10)).length, c3), v / 10), ?_, ⟨hE2.trans (hE3.trans hE5), hs3.ext hE5, ?_, ?_⟩, by show v / 10 < v; omega⟩
    · have : (D ++ [v % 10]).reverse.map (48 + ·) = [48 + v % 10] ++ D.reverse.map (48 + ·) := by simp
      show zipK [3, 0] [.string (strOf ((D ++ [v % 10]).reverse.map (48 + ·))), .slice A3 (toL (v / 10)).length c3] _ _
      rw [this]; rfl
    · show (toL (v / 10)).length ≤ 1024
      have := toL_mono (show v / 10 ≤ v by omega); omega
    · show decL (val a) = (D ++ [v % 10]) ++ decL (v / 10)
      rw [hval, decL_pos hv0]; simp
  · have hv0 : v = 0 := by
      have : toL v = [] := List.eq_nil_of_length_eq_zero (by omega)
      exact toL_eq_nil.1 this
    subst hv0
    rw [decL_zero, List.append_nil] at hval
    refine And.intro ?_ hE2
    rw [textL, hdD, hval]
end Go.Proofs.Ytpalpikenkkhlaa
