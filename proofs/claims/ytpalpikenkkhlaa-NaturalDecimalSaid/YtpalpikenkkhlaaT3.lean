/-
  Long, Same and Compare: the contracts.
  Conditions: none.
-/
import Derived.Test.YtpalpikenkkhlaaT2
namespace Go.Proofs.Ytpalpikenkkhlaa
open Go Go.RowKit

theorem cells_inj {l m : List Nat} (h : cells l = cells m) : l = m := by
  induction l generalizing m with
  | nil => cases m with
    | nil => rfl
    | cons y m => simp [cells] at h
  | cons x l ih => cases m with
    | nil => simp [cells] at h
    | cons y m =>
      simp only [cells, List.map_cons, List.cons.injEq] at h
      obtain ⟨h1, h2⟩ := h
      have : (x : Int) = y := by injection h1
      rw [ih h2]; congr 1; omega

theorem same_fn (A B : Option Addr) (n c m d : Nat) (a b : List Nat) (w : World) (ha : SN w A n c a) (hb : SN w B m d b) :
    Fn Try.prog 19 [.slice A n c, .slice B m d] w (fun v w' => v = .bool (decide (a = b)) ∧ Ext w w') := by
  have hla := ha.length
  have hlb := hb.length
  have hba := ha.bd
  have hbb := hb.bd
  refine fn_of_exec (c := c19) gx_ok Try.func19 rfl rfl rfl ?_
  refine wif_ne (fun h1 => ?_) (fun h1 => ?_)
  · refine And.intro ?_ (Ext.refl w)
    rw [decide_eq_false]
    intro h2; subst h2; omega
  · have hnm : n = m := by omega
    subst hnm
    refine loop gx_ok [5] (fun i : Nat => [.int .i64 i]) (fun i w' => Ext w w' ∧ i ≤ n ∧ a.take i = b.take i) (fun i _ => n - i) 0 rfl ⟨Ext.refl w, Nat.zero_le n, rfl⟩ ?_
    intro i w' hI
    obtain ⟨hE, hin, ht⟩ := hI
    refine wif_d (fun h2 => ?_) (fun h2 => ?_)
    · refine draw gx_ok (by kernel_rfl) ?_
      refine index_sl (ha.ext hE) (by omega) (fun ad u hA hu hcell => ?_)
      obtain ⟨x, hx, rfl⟩ := cells_get hu
      refine qload (fun w2 h2 => h2.cell hcell) ?_
      refine index_sl (hb.ext hE) (by omega) (fun ad2 u2 hA2 hu2 hcell2 => ?_)
      obtain ⟨y, hy, rfl⟩ := cells_get hu2
      refine qload (fun w2 h2 => h2.cell hcell2) ?_
      intro w2 hE2
      refine wif_ne (fun h3 => ?_) (fun h3 => ?_)
      · refine And.intro ?_ (hE.trans hE2)
        rw [decide_eq_false]
        intro h4; subst h4; rw [hx] at hy; cases hy; exact h3 rfl
      · refine norm_i64_to ((i + 1 : Nat) : Int) (by omega) (by omega) ?_
        refine ⟨i + 1, rfl, ⟨hE.trans hE2, by omega, ?_⟩, by show n - (i + 1) < n - i; omega⟩
        rw [List.take_add_one, List.take_add_one, ht, hx, hy, show x = y by omega]
    · refine And.intro ?_ hE
      rw [decide_eq_true]
      rwa [List.take_of_length_le (by omega), List.take_of_length_le (by omega)] at ht

theorem cmpL_no {a b : List Nat} (h : ¬ (Vd a ∧ Vd b)) : cmpL a b = 0 := if_neg h
theorem cmpL_yes {a b : List Nat} (ha : Vd a) (hb : Vd b) : cmpL a b = cmpN (val a) (val b) := if_pos ⟨ha, hb⟩

theorem compare_fn (A B : Option Addr) (n c m d : Nat) (a b : List Nat) (w : World) (ha : SN w A n c a) (hb : SN w B m d b) (hLa : Limbs a) (hLb : Limbs b) :
    Fn Try.prog 26 [.slice A n c, .slice B m d] w (fun v w' => v = .int .i64 (cmpL a b) ∧ Ext w w') := by
  have hla := ha.length
  have hlb := hb.length
  have hba := ha.bd
  have hbb := hb.bd
  refine fn_of_exec (c := c26) gx_ok Try.func26 rfl rfl rfl ?_
  refine call (valid_fn _ _ _ _ _ ha) ?_
  rintro v w' ⟨rfl, rfl⟩
  refine wif_not (wif_d (fun hva => ?_) (fun hva => ?_))
  case refine_2 => exact And.intro (by rw [cmpL_no (fun h => hva h.1)]) (Ext.refl _)
  refine call (valid_fn _ _ _ _ _ hb) ?_
  rintro v w' ⟨rfl, rfl⟩
  refine wif_not (wif_d (fun hvb => ?_) (fun hvb => ?_))
  case refine_2 => exact And.intro (by rw [cmpL_no (fun h => hvb h.2)]) (Ext.refl _)
  rw [cmpL_yes hva hvb]
  refine wif_ne (fun h1 => ?_) (fun h1 => ?_)
  · refine wif_d (fun h2 => ?_) (fun h2 => ?_)
    · exact And.intro (by rw [cmpN_lt (lt_of_length hLa hvb.2 (by omega))]) (Ext.refl _)
    · exact And.intro (by rw [cmpN_gt (lt_of_length hLb hva.2 (by omega))]) (Ext.refl _)
  · have hnm : n = m := by omega
    subst hnm
    have hn1024 : n ≤ 1024 := by have := hva.1; omega
    refine loop gx_ok [28] (fun i : Nat => [.int .i64 i]) (fun i w2 => Ext w' w2 ∧ i ≤ n ∧ val (a.drop (n - i)) = val (b.drop (n - i))) (fun i _ => n - i) 0 rfl ⟨Ext.refl _, Nat.zero_le n, by
      rw [List.drop_of_length_le (by omega), List.drop_of_length_le (by omega)]⟩ ?_
    intro i w2 hI
    obtain ⟨hE, hin, ht⟩ := hI
    refine wif_d (fun h2 => ?_) (fun h2 => ?_)
    · refine draw gx_ok (by kernel_rfl) ?_
      refine norm_i64_to ((n - 1 : Nat) : Int) (by omega) (by omega) ?_
      refine norm_i64_to ((n - 1 - i : Nat) : Int) (by omega) (by omega) ?_
      refine index_sl (ha.ext hE) (by omega) (fun ad u hA hu hcell => ?_)
      obtain ⟨x, hx, rfl⟩ := cells_get hu
      refine qload (fun w2 h2 => h2.cell hcell) ?_
      refine norm_i64_to ((n - 1 : Nat) : Int) (by omega) (by omega) ?_
      refine norm_i64_to ((n - 1 - i : Nat) : Int) (by omega) (by omega) ?_
      refine index_sl (hb.ext hE) (by omega) (fun ad2 u2 hA2 hu2 hcell2 => ?_)
      obtain ⟨y, hy, rfl⟩ := cells_get hu2
      refine qload (fun w2 h2 => h2.cell hcell2) ?_
      intro w3 hE3
      have ka := val_drop a (n - 1 - i)
      have kb := val_drop b (n - 1 - i)
      rw [hx, show n - 1 - i + 1 = n - i by omega, Option.getD_some] at ka
      rw [hy, show n - 1 - i + 1 = n - i by omega, Option.getD_some] at kb
      refine wif_d (fun h3 => ?_) (fun h3 => ?_)
      · exact And.intro (by rw [cmpN_lt (lt_of_drop hLa (n - 1 - i) (by omega))]) (hE.trans hE3)
      · refine wif_d (fun h4 => ?_) (fun h4 => ?_)
        · exact And.intro (by rw [cmpN_gt (lt_of_drop hLb (n - 1 - i) (by omega))]) (hE.trans hE3)
        · refine norm_i64_to ((i + 1 : Nat) : Int) (by omega) (by omega) ?_
          refine ⟨i + 1, rfl, ⟨hE.trans hE3, by omega, ?_⟩, by show n - (i + 1) < n - i; omega⟩
          rw [show n - (i + 1) = n - 1 - i by omega, ka, kb, ht, show x = y by omega]
    · refine And.intro ?_ hE
      have : i = n := by omega
      subst this
      rw [Nat.sub_self, List.drop_zero, List.drop_zero] at ht
      rw [cmpN_eq ht]

theorem rcompare_fn (A B : Option Addr) (n c m d : Nat) (a b : List Nat) (w : World) (ha : SN w A n c a) (hb : SN w B m d b) (hLa : Limbs a) (hLb : Limbs b) :
    Fn Try.prog 35 [.slice A n c, .slice B m d] w (fun v w' => v = .int .i64 (cmpL a b) ∧ Ext w w') := by
  have hla := ha.length
  have hlb := hb.length
  have hba := ha.bd
  have hbb := hb.bd
  refine fn_of_exec (c := c35) gx_ok Try.func35 rfl rfl rfl ?_
  refine call (rvalid_fn _ _ _ _ _ ha) ?_
  rintro v w' ⟨rfl, rfl⟩
  refine wif_not (wif_d (fun hva => ?_) (fun hva => ?_))
  case refine_2 => exact And.intro (by rw [cmpL_no (fun h => hva h.1)]) (Ext.refl _)
  refine call (rvalid_fn _ _ _ _ _ hb) ?_
  rintro v w' ⟨rfl, rfl⟩
  refine wif_not (wif_d (fun hvb => ?_) (fun hvb => ?_))
  case refine_2 => exact And.intro (by rw [cmpL_no (fun h => hvb h.2)]) (Ext.refl _)
  rw [cmpL_yes hva hvb]
  have hn1024 : n ≤ 1024 := by have := hva.1; omega
  have hm1024 : m ≤ 1024 := by have := hvb.1; omega
  refine norm (m := ((max n m : Nat) : Int)) (by split <;> omega) ?_
  refine norm_i64_to (((max n m : Nat) : Int) - 1) rfl (by omega) ?_
  refine loop gx_ok [5] (fun i : Nat => [.int .i64 ((i : Int) - 1)]) (fun i w2 => Ext w' w2 ∧ i ≤ max n m ∧ val (a.drop i) = val (b.drop i)) (fun i _ => i) (max n m) rfl ⟨Ext.refl _, Nat.le_refl _, by
      rw [List.drop_of_length_le (by omega), List.drop_of_length_le (by omega)]⟩ ?_
  intro i w2 hI
  obtain ⟨hE, hin, ht⟩ := hI
  refine wif_d (fun h2 => ?_) (fun h2 => ?_)
  · have hi : ((i : Int) - 1) = ((i - 1 : Nat) : Int) := by omega
    rw [hi]
    have ka := val_drop a (i - 1)
    have kb := val_drop b (i - 1)
    rw [show i - 1 + 1 = i by omega] at ka kb
    refine call (rlimb_fn _ _ _ _ _ _ (ha.ext hE) hLa) ?_
    rintro v w3 ⟨rfl, rfl⟩
    refine call (rlimb_fn _ _ _ _ _ _ (hb.ext hE) hLb) ?_
    rintro v w3 ⟨rfl, rfl⟩
    refine wif_d (fun h3 => ?_) (fun h3 => ?_)
    · exact And.intro (by rw [cmpN_lt (lt_of_drop hLa (i - 1) (by omega))]) hE
    · refine call (rlimb_fn _ _ _ _ _ _ (ha.ext hE) hLa) ?_
      rintro v w3 ⟨rfl, rfl⟩
      refine call (rlimb_fn _ _ _ _ _ _ (hb.ext hE) hLb) ?_
      rintro v w3 ⟨rfl, rfl⟩
      refine wif_d (fun h4 => ?_) (fun h4 => ?_)
      · exact And.intro (by rw [cmpN_gt (lt_of_drop hLb (i - 1) (by omega))]) hE
      · refine norm_i64_to (((i - 1 : Nat) : Int) - 1) rfl (by omega) ?_
        refine ⟨i - 1, rfl, ⟨hE, by omega, ?_⟩, by show i - 1 < i; omega⟩
        rw [ka, kb, ht]; omega
  · refine And.intro ?_ hE
    have : i = 0 := by omega
    subst this
    rw [List.drop_zero, List.drop_zero] at ht
    rw [cmpN_eq ht]

theorem long_fn (x k : Nat) (w : World) (hx : x < 4294967296) (hk : k ≤ 1000000) :
    Fn Try.prog 28 [.int .u32 x, .int .i64 k] w (fun v w' => ∃ A c, v = .slice A (toL (val (List.replicate k x))).length c ∧ SN w' A (toL (val (List.replicate k x))).length c (toL (val (List.replicate k x))) ∧ Ext w w') := by
  refine fn_of_exec (c := c28) gx_ok Try.func28 rfl rfl rfl ?_
  refine at_build0 gx_ok rfl rfl rfl rfl rfl rfl ?_
  intro w1 hE hsz hB
  have hown : Own w1 w.heap.size 35 1 (some ⟨w.heap.size, 0, none⟩) 0 0 [] := Own.empty hB (Nat.le_refl _)
  refine loop gx_ok [5, 6] (fun s : Option Addr × Nat × Nat => [.slice s.1 s.2.1 s.2.2, .int .i64 s.2.1]) (fun s w2 => Ext w w2 ∧ s.2.1 ≤ k ∧ Own w2 w.heap.size 35 1 s.1 s.2.1 s.2.2 (cells (List.replicate s.2.1 x))) (fun s _ => k - s.2.1) (some ⟨w.heap.size, 0, none⟩, 0, 0) rfl ⟨hE, Nat.zero_le _, hown⟩ ?_
  rintro ⟨A, i, c⟩ w2 ⟨hE2, hik, ho⟩
  dsimp only at hik ho ⊢
  refine wif_d (fun h2 => ?_) (fun h2 => ?_)
  · refine at_build1 gx_ok rfl rfl rfl rfl rfl rfl rfl rfl ?_
    intro w3 hE3 hsz3 hB3
    have hs3 : Sl w3 1 (some ⟨w2.heap.size, 0, none⟩) 1 1 [.int .u32 x] := Sl.own' hB3 rfl (by simp [maxLen])
    refine at_append gx_ok rfl rfl rfl rfl rfl rfl rfl ⟨_, rfl⟩ rfl rfl (ho.ext hE3) hs3 (by simp [scalar]) (by unfold maxLen; omega) (by show _ * 4 ≤ _; omega) (by have := hE2.size; omega) ?_
    intro A' c' w4 hgr hown'
    have hE4 : Ext w w4 := (hE2.trans hE3).row (Nat.le_refl _) (ho.ext hE3) hgr
    refine norm_i64_to ((i + 1 : Nat) : Int) (by omega) (by omega) ?_
    refine ⟨(A', i + 1, c'), rfl, ⟨hE4, by show i + 1 ≤ k; omega, ?_⟩, by show k - (i + 1) < k - i; omega⟩
    have : cells (List.replicate (i + 1) x) = cells (List.replicate i x) ++ [.int .u32 x] := by rw [List.replicate_succ', cells_append]; rfl
    simp only [this]; exact hown'
  · have : i = k := by omega
    subst this
    have hs : SN w2 A i c (List.replicate i x) := ho.sl
    refine call (rtrim_fn _ _ _ _ _ hs (fun y hy => by rw [List.eq_of_mem_replicate hy]; exact hx)) ?_
    rintro v w' ⟨A', c', rfl, hs', rfl⟩
    exact ⟨A', c', rfl, hs', hE2⟩
end Go.Proofs.Ytpalpikenkkhlaa
