/-
  The reference's Add, and Sub of both: the contracts.
  Conditions: none.
-/
import Derived.Test.YtpalpikenkkhlaaT4
namespace Go.Proofs.Ytpalpikenkkhlaa
open Go Go.RowKit

theorem pow_le_pow {i j : Nat} (h : i ≤ j) : 4294967296 ^ i ≤ 4294967296 ^ j := Nat.pow_le_pow_right (by omega) h

theorem add_end {p : List Nat} {k i : Nat} {a b : List Nat} (hLa : Limbs a) (hLb : Limbs b) (hi : i = max a.length b.length + 1) (hv : val p + k * 4294967296 ^ i = val (a.take i) + val (b.take i)) : k = 0 ∧ val p = val a + val b := by
  rw [List.take_of_length_le (by omega), List.take_of_length_le (by omega)] at hv
  have h1 := val_lt hLa
  have h2 := val_lt hLb
  have h3 := pow_le_pow (show a.length ≤ max a.length b.length by omega)
  have h4 := pow_le_pow (show b.length ≤ max a.length b.length by omega)
  have h5 : 4294967296 ^ i = 4294967296 ^ (max a.length b.length) * 4294967296 := by rw [hi, Nat.pow_succ]
  rcases Nat.eq_zero_or_pos k with rfl | hk
  · exact ⟨rfl, by omega⟩
  · have := Nat.mul_le_mul_right (4294967296 ^ i) hk
    omega

theorem radd_fn (A B : Option Addr) (n c m d : Nat) (a b : List Nat) (w : World) (ha : SN w A n c a) (hb : SN w B m d b) (hLa : Limbs a) (hLb : Limbs b) :
    Fn Try.prog 30 [.slice A n c, .slice B m d] w (NatRes w (binL a b (val a + val b)) (binE a b (val a + val b))) := by
  refine fn_of_exec (c := c30) gx_ok Try.func30 rfl rfl rfl ?_
  refine call (rvalid_fn _ _ _ _ _ ha) ?_
  rintro v w' ⟨rfl, rfl⟩
  refine wif_not (wif_d (fun hva => ?_) (fun hva => ?_))
  case refine_2 => rw [binL_no (fun h => hva h.1), binE_no (fun h => hva h.1)]; exact natRes_nil _ _ _ (Ext.refl _)
  refine call (rvalid_fn _ _ _ _ _ hb) ?_
  rintro v w' ⟨rfl, rfl⟩
  refine wif_not (wif_d (fun hvb => ?_) (fun hvb => ?_))
  case refine_2 => rw [binL_no (fun h => hvb h.2), binE_no (fun h => hvb h.2)]; exact natRes_nil _ _ _ (Ext.refl _)
  rw [binL_yes hva hvb, binE_yes hva hvb]
  have hla := ha.length
  have hlb := hb.length
  have hn1024 : n ≤ 1024 := by have := hva.1; omega
  have hm1024 : m ≤ 1024 := by have := hvb.1; omega
  refine at_build0 gx_ok rfl rfl rfl rfl rfl rfl ?_
  intro w1 hE hsz hB
  have hown : Own w1 w'.heap.size 35 1 (some ⟨w'.heap.size, 0, none⟩) 0 0 [] := Own.empty hB (Nat.le_refl _)
  refine loop gx_ok [6, 7, 8] (fun s : Option Addr × Nat × Nat × Nat => [.slice s.1 s.2.1 s.2.2.1, .int .u64 s.2.2.2, .int .i64 s.2.1]) (fun s w2 => Ext w' w2 ∧ s.2.1 ≤ max n m + 1 ∧ s.2.2.2 < 2 ∧ ∃ p, p.length = s.2.1 ∧ Limbs p ∧ Own w2 w'.heap.size 35 1 s.1 s.2.1 s.2.2.1 (cells p) ∧ val p + s.2.2.2 * 4294967296 ^ s.2.1 = val (a.take s.2.1) + val (b.take s.2.1))
    (fun s _ => max n m + 1 - s.2.1) (some ⟨w'.heap.size, 0, none⟩, 0, 0, 0) rfl ⟨hE, Nat.zero_le _, Nat.zero_lt_two, [], rfl, limbs_nil, hown, by simp [val]⟩ ?_
  rintro ⟨A1, i, c1, k⟩ w2 ⟨hE2, hi, hk, p, hp, hLp, ho, hv⟩
  dsimp only at hi hk hp ho hv ⊢
  refine norm (m := ((max n m : Nat) : Int)) (by split <;> omega) ?_
  refine wif_d (fun h2 => ?_) (fun h2 => ?_)
  · have hxl := limbs_getD hLa i
    have hyl := limbs_getD hLb i
    refine call (rlimb_fn _ _ _ _ _ _ (ha.ext hE2) hLa) ?_
    rintro v w3 ⟨rfl, rfl⟩
    refine call (rlimb_fn _ _ _ _ _ _ (hb.ext hE2) hLb) ?_
    rintro v w3 ⟨rfl, rfl⟩
    generalize hs1 : a[i]?.getD 0 = x at *
    generalize hs2 : b[i]?.getD 0 = y at *
    refine norm_u64_to ((x + y : Nat) : Int) (by omega) (by omega) ?_
    refine norm_u64_to ((k + x + y : Nat) : Int) (by omega) (by omega) ?_
    refine norm_rem (d := 4294967296) (by omega) ?_
    refine norm_u32 ?_
    refine at_build1 gx_ok rfl rfl rfl rfl rfl rfl rfl rfl ?_
    intro w4 hE4 hsz4 hB4
    have hs4 : Sl w4 1 (some ⟨w3.heap.size, 0, none⟩) 1 1 [.int .u32 (((k + x + y) % 4294967296 % 4294967296 : Nat) : Int)] := Sl.own' hB4 rfl (by simp [maxLen])
    refine at_append gx_ok rfl rfl rfl rfl rfl rfl rfl ⟨_, rfl⟩ rfl rfl (ho.ext hE4) hs4 (by simp [scalar]) (by unfold maxLen; omega) (by show _ * 4 ≤ _; omega) (by have := hE2.size; have := hE4.size; omega) ?_
    intro A' c' w5 hgr ho'
    refine norm_quo64 (d := 4294967296) (by omega) (by omega) ?_
    refine norm_i64_to ((i + 1 : Nat) : Int) (by omega) (by omega) ?_
    refine ⟨(A', i + 1, c', (k + x + y) / 4294967296), rfl, ⟨(hE2.trans hE4).row (Nat.le_refl _) (ho.ext hE4) hgr, by show i + 1 ≤ max n m + 1; omega, by show (k + x + y) / 4294967296 < 2; omega, p ++ [(k + x + y) % 4294967296], by simp [hp], limbs_snoc hLp _, ?_, add_step hp hv (by rw [hs1, hs2])⟩, by show max n m + 1 - (i + 1) < max n m + 1 - i; omega⟩
    rw [Nat.mod_mod] at ho'
    rw [cells_append]; exact ho'
  · obtain ⟨rfl, hv'⟩ := add_end hLa hLb (show i = max a.length b.length + 1 by omega) hv
    have hs : SN w2 A1 i c1 p := ho.sl
    refine call (rfit_fn _ _ _ _ _ hs hLp) ?_
    rintro v w3 ⟨A', c', rfl, hs', rfl⟩
    rw [hv'] at hs' ⊢
    exact ⟨A', c', rfl, hs', hE2⟩

def subL (a b : List Nat) : List Nat := if Vd a ∧ Vd b then (if val a < val b then [] else toL (val a - val b)) else []
def subE (a b : List Nat) : Int := if Vd a ∧ Vd b then (if val a < val b then 10 else 0) else 1

theorem subL_no {a b : List Nat} (h : ¬ (Vd a ∧ Vd b)) : subL a b = [] := if_neg h
theorem subE_no {a b : List Nat} (h : ¬ (Vd a ∧ Vd b)) : subE a b = 1 := if_neg h
theorem subL_lt {a b : List Nat} (ha : Vd a) (hb : Vd b) (h : val a < val b) : subL a b = [] := (if_pos ⟨ha, hb⟩).trans (if_pos h)
theorem subE_lt {a b : List Nat} (ha : Vd a) (hb : Vd b) (h : val a < val b) : subE a b = 10 := (if_pos ⟨ha, hb⟩).trans (if_pos h)
theorem subL_ge {a b : List Nat} (ha : Vd a) (hb : Vd b) (h : ¬ val a < val b) : subL a b = toL (val a - val b) := (if_pos ⟨ha, hb⟩).trans (if_neg h)
theorem subE_ge {a b : List Nat} (ha : Vd a) (hb : Vd b) (h : ¬ val a < val b) : subE a b = 0 := (if_pos ⟨ha, hb⟩).trans (if_neg h)

theorem cmpL_neg {a b : List Nat} (ha : Vd a) (hb : Vd b) : cmpL a b < 0 ↔ val a < val b := by
  rw [cmpL_yes ha hb]; unfold cmpN
  split
  · simp; assumption
  · split <;> simp <;> omega

theorem resL_le {l : List Nat} {n : Nat} (h : Vd l) (hl : Limbs l) (hn : n ≤ val l) : (toL n).length ≤ 1024 := by
  have h1 := val_lt hl
  have h2 := pow_le_pow h.1
  exact (toL_len n 1024).2 (by omega)

theorem sub_digit {x s dd : Nat} (hx : x < 4294967296) (hs : s ≤ 4294967296) (hd : dd = if x < s then 1 else 0) :
    ∃ y, y < 4294967296 ∧ x + dd * 4294967296 = y + s ∧ IntKind.u32.wrap (IntKind.u64.wrap ((x : Int) - s)) = (y : Int) := by
  refine ⟨(x + dd * 4294967296 - s), ?_, ?_, ?_⟩
  · split at hd <;> omega
  · split at hd <;> omega
  · rw [IntKind.wrap_u32]
    simp only [IntKind.wrap, IntKind.bits, IntKind.signed]
    simp
    split at hd <;> omega

theorem sub_end {p x y : List Nat} {n dd : Nat} (hLp : Limbs p) (hp : p.length = n) (hx : x.length = n) (hy : y.length ≤ n) (hle : val y ≤ val x) (hv : val p + val (y.take n) = val (x.take n) + dd * 4294967296 ^ n) : dd = 0 ∧ val p + val y = val x := by
  rw [List.take_of_length_le (by omega), List.take_of_length_le (by omega)] at hv
  have h1 := val_lt hLp
  rw [hp] at h1
  rcases Nat.eq_zero_or_pos dd with rfl | hk
  · exact ⟨rfl, by omega⟩
  · have := Nat.mul_le_mul_right (4294967296 ^ n) hk
    omega

/-- In place: the block g holds a, and holds a minus b behind the call. -/
theorem subtract_fn (g n c m d : Nat) (B : Option Addr) (x y : List Nat) (w0 w : World) (hB : Blk w g 35 (cells x)) (hx : x.length = n) (hn : n ≤ 1000000) (hE : Ext w0 w) (hg : w0.heap.size ≤ g) (hy : SN w0 B m d y) (hmn : m ≤ n) (hLx : Limbs x) (hLy : Limbs y) (hle : val y ≤ val x) :
    Fn Try.prog 44 [.slice (some ⟨g, 0, none⟩) n c, .slice B m d] w (fun _ w' => w.grownBy w' (some g) ∧ ∃ z, Blk w' g 35 (cells z) ∧ z.length = n ∧ Limbs z ∧ val z + val y = val x) := by
  have hly := hy.length
  refine fn_of_exec (c := { c44 with cuts := [5, 8] }) gx_ok Try.func44 rfl rfl rfl ?_
  refine loop gx_ok [9, 4] (fun s : Nat × Nat => [.int .i64 s.1, .int .u64 s.2]) (fun s w1 => w.grownBy w1 (some g) ∧ s.1 ≤ n ∧ s.2 < 2 ∧ ∃ p, p.length = s.1 ∧ Limbs p ∧ Blk w1 g 35 (cells (p ++ x.drop s.1)) ∧ val p + val (y.take s.1) = val (x.take s.1) + s.2 * 4294967296 ^ s.1)
    (fun s _ => n - s.1) (0, 0) rfl ⟨World.grownBy.refl _ _, Nat.zero_le _, by decide, [], rfl, limbs_nil, by simpa using hB, by simp [val]⟩ ?_
  rintro ⟨i, k⟩ w1 ⟨hgr, hi, hk, p, hp, hLp, hB1, hv⟩
  dsimp only at hi hk hp hB1 hv ⊢
  refine wif_d (fun h2 => ?_) (fun h2 => ?_)
  · have hE1 : Ext w0 w1 := hE.own hgr hg
    have hxi : x[i]? = some x[i] := List.getElem?_eq_getElem (by omega)
    have hcx : x.drop i = x[i] :: x.drop (i + 1) := List.drop_eq_getElem_cons (by omega)
    have hxl := hLx.get hxi
    rw [hcx] at hB1
    refine cut gx_ok [6] (fun s : Nat => [.int .u64 s]) (fun s w2 => w2 = w1 ∧ s = k + y[i]?.getD 0) ?_ ?_
    · refine wif_d (fun h3 => ?_) (fun h3 => ?_)
      · refine index_sl (hy.ext hE1) (by omega) (fun ad u hA hu hcell => ?_)
        obtain ⟨z, hz, rfl⟩ := cells_get hu
        have hzl := hLy.get hz
        refine load hcell ?_
        refine norm_u64 (by omega) ?_
        refine norm_u64_to ((k + z : Nat) : Int) (by omega) (by omega) ?_
        exact ⟨k + z, rfl, rfl, by rw [hz]; rfl⟩
      · exact ⟨k, rfl, rfl, by rw [List.getElem?_eq_none (by omega)]; rfl⟩
    rintro s w2 ⟨rfl, hs⟩
    have hyl := limbs_getD hLy i
    refine cut gx_ok [4] (fun dd : Nat => [.int .u64 dd]) (fun dd w3 => w3 = w2 ∧ dd = if x[i] < s then 1 else 0) ?_ ?_
    · refine index (by omega) ?_
      refine load_blk hB1 (cells_get' (get_mid p _ _ hp)) ?_
      refine norm_u64 (by omega) ?_
      refine wif_d (fun h3 => ?_) (fun h3 => ?_)
      · exact ⟨1, rfl, rfl, by rw [if_pos (by omega)]⟩
      · exact ⟨0, rfl, rfl, by rw [if_neg (by omega)]⟩
    rintro dd w3 ⟨rfl, hdd⟩
    obtain ⟨z, hz, hz2, hz3⟩ := sub_digit hxl (show s ≤ 4294967296 by omega) hdd
    refine index (by omega) ?_
    refine load_blk hB1 (cells_get' (get_mid p _ _ hp)) ?_
    refine norm_u64 (by omega) ?_
    refine norm (m := IntKind.u64.wrap ((x[i] : Int) - s)) rfl ?_
    refine norm hz3 ?_
    refine index (by omega) ?_
    refine store_blk hB1 (by simp [cells]; omega) ?_
    intro w4 hgr4 hB4
    refine norm_i64_to ((i + 1 : Nat) : Int) (by omega) (by omega) ?_
    refine ⟨(i + 1, dd), rfl, ⟨grown_trans hgr hgr4, by show i + 1 ≤ n; omega, by show dd < 2; rw [hdd]; split <;> omega, p ++ [z], by simp [hp], limbs_append.2 ⟨hLp, limbs_cons.2 ⟨hz, limbs_nil⟩⟩, ?_, sub_step hp hv (by rw [hz2, hs]) (by rw [hxi]; rfl)⟩, by show n - (i + 1) < n - i; omega⟩
    rw [← cells_set, set_mid' _ _ _ _ hp] at hB4
    exact hB4
  · have : i = n := by omega
    subst this
    obtain ⟨rfl, hv'⟩ := sub_end hLp hp hx (by omega) hle hv
    rw [List.drop_of_length_le (by omega), List.append_nil] at hB1
    exact ⟨hgr, p, hB1, hp, hLp, hv'⟩

theorem sub_fn (A B : Option Addr) (n c m d : Nat) (a b : List Nat) (w : World) (ha : SN w A n c a) (hb : SN w B m d b) (hLa : Limbs a) (hLb : Limbs b) :
    Fn Try.prog 25 [.slice A n c, .slice B m d] w (NatRes w (subL a b) (subE a b)) := by
  have hla := ha.length
  have hlb := hb.length
  refine fn_of_exec (c := c25) gx_ok Try.func25 rfl rfl rfl ?_
  refine call (valid_fn _ _ _ _ _ ha) ?_
  rintro v w' ⟨rfl, rfl⟩
  refine wif_not (wif_d (fun hva => ?_) (fun hva => ?_))
  case refine_2 => rw [subL_no (fun h => hva h.1), subE_no (fun h => hva h.1)]; exact natRes_nil _ _ _ (Ext.refl _)
  refine call (valid_fn _ _ _ _ _ hb) ?_
  rintro v w' ⟨rfl, rfl⟩
  refine wif_not (wif_d (fun hvb => ?_) (fun hvb => ?_))
  case refine_2 => rw [subL_no (fun h => hvb h.2), subE_no (fun h => hvb h.2)]; exact natRes_nil _ _ _ (Ext.refl _)
  refine call (compare_fn _ _ _ _ _ _ _ _ _ ha hb hLa hLb) ?_
  rintro v w1 ⟨rfl, hE1⟩
  refine wif_d (fun h1 => ?_) (fun h1 => ?_)
  · have := (cmpL_neg hva hvb).1 h1
    rw [subL_lt hva hvb this, subE_lt hva hvb this]; exact natRes_nil _ _ _ hE1
  have hle : val b ≤ val a := by have := mt (cmpL_neg hva hvb).2 h1; omega
  rw [subL_ge hva hvb (by omega), subE_ge hva hvb (by omega)]
  have hmn : m ≤ n := by
    rcases Nat.lt_or_ge n m with h | h
    · have := lt_of_length hLa hvb.2 (by omega); omega
    · exact h
  have hn1024 : n ≤ 1024 := by have := hva.1; omega
  refine at_make gx_ok rfl rfl rfl rfl rfl rfl rfl rfl (by show 4 * _ ≤ _; omega) (by unfold maxLen; omega) ?_
  intro w3 hE3 hsz3 hB3
  refine at_copy gx_ok rfl rfl rfl rfl rfl rfl rfl hB3 ((ha.ext hE1).ext hE3) (by omega) (by simp) (cells_scalar a) ?_
  intro w4 hgr4 hsz4 hB4
  rw [List.drop_of_length_le (by simp), List.append_nil] at hB4
  have hE4 : Ext w1 w4 := hE3.own hgr4 (Nat.le_refl _)
  refine call (subtract_fn w1.heap.size n _ m d B a b w1 w4 hB4 hla (by omega) hE4 (Nat.le_refl _) (hb.ext hE1) hmn hLa hLb hle) ?_
  rintro v w5 ⟨hgr5, z, hB5, hz, hLz, hvz⟩
  have hs : SN w5 (some ⟨w1.heap.size, 0, none⟩) n n z := Sl.own' hB5 (by simp [cells, hz]) (by unfold maxLen; omega)
  refine call (trim_fn _ _ _ _ _ hs hLz) ?_
  rintro v w6 ⟨A', c', rfl, hs', rfl⟩
  have e : val z = val a - val b := by omega
  have e2 := resL_le hva hLa (show val a - val b ≤ val a by omega)
  rw [e, resL_of e2] at hs'
  rw [e, resL_of e2, resE_of e2]
  exact ⟨A', c', rfl, hs', hE1.trans (hE4.own hgr5 (Nat.le_refl _))⟩

theorem rsub_fn (A B : Option Addr) (n c m d : Nat) (a b : List Nat) (w : World) (ha : SN w A n c a) (hb : SN w B m d b) (hLa : Limbs a) (hLb : Limbs b) :
    Fn Try.prog 33 [.slice A n c, .slice B m d] w (NatRes w (subL a b) (subE a b)) := by
  have hla := ha.length
  have hlb := hb.length
  refine fn_of_exec (c := c33) gx_ok Try.func33 rfl rfl rfl ?_
  refine call (rvalid_fn _ _ _ _ _ ha) ?_
  rintro v w' ⟨rfl, rfl⟩
  refine wif_not (wif_d (fun hva => ?_) (fun hva => ?_))
  case refine_2 => rw [subL_no (fun h => hva h.1), subE_no (fun h => hva h.1)]; exact natRes_nil _ _ _ (Ext.refl _)
  refine call (rvalid_fn _ _ _ _ _ hb) ?_
  rintro v w' ⟨rfl, rfl⟩
  refine wif_not (wif_d (fun hvb => ?_) (fun hvb => ?_))
  case refine_2 => rw [subL_no (fun h => hvb h.2), subE_no (fun h => hvb h.2)]; exact natRes_nil _ _ _ (Ext.refl _)
  refine call (rcompare_fn _ _ _ _ _ _ _ _ _ ha hb hLa hLb) ?_
  rintro v w1 ⟨rfl, hE1⟩
  refine wif_d (fun h1 => ?_) (fun h1 => ?_)
  · have := (cmpL_neg hva hvb).1 h1
    rw [subL_lt hva hvb this, subE_lt hva hvb this]; exact natRes_nil _ _ _ hE1
  have hle : val b ≤ val a := by have := mt (cmpL_neg hva hvb).2 h1; omega
  rw [subL_ge hva hvb (by omega), subE_ge hva hvb (by omega)]
  have hmn : m ≤ n := by
    rcases Nat.lt_or_ge n m with h | h
    · have := lt_of_length hLa hvb.2 (by omega); omega
    · exact h
  have hn1024 : n ≤ 1024 := by have := hva.1; omega
  refine at_build0 gx_ok rfl rfl rfl rfl rfl rfl ?_
  intro w3 hE3 hsz hB
  have hown : Own w3 w1.heap.size 35 1 (some ⟨w1.heap.size, 0, none⟩) 0 0 [] := Own.empty hB (Nat.le_refl _)
  refine loop gx_ok [6, 7, 8] (fun s : Option Addr × Nat × Nat × Nat => [.slice s.1 s.2.1 s.2.2.1, .int .u64 s.2.2.2, .int .i64 s.2.1]) (fun s w2 => Ext w1 w2 ∧ s.2.1 ≤ n ∧ s.2.2.2 < 2 ∧ ∃ p, p.length = s.2.1 ∧ Limbs p ∧ Own w2 w1.heap.size 35 1 s.1 s.2.1 s.2.2.1 (cells p) ∧ val p + val (b.take s.2.1) = val (a.take s.2.1) + s.2.2.2 * 4294967296 ^ s.2.1)
    (fun s _ => n - s.2.1) (some ⟨w1.heap.size, 0, none⟩, 0, 0, 0) rfl ⟨hE3, Nat.zero_le _, Nat.zero_lt_two, [], rfl, limbs_nil, hown, by simp [val]⟩ ?_
  rintro ⟨A1, i, c1, k⟩ w2 ⟨hE2, hi, hk, p, hp, hLp, ho, hv⟩
  dsimp only at hi hk hp ho hv ⊢
  refine wif_d (fun h2 => ?_) (fun h2 => ?_)
  · have hxl := limbs_getD hLa i
    have hyl := limbs_getD hLb i
    refine call (rlimb_fn _ _ _ _ _ _ ((ha.ext hE1).ext hE2) hLa) ?_
    rintro v w4 ⟨rfl, rfl⟩
    generalize hs1 : a[i]?.getD 0 = x at *
    generalize hs2 : b[i]?.getD 0 = y at *
    refine norm_u64_to ((4294967296 + x : Nat) : Int) (by omega) (by omega) ?_
    refine call (rlimb_fn _ _ _ _ _ _ ((hb.ext hE1).ext hE2) hLb) ?_
    rintro v w4 ⟨rfl, rfl⟩
    rw [hs2]
    refine norm_u64_to ((4294967296 + x - y : Nat) : Int) (by omega) (by omega) ?_
    refine norm_u64_to ((4294967296 + x - y - k : Nat) : Int) (by omega) (by omega) ?_
    generalize hs : 4294967296 + x - y - k = s at *
    refine norm_rem (d := 4294967296) (by omega) ?_
    refine norm_u32 ?_
    refine at_build1 gx_ok rfl rfl rfl rfl rfl rfl rfl rfl ?_
    intro w5 hE5 hsz5 hB5
    have hs5 : Sl w5 1 (some ⟨w4.heap.size, 0, none⟩) 1 1 [.int .u32 ((s % 4294967296 % 4294967296 : Nat) : Int)] := Sl.own' hB5 rfl (by simp [maxLen])
    refine at_append gx_ok rfl rfl rfl rfl rfl rfl rfl ⟨_, rfl⟩ rfl rfl (ho.ext hE5) hs5 (by simp [scalar]) (by unfold maxLen; omega) (by show _ * 4 ≤ _; omega) (by have := hE2.size; have := hE5.size; omega) ?_
    intro A' c' w6 hgr ho'
    refine norm_quo64 (d := 4294967296) (by omega) (by omega) ?_
    refine norm_u64_to ((1 - s / 4294967296 : Nat) : Int) (by omega) (by omega) ?_
    refine norm_i64_to ((i + 1 : Nat) : Int) (by omega) (by omega) ?_
    refine ⟨(A', i + 1, c', 1 - s / 4294967296), rfl, ⟨(hE2.trans hE5).row (Nat.le_refl _) (ho.ext hE5) hgr, by show i + 1 ≤ n; omega, by show 1 - s / 4294967296 < 2; omega, p ++ [s % 4294967296], by simp [hp], limbs_snoc hLp _, ?_, sub_step hp hv (x := x) (d' := 1 - s / 4294967296) (by rw [hs2]; omega) hs1⟩, by show n - (i + 1) < n - i; omega⟩
    rw [Nat.mod_mod] at ho'
    rw [cells_append]; exact ho'
  · have : i = n := by omega
    subst this
    obtain ⟨rfl, hv'⟩ := sub_end hLp hp hla (by omega) hle hv
    have hs : SN w2 A1 i c1 p := ho.sl
    refine call (rfit_fn _ _ _ _ _ hs hLp) ?_
    rintro v w6 ⟨A', c', rfl, hs', rfl⟩
    have e : val p = val a - val b := by omega
    have e2 := resL_le hva hLa (show val a - val b ≤ val a by omega)
    rw [e, resL_of e2] at hs'
    rw [e, resL_of e2, resE_of e2]
    exact ⟨A', c', rfl, hs', hE1.trans hE2⟩
end Go.Proofs.Ytpalpikenkkhlaa
