/-
  Mul of both: the contracts.
  Conditions: none.
-/
import Derived.Test.YtpalpikenkkhlaaT5
namespace Go.Proofs.Ytpalpikenkkhlaa
open Go Go.RowKit

theorem mul_step {p t b : List Nat} {j x k : Nat} (hp : p.length = j) (h : val p + k * 4294967296 ^ j = val (t.take j) + x * val (b.take j)) {s : Nat} (hs : s = x * b[j]?.getD 0 + t[j]?.getD 0 + k) :
    val (p ++ [s % 4294967296]) + s / 4294967296 * 4294967296 ^ (j + 1) = val (t.take (j + 1)) + x * val (b.take (j + 1)) := by
  rw [val_snoc, hp, val_take_succ', val_take_succ', Nat.pow_succ]
  have hd : s % 4294967296 + 4294967296 * (s / 4294967296) = s := Nat.mod_add_div s 4294967296
  generalize 4294967296 ^ j = P at *
  generalize s % 4294967296 = r at *
  generalize s / 4294967296 = q at *
  grind

theorem mul_row {u p t a b : List Nat} {i m k : Nat} (hu : u.length = i) (hp : p.length = m) (hv : val (u ++ t) = val (a.take i) * val b) (h : val p + k * 4294967296 ^ m = val t + a[i]?.getD 0 * val b) :
    val (u ++ p ++ [k]) = val (a.take (i + 1)) * val b := by
  rw [val_append] at hv
  rw [val_snoc, val_append, List.length_append, hu, hp, val_take_succ', Nat.pow_add]
  rw [hu] at hv
  generalize 4294967296 ^ i = P at *
  generalize 4294967296 ^ m = M at *
  grind

theorem mul_bd {x y : Nat} (hx : x < 4294967296) (hy : y < 4294967296) : x * y ≤ 18446744065119617025 := by
  have := Nat.mul_le_mul (show x ≤ 4294967295 by omega) (show y ≤ 4294967295 by omega)
  omega

theorem cast_mul (x y : Nat) : (x : Int) * (y : Int) = ((x * y : Nat) : Int) := by norm_cast

theorem mul_fn (A B : Option Addr) (n c m d : Nat) (a b : List Nat) (w : World) (ha : SN w A n c a) (hb : SN w B m d b) (hLa : Limbs a) (hLb : Limbs b) :
    Fn Try.prog 31 [.slice A n c, .slice B m d] w (NatRes w (binL a b (val a * val b)) (binE a b (val a * val b))) := by
  refine fn_of_exec (c := c31) gx_ok Try.func31 rfl rfl rfl ?_
  refine call (valid_fn _ _ _ _ _ ha) ?_
  rintro v w' ⟨rfl, rfl⟩
  refine wif_not (wif_d (fun hva => ?_) (fun hva => ?_))
  case refine_2 => rw [binL_no (fun h => hva h.1), binE_no (fun h => hva h.1)]; exact natRes_nil _ _ _ (Ext.refl _)
  refine call (valid_fn _ _ _ _ _ hb) ?_
  rintro v w' ⟨rfl, rfl⟩
  refine wif_not (wif_d (fun hvb => ?_) (fun hvb => ?_))
  case refine_2 => rw [binL_no (fun h => hvb h.2), binE_no (fun h => hvb h.2)]; exact natRes_nil _ _ _ (Ext.refl _)
  rw [binL_yes hva hvb, binE_yes hva hvb]
  have hla := ha.length
  have hlb := hb.length
  have hn1024 : n ≤ 1024 := by have := hva.1; omega
  have hm1024 : m ≤ 1024 := by have := hvb.1; omega
  refine norm_i64_to ((n + m : Nat) : Int) (by omega) (by omega) ?_
  refine at_make gx_ok rfl rfl rfl rfl rfl rfl rfl rfl (by show 4 * _ ≤ _; omega) (by unfold maxLen; omega) ?_
  intro w1 hE1 hsz1 hB1
  refine loop gx_ok [26] (fun i : Nat => [.int .i64 i]) (fun i w2 => Ext w' w2 ∧ i ≤ n ∧ ∃ q, q.length = i + m ∧ Limbs q ∧ Blk w2 w'.heap.size 35 (cells (q ++ List.replicate (n - i) 0)) ∧ val q = val (a.take i) * val b)
    (fun i _ => n - i) 0 rfl ⟨hE1, Nat.zero_le _, List.replicate m 0, by simp, fun x hx => by rw [List.eq_of_mem_replicate hx]; omega, by
      have : cells (List.replicate m 0 ++ List.replicate (n - 0) 0) = List.replicate (n + m) (Value.int .u32 0) := by
        rw [List.replicate_append_replicate]; simp [cells, Nat.add_comm]
      rw [this]; exact hB1, by
      have := val_drop_zero (l := List.replicate m 0) (n := 0) (fun x hx => by simp at hx; exact hx.2)
      simpa [val] using this.symm⟩ ?_
  rintro i w2 ⟨hE2, hi, q, hq, hLq, hB2, hv⟩
  refine wif_d (fun h2 => ?_) (fun h2 => ?_)
  · have hxi : a[i]? = some a[i] := List.getElem?_eq_getElem (by omega)
    have hxl := hLa.get hxi
    have hqs : q = q.take i ++ q.drop i := (List.take_append_drop i q).symm
    have hul : (q.take i).length = i := by rw [List.length_take]; omega
    have htl : (q.drop i).length = m := by rw [List.length_drop]; omega
    have hLu := hLq.take i
    have hLt := hLq.drop i
    generalize q.take i = u at *
    generalize q.drop i = t at *
    subst hqs
    refine loop gx_ok [31, 8] (fun s : Nat × Nat => [.int .i64 s.1, .int .u64 s.2]) (fun s w3 => Ext w' w3 ∧ s.1 ≤ m ∧ s.2 < 4294967296 ∧ ∃ p, p.length = s.1 ∧ Limbs p ∧ Blk w3 w'.heap.size 35 (cells ((u ++ p) ++ (t.drop s.1 ++ List.replicate (n - i) 0))) ∧ val p + s.2 * 4294967296 ^ s.1 = val (t.take s.1) + a[i] * val (b.take s.1))
      (fun s _ => m - s.1) (0, 0) rfl ⟨hE2, Nat.zero_le _, by show 0 < 4294967296; omega, [], rfl, limbs_nil, by simpa using hB2, by simp [val]⟩ ?_
    rintro ⟨j, k⟩ w3 ⟨hE3, hj, hk, p, hp, hLp, hB3, hvp⟩
    dsimp only at hj hk hp hB3 hvp ⊢
    refine wif_d (fun h3 => ?_) (fun h3 => ?_)
    · have hyj : b[j]? = some b[j] := List.getElem?_eq_getElem (by omega)
      have hyl := hLb.get hyj
      have htj : t[j]? = some t[j] := List.getElem?_eq_getElem (by omega)
      have htll := hLt.get htj
      have hct : t.drop j = t[j] :: t.drop (j + 1) := List.drop_eq_getElem_cons (by omega)
      rw [hct, List.cons_append] at hB3
      have hxy := mul_bd hxl hyl
      have hupl : (u ++ p).length = i + j := by rw [List.length_append]; omega
      refine draw gx_ok (by kernel_rfl) ?_
      refine index_sl (ha.ext hE3) (by omega) (fun ad z hA hu hcell => ?_)
      obtain ⟨x, hx, rfl⟩ := cells_get hu
      rw [hxi] at hx; cases hx
      refine qload (fun w4 h4 => h4.cell hcell) ?_
      refine norm_u64 (by omega) ?_
      refine index_sl (hb.ext hE3) (by omega) (fun ad2 z hA2 hu2 hcell2 => ?_)
      obtain ⟨y, hy, rfl⟩ := cells_get hu2
      rw [hyj] at hy; cases hy
      refine qload (fun w4 h4 => h4.cell hcell2) ?_
      refine norm_u64 (by omega) ?_
      refine norm_u64_to ((a[i] * b[j] : Nat) : Int) (cast_mul _ _) (by omega) ?_
      refine norm_i64_to ((i + j : Nat) : Int) (by omega) (by omega) ?_
      refine index (by omega) ?_
      refine qload (v := .int .u32 t[j]) (fun w4 h4 => by rw [(hB3.ext h4).cell]; exact cells_get' (get_mid _ _ _ hupl)) ?_
      refine norm_u64 (by omega) ?_
      generalize hpr : a[i] * b[j] = pr at *
      refine norm_u64_to ((pr + t[j] : Nat) : Int) (by omega) (by omega) ?_
      refine norm_u64_to ((pr + t[j] + k : Nat) : Int) (by omega) (by omega) ?_
      intro w4 hE4
      have hB4 := hB3.ext hE4
      refine norm_i64_to ((i + j : Nat) : Int) (by omega) (by omega) ?_
      refine norm_u32 ?_
      refine index (by omega) ?_
      refine store_blk hB4 (by simp [cells]; omega) ?_
      intro w5 hgr5 hB5
      refine norm_shr 32 4294967296 (by decide) rfl rfl ?_
      refine norm_i64_to ((j + 1 : Nat) : Int) (by omega) (by omega) ?_
      refine ⟨(j + 1, (pr + t[j] + k) / 4294967296), rfl, ⟨(hE3.trans hE4).own hgr5 (Nat.le_refl _), by show j + 1 ≤ m; omega, by show (pr + t[j] + k) / 4294967296 < 4294967296; omega, p ++ [(pr + t[j] + k) % 4294967296], by simp [hp], limbs_snoc hLp _, ?_, mul_step hp hvp (by rw [hyj, htj]; simp only [Option.getD_some]; rw [hpr])⟩, by show m - (j + 1) < m - j; omega⟩
      rw [← cells_set, set_mid' _ _ _ _ hupl, List.append_assoc u] at hB5
      exact hB5
    · have : j = m := by omega
      subst this
      rw [List.drop_of_length_le (by omega), List.nil_append, show n - i = (n - (i + 1)) + 1 by omega, List.replicate_succ] at hB3
      rw [List.take_of_length_le (by omega), List.take_of_length_le (by omega)] at hvp
      have hupl : (u ++ p).length = i + j := by rw [List.length_append]; omega
      refine norm_i64_to ((i + j : Nat) : Int) (by omega) (by omega) ?_
      refine norm_u32 ?_
      refine index (by omega) ?_
      refine store_blk hB3 (by simp [cells]; omega) ?_
      intro w5 hgr5 hB5
      refine norm_i64_to ((i + 1 : Nat) : Int) (by omega) (by omega) ?_
      rw [← cells_set, set_mid' _ _ _ _ hupl] at hB5
      refine ⟨i + 1, rfl, ⟨hE3.own hgr5 (Nat.le_refl _), by omega, u ++ p ++ [k % 4294967296], by simp; omega, limbs_snoc (limbs_append.2 ⟨hLu, hLp⟩) _, hB5, ?_⟩, by show n - (i + 1) < n - i; omega⟩
      rw [Nat.mod_eq_of_lt hk]
      exact mul_row hul hp hv (by rw [hxi]; exact hvp)
  · have : i = n := by omega
    subst this
    rw [Nat.sub_self, List.replicate_zero, List.append_nil] at hB2
    rw [List.take_of_length_le (by omega)] at hv
    have hs : SN w2 (some ⟨w'.heap.size, 0, none⟩) (i + m) (i + m) q := Sl.own' hB2 (by simp [cells, hq]) (by unfold maxLen; omega)
    refine call (trim_fn _ _ _ _ _ hs hLq) ?_
    rintro v w5 ⟨A', c', rfl, hs', rfl⟩
    rw [hv] at hs' ⊢
    exact ⟨A', c', rfl, hs', hE2⟩

theorem rmul_fn (A B : Option Addr) (n c m d : Nat) (a b : List Nat) (w : World) (ha : SN w A n c a) (hb : SN w B m d b) (hLa : Limbs a) (hLb : Limbs b) :
    Fn Try.prog 32 [.slice A n c, .slice B m d] w (NatRes w (binL a b (val a * val b)) (binE a b (val a * val b))) := by
  refine fn_of_exec (c := c32) gx_ok Try.func32 rfl rfl rfl ?_
  refine call (rvalid_fn _ _ _ _ _ ha) ?_
  rintro v w' ⟨rfl, rfl⟩
  refine wif_not (wif_d (fun hva => ?_) (fun hva => ?_))
  case refine_2 => rw [binL_no (fun h => hva h.1), binE_no (fun h => hva h.1)]; exact natRes_nil _ _ _ (Ext.refl _)
  refine call (rvalid_fn _ _ _ _ _ hb) ?_
  rintro v w' ⟨rfl, rfl⟩
  refine wif_not (wif_d (fun hvb => ?_) (fun hvb => ?_))
  case refine_2 => rw [binL_no (fun h => hvb h.2), binE_no (fun h => hvb h.2)]; exact natRes_nil _ _ _ (Ext.refl _)
  rw [binL_yes hva hvb, binE_yes hva hvb]
  have hla := ha.length
  have hlb := hb.length
  have hn1024 : n ≤ 1024 := by have := hva.1; omega
  have hm1024 : m ≤ 1024 := by have := hvb.1; omega
  refine norm_i64_to ((n + m : Nat) : Int) (by omega) (by omega) ?_
  refine at_make gx_ok rfl rfl rfl rfl rfl rfl rfl rfl (by show 4 * _ ≤ _; omega) (by unfold maxLen; omega) ?_
  intro w1 hE1 hsz1 hB1
  refine loop gx_ok [7] (fun i : Nat => [.int .i64 i]) (fun i w2 => Ext w' w2 ∧ i ≤ n ∧ ∃ q, q.length = i + m ∧ Limbs q ∧ Blk w2 w'.heap.size 35 (cells (q ++ List.replicate (n - i) 0)) ∧ val q = val (a.take i) * val b)
    (fun i _ => n - i) 0 rfl ⟨hE1, Nat.zero_le _, List.replicate m 0, by simp, fun x hx => by rw [List.eq_of_mem_replicate hx]; omega, by
      have : cells (List.replicate m 0 ++ List.replicate (n - 0) 0) = List.replicate (n + m) (Value.int .u32 0) := by
        rw [List.replicate_append_replicate]; simp [cells, Nat.add_comm]
      rw [this]; exact hB1, by
      have := val_drop_zero (l := List.replicate m 0) (n := 0) (fun x hx => by simp at hx; exact hx.2)
      simpa [val] using this.symm⟩ ?_
  rintro i w2 ⟨hE2, hi, q, hq, hLq, hB2, hv⟩
  refine wif_d (fun h2 => ?_) (fun h2 => ?_)
  · have hxi : a[i]? = some a[i] := List.getElem?_eq_getElem (by omega)
    have hxl := hLa.get hxi
    have hqs : q = q.take i ++ q.drop i := (List.take_append_drop i q).symm
    have hul : (q.take i).length = i := by rw [List.length_take]; omega
    have htl : (q.drop i).length = m := by rw [List.length_drop]; omega
    have hLu := hLq.take i
    have hLt := hLq.drop i
    generalize q.take i = u at *
    generalize q.drop i = t at *
    subst hqs
    refine loop gx_ok [9, 8] (fun s : Nat × Nat => [.int .i64 s.1, .int .u64 s.2]) (fun s w3 => Ext w' w3 ∧ s.1 ≤ m ∧ s.2 < 4294967296 ∧ ∃ p, p.length = s.1 ∧ Limbs p ∧ Blk w3 w'.heap.size 35 (cells ((u ++ p) ++ (t.drop s.1 ++ List.replicate (n - i) 0))) ∧ val p + s.2 * 4294967296 ^ s.1 = val (t.take s.1) + a[i] * val (b.take s.1))
      (fun s _ => m - s.1) (0, 0) rfl ⟨hE2, Nat.zero_le _, by show 0 < 4294967296; omega, [], rfl, limbs_nil, by simpa using hB2, by simp [val]⟩ ?_
    rintro ⟨j, k⟩ w3 ⟨hE3, hj, hk, p, hp, hLp, hB3, hvp⟩
    dsimp only at hj hk hp hB3 hvp ⊢
    refine wif_d (fun h3 => ?_) (fun h3 => ?_)
    · have hyj : b[j]? = some b[j] := List.getElem?_eq_getElem (by omega)
      have hyl := hLb.get hyj
      have htj : t[j]? = some t[j] := List.getElem?_eq_getElem (by omega)
      have htll := hLt.get htj
      have hct : t.drop j = t[j] :: t.drop (j + 1) := List.drop_eq_getElem_cons (by omega)
      rw [hct, List.cons_append] at hB3
      have hxy := mul_bd hxl hyl
      have hupl : (u ++ p).length = i + j := by rw [List.length_append]; omega
      have hso : SN w3 (some ⟨w'.heap.size, 0, none⟩) (n + m) (n + m) ((u ++ p) ++ (t[j] :: (t.drop (j + 1) ++ List.replicate (n - i) 0))) := Sl.own' hB3 (by simp [cells]; omega) (by unfold maxLen; omega)
      have hLo : Limbs ((u ++ p) ++ (t[j] :: (t.drop (j + 1) ++ List.replicate (n - i) 0))) :=
        limbs_append.2 ⟨limbs_append.2 ⟨hLu, hLp⟩, limbs_cons.2 ⟨htll, limbs_append.2 ⟨hLt.drop _, fun x hx => by rw [List.eq_of_mem_replicate hx]; omega⟩⟩⟩
      refine call (rlimb_fn _ _ _ _ _ _ (ha.ext hE3) hLa) ?_
      rintro v w4 ⟨rfl, rfl⟩
      refine call (rlimb_fn _ _ _ _ _ _ (hb.ext hE3) hLb) ?_
      rintro v w4 ⟨rfl, rfl⟩
      rw [hxi, hyj, Option.getD_some, Option.getD_some]
      refine norm_u64_to ((a[i] * b[j] : Nat) : Int) (cast_mul _ _) (by omega) ?_
      refine norm_i64_to ((i + j : Nat) : Int) (by omega) (by omega) ?_
      refine call (rlimb_fn _ _ _ _ _ _ hso hLo) ?_
      rintro v w4 ⟨rfl, rfl⟩
      rw [get_mid _ _ _ hupl, Option.getD_some]
      generalize hpr : a[i] * b[j] = pr at *
      refine norm_u64_to ((pr + t[j] : Nat) : Int) (by omega) (by omega) ?_
      refine norm_u64_to ((pr + t[j] + k : Nat) : Int) (by omega) (by omega) ?_
      refine norm_i64_to ((i + j : Nat) : Int) (by omega) (by omega) ?_
      refine norm_rem (d := 4294967296) (by omega) ?_
      refine norm_u32 ?_
      refine index (by omega) ?_
      refine store_blk hB3 (by simp [cells]; omega) ?_
      intro w5 hgr5 hB5
      rw [Nat.mod_mod] at hB5
      refine norm_quo64 (d := 4294967296) (by omega) (by omega) ?_
      refine norm_i64_to ((j + 1 : Nat) : Int) (by omega) (by omega) ?_
      refine ⟨(j + 1, (pr + t[j] + k) / 4294967296), rfl, ⟨hE3.own hgr5 (Nat.le_refl _), by show j + 1 ≤ m; omega, by show (pr + t[j] + k) / 4294967296 < 4294967296; omega, p ++ [(pr + t[j] + k) % 4294967296], by simp [hp], limbs_snoc hLp _, ?_, mul_step hp hvp (by rw [hyj, htj]; simp only [Option.getD_some]; rw [hpr])⟩, by show m - (j + 1) < m - j; omega⟩
      rw [← cells_set, set_mid' _ _ _ _ hupl, List.append_assoc u] at hB5
      exact hB5
    · have : j = m := by omega
      subst this
      rw [List.drop_of_length_le (by omega), List.nil_append, show n - i = (n - (i + 1)) + 1 by omega, List.replicate_succ] at hB3
      rw [List.take_of_length_le (by omega), List.take_of_length_le (by omega)] at hvp
      have hupl : (u ++ p).length = i + j := by rw [List.length_append]; omega
      refine norm_i64_to ((i + j : Nat) : Int) (by omega) (by omega) ?_
      refine norm_u32 ?_
      refine index (by omega) ?_
      refine store_blk hB3 (by simp [cells]; omega) ?_
      intro w5 hgr5 hB5
      refine norm_i64_to ((i + 1 : Nat) : Int) (by omega) (by omega) ?_
      rw [← cells_set, set_mid' _ _ _ _ hupl] at hB5
      refine ⟨i + 1, rfl, ⟨hE3.own hgr5 (Nat.le_refl _), by omega, u ++ p ++ [k % 4294967296], by simp; omega, limbs_snoc (limbs_append.2 ⟨hLu, hLp⟩) _, hB5, ?_⟩, by show n - (i + 1) < n - i; omega⟩
      rw [Nat.mod_eq_of_lt hk]
      exact mul_row hul hp hv (by rw [hxi]; exact hvp)
  · have : i = n := by omega
    subst this
    rw [Nat.sub_self, List.replicate_zero, List.append_nil] at hB2
    rw [List.take_of_length_le (by omega)] at hv
    have hs : SN w2 (some ⟨w'.heap.size, 0, none⟩) (i + m) (i + m) q := Sl.own' hB2 (by simp [cells, hq]) (by unfold maxLen; omega)
    refine call (rfit_fn _ _ _ _ _ hs hLq) ?_
    rintro v w5 ⟨A', c', rfl, hs', rfl⟩
    rw [hv] at hs' ⊢
    exact ⟨A', c', rfl, hs', hE2⟩
end Go.Proofs.Ytpalpikenkkhlaa
