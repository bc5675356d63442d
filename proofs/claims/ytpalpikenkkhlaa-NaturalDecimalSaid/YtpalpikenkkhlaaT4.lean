/-
  Add and Sub: the contracts.
  Conditions: none.
-/
import Derived.Test.YtpalpikenkkhlaaT3
namespace Go.Proofs.Ytpalpikenkkhlaa
open Go Go.RowKit

/-- What a function of two numbers returns: a result for valid arguments, or ErrArg. -/
def binL (a b : List Nat) (n : Nat) : List Nat := if Vd a ∧ Vd b then resL n else []
def binE (a b : List Nat) (n : Nat) : Int := if Vd a ∧ Vd b then resE n else 1
theorem binL_no {a b : List Nat} {n : Nat} (h : ¬ (Vd a ∧ Vd b)) : binL a b n = [] := if_neg h
theorem binE_no {a b : List Nat} {n : Nat} (h : ¬ (Vd a ∧ Vd b)) : binE a b n = 1 := if_neg h
theorem binL_yes {a b : List Nat} {n : Nat} (ha : Vd a) (hb : Vd b) : binL a b n = resL n := if_pos ⟨ha, hb⟩
theorem binE_yes {a b : List Nat} {n : Nat} (ha : Vd a) (hb : Vd b) : binE a b n = resE n := if_pos ⟨ha, hb⟩

def NatRes (w : World) (l : List Nat) (e : Int) (v : Value) (w' : World) : Prop :=
  ∃ A c, v = .tuple #[.slice A l.length c, .int .i64 e] ∧ SN w' A l.length c l ∧ Ext w w'

theorem natRes_nil (w w' : World) (e : Int) (h : Ext w w') : NatRes w [] e (.tuple #[.slice none 0 0, .int .i64 e]) w' := ⟨none, 0, rfl, Sl.nil _ 1, h⟩

theorem add_fn (A B : Option Addr) (n c m d : Nat) (a b : List Nat) (w : World) (ha : SN w A n c a) (hb : SN w B m d b) (hLa : Limbs a) (hLb : Limbs b) :
    Fn Try.prog 29 [.slice A n c, .slice B m d] w (NatRes w (binL a b (val a + val b)) (binE a b (val a + val b))) := by
  refine fn_of_exec (c := { c29 with cuts := [3, 12] }) gx_ok Try.func29 rfl rfl rfl ?_
  refine call (valid_fn _ _ _ _ _ ha) ?_
  rintro v w' ⟨rfl, rfl⟩
  refine wif_not (wif_d (fun hva => ?_) (fun hva => ?_))
  case refine_2 => rw [binL_no (fun h => hva h.1), binE_no (fun h => hva h.1)]; exact natRes_nil _ _ _ (Ext.refl _)
  refine call (valid_fn _ _ _ _ _ hb) ?_
  rintro v w' ⟨rfl, rfl⟩
  refine wif_not (wif_d (fun hvb => ?_) (fun hvb => ?_))
  case refine_2 => rw [binL_no (fun h => hvb h.2), binE_no (fun h => hvb h.2)]; exact natRes_nil _ _ _ (Ext.refl _)
  rw [binL_yes hva hvb, binE_yes hva hvb]
  -- the longer one first
  refine cut gx_ok [0, 1] (fun s : (Option Addr × Nat × Nat × List Nat) × (Option Addr × Nat × Nat × List Nat) => [.slice s.1.1 s.1.2.1 s.1.2.2.1, .slice s.2.1 s.2.2.1 s.2.2.2.1])
    (fun s w2 => w2 = w' ∧ SN w' s.1.1 s.1.2.1 s.1.2.2.1 s.1.2.2.2 ∧ SN w' s.2.1 s.2.2.1 s.2.2.2.1 s.2.2.2.2 ∧ Limbs s.1.2.2.2 ∧ Limbs s.2.2.2.2 ∧ s.2.2.1 ≤ s.1.2.1 ∧ s.1.2.1 ≤ 1024 ∧ val a + val b = val s.1.2.2.2 + val s.2.2.2.2) ?_ ?_
  · have hla := ha.length
    have hlb := hb.length
    have h1 := hva.1
    have h2 := hvb.1
    refine wif_d (fun h => ?_) (fun h => ?_)
    · exact ⟨((B, m, d, b), (A, n, c, a)), rfl, rfl, hb, ha, hLb, hLa, by show n ≤ m; omega, by show m ≤ 1024; omega, Nat.add_comm _ _⟩
    · exact ⟨((A, n, c, a), (B, m, d, b)), rfl, rfl, ha, hb, hLa, hLb, by show m ≤ n; omega, by show n ≤ 1024; omega, rfl⟩
  rintro ⟨⟨A, n, c, x⟩, ⟨B, m, d, y⟩⟩ w2 ⟨rfl, hx, hy, hLx, hLy, hmn, hn, hval⟩
  dsimp only at hx hy hLx hLy hmn hn hval ⊢
  rw [hval]
  clear hval hva hvb ha hb hLa hLb
  have hlx := hx.length
  have hly := hy.length
  refine norm_i64_to ((n + 1 : Nat) : Int) (by omega) (by omega) ?_
  refine at_make gx_ok rfl rfl rfl rfl rfl rfl rfl rfl (by show 4 * _ ≤ _; omega) (by unfold maxLen; omega) ?_
  intro w3 hE3 hsz3 hB3
  refine at_copy gx_ok rfl rfl rfl rfl rfl rfl rfl hB3 (hx.ext hE3) (by omega) (by simp) (cells_scalar x) ?_
  intro w4 hgr4 hsz4 hB4
  have hE4 : Ext w2 w4 := hE3.own hgr4 (Nat.le_refl _)
  have hB4' : Blk w4 w2.heap.size 35 (cells (x ++ [0])) := by
    have e : cells x ++ (List.replicate (n + 1) (Value.int .u32 0)).drop n = cells (x ++ [0]) := by
      rw [cells_append, List.drop_replicate, show n + 1 - n = 1 by omega]; rfl
    rw [← e]; exact hB4
  refine loop gx_ok [33, 7] (fun s : Nat × Nat => [.int .i64 s.1, .int .u64 s.2]) (fun s w5 => Ext w2 w5 ∧ s.1 ≤ n ∧ s.2 < 2 ∧ ∃ p, p.length = s.1 ∧ Limbs p ∧ Blk w5 w2.heap.size 35 (cells (p ++ (x.drop s.1 ++ [0]))) ∧ val p + s.2 * 4294967296 ^ s.1 = val (x.take s.1) + val (y.take s.1))
    (fun s _ => n - s.1) (0, 0) rfl ⟨hE4, Nat.zero_le _, by decide, [], rfl, limbs_nil, by simpa using hB4', by simp [val]⟩ ?_
  rintro ⟨i, k⟩ w5 ⟨hE5, hi, hk, p, hp, hLp, hB5, hv⟩
  dsimp only at hi hk hp hB5 hv ⊢
  refine wif_d (fun h2 => ?_) (fun h2 => ?_)
  · have hxi : x[i]? = some x[i] := List.getElem?_eq_getElem (by omega)
    have hcx : x.drop i = x[i] :: x.drop (i + 1) := List.drop_eq_getElem_cons (by omega)
    have hxl := hLx.get hxi
    rw [hcx, List.cons_append] at hB5
    refine index (by omega) ?_
    refine load_blk hB5 (cells_get' (get_mid p _ _ hp)) ?_
    refine norm_u64 (by omega) ?_
    refine norm_u64_to ((k + x[i] : Nat) : Int) (by omega) (by omega) ?_
    refine cut gx_ok [7] (fun s : Nat => [.int .u64 s]) (fun s w6 => w6 = w5 ∧ s = k + x[i]?.getD 0 + y[i]?.getD 0) ?_ ?_
    · refine wif_d (fun h3 => ?_) (fun h3 => ?_)
      · refine index_sl (hy.ext hE5) (by omega) (fun ad u hA hu hcell => ?_)
        obtain ⟨z, hz, rfl⟩ := cells_get hu
        have hzl := hLy.get hz
        refine load hcell ?_
        refine norm_u64 (by omega) ?_
        refine norm_u64_to ((k + x[i] + z : Nat) : Int) (by omega) (by omega) ?_
        exact ⟨k + x[i] + z, rfl, rfl, by rw [hz, hxi]; rfl⟩
      · exact ⟨k + x[i], rfl, rfl, by rw [hxi, List.getElem?_eq_none (by omega)]; rfl⟩
    rintro s w6 ⟨rfl, hs⟩
    have hyl := limbs_getD hLy i
    have hsb : s < 2 * 4294967296 := by rw [hxi, Option.getD_some] at hs; omega
    refine norm_u32 ?_
    refine index (by omega) ?_
    refine store_blk hB5 (by simp [cells]; omega) ?_
    intro w7 hgr7 hB7
    refine norm_shr 32 4294967296 (by decide) rfl rfl ?_
    refine norm_i64_to ((i + 1 : Nat) : Int) (by omega) (by omega) ?_
    refine ⟨(i + 1, s / 4294967296), rfl, ⟨hE5.own hgr7 (Nat.le_refl _), by show i + 1 ≤ n; omega, by show s / 4294967296 < 2; omega, p ++ [s % 4294967296], by simp [hp], limbs_snoc hLp s, ?_, add_step hp hv hs⟩, by show n - (i + 1) < n - i; omega⟩
    rw [← cells_set, set_mid' _ _ _ _ hp] at hB7
    exact hB7
  · have : i = n := by omega
    subst this
    rw [List.drop_of_length_le (by omega), List.nil_append] at hB5
    rw [List.take_of_length_le (by omega), List.take_of_length_le (by omega)] at hv
    refine norm_u32 ?_
    refine index (by omega) ?_
    refine store_blk hB5 (by simp [cells]; omega) ?_
    intro w7 hgr7 hB7
    rw [← cells_set, set_mid' _ _ _ _ hp, List.append_nil] at hB7
    have hs : SN w7 (some ⟨w2.heap.size, 0, none⟩) (i + 1) (i + 1) (p ++ [k % 4294967296]) := Sl.own' hB7 (by simp [cells, hp]) (by unfold maxLen; omega)
    refine call (trim_fn _ _ _ _ _ hs (limbs_snoc hLp k)) ?_
    rintro v w8 ⟨A', c', rfl, hs', rfl⟩
    have e : val (p ++ [k % 4294967296]) = val x + val y := by
      rw [val_snoc, hp, Nat.mod_eq_of_lt (by omega), Nat.mul_comm]; exact hv
    rw [e] at hs' ⊢
    exact ⟨A', c', rfl, hs', hE5.own hgr7 (Nat.le_refl _)⟩
end Go.Proofs.Ytpalpikenkkhlaa
