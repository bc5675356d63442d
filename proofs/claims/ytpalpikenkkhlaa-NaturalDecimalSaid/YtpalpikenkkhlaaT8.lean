/-
  Div: the contract.
  Conditions: none.
-/
import Derived.Test.YtpalpikenkkhlaaT7
import Derived.Test.YtpalpikenkkhlaaNum2
namespace Go.Proofs.Ytpalpikenkkhlaa
open Go Go.RowKit

def quoL (a b : List Nat) : List Nat := if Vd a ∧ Vd b ∧ b ≠ [] then toL (val a / val b) else []
def remL (a b : List Nat) : List Nat := if Vd a ∧ Vd b ∧ b ≠ [] then toL (val a % val b) else []
def divE (a b : List Nat) : Int := if Vd a ∧ Vd b then (if b = [] then 11 else 0) else 1

def DivRes (w : World) (q r : List Nat) (e : Int) (v : Value) (w' : World) : Prop :=
  ∃ A c A2 c2, v = .tuple #[.slice A q.length c, .slice A2 r.length c2, .int .i64 e] ∧ SN w' A q.length c q ∧ SN w' A2 r.length c2 r ∧ Ext w w'

theorem divRes_nil (w w' : World) (e : Int) (h : Ext w w') : DivRes w [] [] e (.tuple #[.slice none 0 0, .slice none 0 0, .int .i64 e]) w' := ⟨none, 0, none, 0, rfl, Sl.nil _ 1, Sl.nil _ 1, h⟩

theorem quoL_no {a b : List Nat} (h : ¬ (Vd a ∧ Vd b)) : quoL a b = [] := if_neg (fun k => h ⟨k.1, k.2.1⟩)
theorem remL_no {a b : List Nat} (h : ¬ (Vd a ∧ Vd b)) : remL a b = [] := if_neg (fun k => h ⟨k.1, k.2.1⟩)
theorem divE_no {a b : List Nat} (h : ¬ (Vd a ∧ Vd b)) : divE a b = 1 := if_neg h
theorem quoL_zero {a b : List Nat} (h : b = []) : quoL a b = [] := if_neg (fun k => k.2.2 h)
theorem remL_zero {a b : List Nat} (h : b = []) : remL a b = [] := if_neg (fun k => k.2.2 h)
theorem divE_zero {a b : List Nat} (ha : Vd a) (hb : Vd b) (h : b = []) : divE a b = 11 := (if_pos ⟨ha, hb⟩).trans (if_pos h)
theorem quoL_yes {a b : List Nat} (ha : Vd a) (hb : Vd b) (h : b ≠ []) : quoL a b = toL (val a / val b) := if_pos ⟨ha, hb, h⟩
theorem remL_yes {a b : List Nat} (ha : Vd a) (hb : Vd b) (h : b ≠ []) : remL a b = toL (val a % val b) := if_pos ⟨ha, hb, h⟩
theorem divE_yes {a b : List Nat} (ha : Vd a) (hb : Vd b) (h : b ≠ []) : divE a b = 0 := (if_pos ⟨ha, hb⟩).trans (if_neg h)

theorem val_pos {b : List Nat} (hb : Vd b) (h : b ≠ []) : 0 < val b := by
  have := val_ge h hb.2
  have := Nat.pow_pos (n := b.length - 1) (show 0 < 4294967296 by omega)
  omega

theorem toL_eq_nil {n : Nat} : toL n = [] ↔ n = 0 := by
  constructor
  · intro h; have := val_toL n; rw [h] at this; exact this.symm
  · rintro rfl; rfl

/-- After i bits of a, from the top. -/
def DivInv (w' : World) (gq gr n m : Nat) (a b : List Nat) (i : Nat) (w3 : World) : Prop :=
  Ext w' w3 ∧ i ≤ 32 * n ∧ ∃ qs rs Q, Blk w3 gq 35 (cells qs) ∧ qs.length = n ∧ Limbs qs ∧ Blk w3 gr 35 (cells rs) ∧ rs.length = m + 1 ∧ Limbs rs ∧ val qs = Q * 2 ^ (32 * n - i) ∧ val a / 2 ^ (32 * n - i) = Q * val b + val rs ∧ val rs < val b

theorem div_fn (A B : Option Addr) (n c m d : Nat) (a b : List Nat) (w : World) (ha : SN w A n c a) (hb : SN w B m d b) (hLa : Limbs a) (hLb : Limbs b) :
    Fn Try.prog 27 [.slice A n c, .slice B m d] w (DivRes w (quoL a b) (remL a b) (divE a b)) := by
  have hla := ha.length
  have hlb := hb.length
  refine fn_of_exec (c := c27) gx_ok Try.func27 rfl rfl rfl ?_
  refine call (valid_fn _ _ _ _ _ ha) ?_
  rintro v w' ⟨rfl, rfl⟩
  refine wif_not (wif_d (fun hva => ?_) (fun hva => ?_))
  case refine_2 => rw [quoL_no (fun h => hva h.1), remL_no (fun h => hva h.1), divE_no (fun h => hva h.1)]; exact divRes_nil _ _ _ (Ext.refl _)
  refine call (valid_fn _ _ _ _ _ hb) ?_
  rintro v w' ⟨rfl, rfl⟩
  refine wif_not (wif_d (fun hvb => ?_) (fun hvb => ?_))
  case refine_2 => rw [quoL_no (fun h => hvb h.2), remL_no (fun h => hvb h.2), divE_no (fun h => hvb h.2)]; exact divRes_nil _ _ _ (Ext.refl _)
  have hn1024 : n ≤ 1024 := by have := hva.1; omega
  have hm1024 : m ≤ 1024 := by have := hvb.1; omega
  refine wif_eq (fun h0 => ?_) (fun h0 => ?_)
  · have hnil : b = [] := List.eq_nil_of_length_eq_zero (by omega)
    rw [quoL_zero hnil, remL_zero hnil, divE_zero hva hvb hnil]; exact divRes_nil _ _ _ (Ext.refl _)
  have hne : b ≠ [] := fun e => by subst e; simp at hlb; omega
  have hvp := val_pos hvb hne
  rw [quoL_yes hva hvb hne, remL_yes hva hvb hne, divE_yes hva hvb hne]
  refine wif_eq (fun h1 => ?_) (fun h1 => ?_)
  · obtain ⟨x0, rfl⟩ : ∃ x0, b = [x0] := List.length_eq_one_iff.1 (by omega)
    have hx : val [x0] = x0 := by simp [val]
    rw [hx] at hvp ⊢
    refine index_sl (j := 0) hb (by omega) (fun ad u hA hu hcell => ?_)
    obtain ⟨x, hx', rfl⟩ := cells_get hu
    simp at hx'; subst hx'
    refine load hcell ?_
    have hxl := (limbs_cons.1 hLb).1
    refine call (short_fn _ _ _ x0 _ _ ha hLa hn1024 (by omega) hxl) ?_
    rintro v w1 ⟨A', c', rfl, hs', _, hE1⟩
    have hml := Nat.mod_lt (val a) hvp
    generalize val a % x0 = rm at *
    refine norm_u64 (by omega) ?_
    refine call (of_fn rm _ (by omega)) ?_
    rintro v w2 ⟨A2, c2, rfl, hs2, hE2⟩
    exact ⟨A', c', A2, c2, rfl, hs'.ext hE2, hs2, hE1.trans hE2⟩
  refine at_make gx_ok rfl rfl rfl rfl rfl rfl rfl rfl (by show 4 * _ ≤ _; omega) (by unfold maxLen; omega) ?_
  intro w1 hE1 hsz1 hB1
  refine norm_i64_to ((m + 1 : Nat) : Int) (by omega) (by omega) ?_
  refine at_make gx_ok rfl rfl rfl rfl rfl rfl rfl rfl (by show 4 * _ ≤ _; omega) (by unfold maxLen; omega) ?_
  intro w2 hE2 hsz2 hB2
  rw [← cells_replicate] at hB1 hB2
  generalize hgq : w'.heap.size = gq at *
  generalize hgr : w1.heap.size = gr at *
  have hg : gq ≠ gr := by omega
  refine norm_i64_to ((32 * n : Nat) : Int) (by omega) (by omega) ?_
  refine loop gx_ok [52] (fun i : Nat => [.int .i64 i]) (DivInv w' gq gr n m a b)
    (fun i _ => 32 * n - i) 0 rfl ⟨hE1.trans hE2, Nat.zero_le _, List.replicate n 0, List.replicate (m + 1) 0, 0, hB1.ext hE2, by simp, limbs_replicate n, hB2, by simp, limbs_replicate _, ?_⟩ ?_
  · have hz : ∀ k, val (List.replicate k 0) = 0 := fun k => by have := val_zeros k []; simpa [val] using this
    rw [hz, hz, Nat.sub_zero, ← pow32]
    refine ⟨by omega, ?_, hvp⟩
    have := val_lt hLa
    rw [hla] at this
    rw [Nat.div_eq_of_lt this]; omega
  rintro i w3 ⟨hE3, hi, qs, rs, Q, hBq, hql, hLq, hBr, hrl, hLr, hvq, hvd, hvr⟩
  refine wif_d (fun h2 => ?_) (fun h2 => ?_)
  · refine norm_i64_to ((32 * n : Nat) : Int) (by omega) (by omega) ?_
    refine norm_i64_to ((32 * n - 1 : Nat) : Int) (by omega) (by omega) ?_
    refine norm_i64_to ((32 * n - 1 - i : Nat) : Int) (by omega) (by omega) ?_
    generalize hN : 32 * n - 1 - i = N at *
    rw [show 32 * n - i = N + 1 by omega] at hvq hvd
    have hk : N / 32 < n := by omega
    have he : N % 32 < 32 := Nat.mod_lt _ (by omega)
    have hi64 : IntKind.i64.wrap ((N : Int).tdiv 32) = ((N / 32 : Nat) : Int) := by
      have := tdiv_nat N 32
      rw [show ((32 : Nat) : Int) = 32 from rfl] at this
      rw [this]; exact IntWalk.i64_in _ (by omega)
    have hm64 : (N : Int).tmod 32 = ((N % 32 : Nat) : Int) := tmod_nat N 32
    refine normIf (by decide) hi64 ?_
    refine index_sl (ha.ext hE3) (by omega) (fun ad u hA hu hcell => ?_)
    obtain ⟨x, hx, rfl⟩ := cells_get hu
    have hxl := hLa.get hx
    refine load hcell ?_
    refine normIf (by decide) hm64 ?_
    refine norm_shr (N % 32) (2 ^ (N % 32)) (by omega) (by simp [IntKind.bits]; omega) rfl ?_
    refine norm_and32 (b := 1) (s := x / 2 ^ (N % 32) % 2) (Nat.and_one_is_mod _) (by have := Nat.div_le_self x (2 ^ (N % 32)); omega) (by decide) ?_
    have hbit := bit_limb hLa N
    rw [hx, Option.getD_some] at hbit
    rw [← hbit]
    have hb2 : val a / 2 ^ N % 2 < 2 := Nat.mod_lt _ (by omega)
    have hst := long_step hvd
    generalize hbt : val a / 2 ^ N % 2 = bt at *
    refine call (shift_fn gr (m + 1) _ bt rs _ hBr hrl (by omega) hLr hb2) ?_
    rintro v w4 ⟨hgr4, zs, k, hBz, hzl, hLz, hk2, hvz⟩
    have hBq4 := hBq.other hgr4 hg
    have hE4 : Ext w' w4 := hE3.own hgr4 (by omega)
    have hk0 : k = 0 := by
      have hvb1 := val_lt hLb
      rw [hlb] at hvb1
      rcases Nat.eq_zero_or_pos k with h | h
      · exact h
      · have h5 := Nat.mul_le_mul_right (4294967296 ^ (m + 1)) h
        rw [Nat.pow_succ] at h5 hvz
        omega
    subst hk0
    rw [Nat.zero_mul, Nat.add_zero] at hvz
    have hsz : SN w4 (some ⟨gr, 0, none⟩) (m + 1) (m + 1) zs := Sl.own' hBz (by simp [cells, hzl]) (by unfold maxLen; omega)
    have step : ∀ q2 r2 Q2 w5, Ext w' w5 → Blk w5 gq 35 (cells q2) → q2.length = n → Limbs q2 → Blk w5 gr 35 (cells r2) → r2.length = m + 1 → Limbs r2 → val q2 = Q2 * 2 ^ N → val a / 2 ^ N = Q2 * val b + val r2 → val r2 < val b → DivInv w' gq gr n m a b (i + 1) w5 := by
      intro q2 r2 Q2 w5 hE5 hBq5 hql5 hLq5 hBr5 hrl5 hLr5 hvq5 hvd5 hvr5
      refine ⟨hE5, by omega, q2, r2, Q2, hBq5, hql5, hLq5, hBr5, hrl5, hLr5, ?_⟩
      rw [show 32 * n - (i + 1) = N by omega]
      exact ⟨hvq5, hvd5, hvr5⟩
    refine call (less_fn _ _ _ _ _ _ _ _ _ hsz (hb.ext hE4) hLz hLb (by omega) (by omega)) ?_
    rintro v w5 ⟨rfl, rfl⟩
    refine wif_not (wif_d (fun h3 => ?_) (fun h3 => ?_))
    · refine norm_i64_to ((i + 1 : Nat) : Int) (by omega) (by omega) ?_
      refine ⟨i + 1, rfl, step qs zs (2 * Q) _ hE4 hBq4 hql hLq hBz hzl hLz ?_ ?_ h3, by show 32 * n - (i + 1) < 32 * n - i; omega⟩
      · show val qs = 2 * Q * 2 ^ N
        rw [hvq, Nat.pow_succ]; grind
      · show val a / 2 ^ N = 2 * Q * val b + val zs
        rw [hst, hvz]
    · refine call (subtract_fn gr (m + 1) _ m d B zs b w' w5 hBz hzl (by omega) hE4 (by omega) hb (by omega) hLz hLb (by omega)) ?_
      rintro v w6 ⟨hgr6, ys, hBy, hyl, hLy, hvy⟩
      have hBq6 := hBq4.other hgr6 hg
      have hE6 : Ext w' w6 := hE4.own hgr6 (by omega)
      refine draw_tail gx_ok 10 (by kernel_rfl) ?_
      refine normIf (by decide) hi64 ?_
      have hqk : qs[N / 32]? = some qs[N / 32] := List.getElem?_eq_getElem (by omega)
      have hqkl := hLq.get hqk
      obtain ⟨hor, hob, hov⟩ := or_limb hLq hvq hqk
      refine index (by omega) ?_
      refine qload (v := .int .u32 qs[N / 32]) (fun w7 h7 => by subst h7; exact (hBq6.ext (Ext.drew _)).cell _ ▸ cells_get' hqk) ?_
      refine normIf (by decide) hm64 ?_
      have h2e : 2 ^ (N % 32) < 4294967296 := by have := Nat.pow_lt_pow_right (a := 2) (by omega) he; omega
      refine normIf (m := ((2 ^ (N % 32) : Nat) : Int)) (by omega) ?_ ?_
      · rw [show (min (((N % 32 : Nat) : Int)).toNat IntKind.u32.bits) = N % 32 by simp [IntKind.bits]; omega, Int.one_mul]
        rw [show ((2 : Int) ^ (N % 32)) = ((2 ^ (N % 32) : Nat) : Int) by norm_cast, wrap_u32_nat, Nat.mod_eq_of_lt h2e]
      refine norm_or32 hor hqkl h2e ?_
      refine index (by omega) ?_
      refine store_blk (hBq6.ext (Ext.drew _)) (by simp [cells]; omega) ?_
      intro w7 hgr7 hB7
      rw [← cells_set] at hB7
      refine norm_i64_to ((i + 1 : Nat) : Int) (by omega) (by omega) ?_
      refine ⟨i + 1, rfl, step (qs.set (N / 32) (qs[N / 32] + 2 ^ (N % 32))) ys (2 * Q + 1) _ ((hE6.trans (Ext.drew _)).own hgr7 (by omega)) hB7 (by simp [hql]) ?_ ((hBy.ext (Ext.drew _)).other hgr7 (Ne.symm hg)) hyl hLy ?_ ?_ ?_, by show 32 * n - (i + 1) < 32 * n - i; omega⟩
      · intro z hz
        rcases List.mem_or_eq_of_mem_set hz with h | rfl
        · exact hLq z h
        · exact hob
      · show val (qs.set (N / 32) (qs[N / 32] + 2 ^ (N % 32))) = (2 * Q + 1) * 2 ^ N
        rw [hov, hvq, Nat.pow_succ]; grind
      · show val a / 2 ^ N = (2 * Q + 1) * val b + val ys
        rw [hst, ← hvz, ← hvy]; grind
      · show val ys < val b
        omega
  · have : i = 32 * n := by omega
    subst this
    rw [Nat.sub_self, Nat.pow_zero, Nat.mul_one] at hvq
    rw [Nat.sub_self, Nat.pow_zero, Nat.div_one] at hvd
    obtain ⟨e1, e2⟩ := div_unique hvd hvr
    have hs1 : SN w3 (some ⟨gq, 0, none⟩) n n qs := Sl.own' hBq (by simp [cells, hql]) (by unfold maxLen; omega)
    have hs2 : SN w3 (some ⟨gr, 0, none⟩) (m + 1) (m + 1) rs := Sl.own' hBr (by simp [cells, hrl]) (by unfold maxLen; omega)
    refine call (trim_fn _ _ _ _ _ hs1 hLq) ?_
    rintro v w5 ⟨A', c', rfl, hs', rfl⟩
    refine call (trim_fn _ _ _ _ _ hs2 hLr) ?_
    rintro v w5 ⟨A2, c2, rfl, hs2', rfl⟩
    have l1 : (toL (val qs)).length ≤ 1024 := by have := toL_len_le hLq; omega
    have l2 : (toL (val rs)).length ≤ 1024 := resL_le hvb hLb (by omega)
    rw [resL_of l1, hvq, e1] at hs'
    rw [resL_of l1, hvq, e1]
    rw [resL_of l2, e2] at hs2'
    rw [resL_of l2, e2]
    exact ⟨A', c', A2, c2, rfl, hs', hs2', hE3⟩
end Go.Proofs.Ytpalpikenkkhlaa
