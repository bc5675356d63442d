/-
  The reference's tables; its Text.
  Conditions: none.
-/
import Derived.Test.YtedopgkbajhanaaGreatDoorZr
namespace Go.Proofs.YtedopgkbajhanaaGreatDoor
open Go Go.RowKit

theorem and_one8 (x : Nat) (hx : x < 256) : IntKind.u8.wrap ((BitVec.ofInt 8 (x : Int) &&& BitVec.ofInt 8 1).toNat) = ((x % 2 : Nat) : Int) := by
  have e : (BitVec.ofInt 8 (x : Int) &&& BitVec.ofInt 8 1).toNat = x % 2 := by
    rw [BitVec.ofInt_natCast, show BitVec.ofInt 8 1 = BitVec.ofNat 8 1 from rfl, BitVec.toNat_and, BitVec.toNat_ofNat, BitVec.toNat_ofNat]
    rw [Nat.mod_eq_of_lt (by omega), show 1 % 2 ^ 8 = 1 by decide, Nat.and_one_is_mod]
  rw [e]
  rcases (show x % 2 = 0 ∨ x % 2 = 1 by omega) with h | h <;> rw [h] <;> decide
theorem natbit (q : Nat) : (((q : Nat) : Int) == 1) = decide (q = 1) := by
  by_cases h : q = 1
  · subst h; rfl
  · rw [decide_eq_false h]; exact beq_eq_false_iff_ne.2 (by omega)
theorem quo8 (k : Nat) (hk : k ≤ 1000000) : IntKind.i64.wrap ((k : Int).tdiv 8) = ((k / 8 : Nat) : Int) := by
  rw [show (8 : Int) = ((8 : Nat) : Int) from rfl, tdiv_nat]
  exact IntWalk.i64_in _ (by omega)
theorem shl1 (v : Nat) (hv : v ≤ 6) : IntKind.i64.wrap (1 * 2 ^ (min ((v : Nat) : Int).toNat IntKind.i64.bits)) = ((2 ^ v : Nat) : Int) := by
  rcases (show v = 0 ∨ v = 1 ∨ v = 2 ∨ v = 3 ∨ v = 4 ∨ v = 5 ∨ v = 6 by omega) with rfl | rfl | rfl | rfl | rfl | rfl | rfl <;> decide

theorem table_fn (l : List Nat) (A : Option Addr) (n c N : Nat) (w0 : World) (h : Sl w0 1 A n c (bytesV l)) (h8 : ∀ x ∈ l, x ≤ 255) (hN : N ≤ 6) : ∀ (d v k : Nat) (w : World), Ext w0 w → v + d = N → k < 2 ^ v →
    Fn Tryz.prog 67 [.slice A n c, .int .i64 N, .int .i64 v, .int .i64 k] w (DgS w N (tabF l d v k))
  | 0, v, k, w, hE, hv, hk => by
    have hn : l.length = n := by have := h.len; rw [bytesV_length] at this; omega
    have p6 : 2 ^ v ≤ 2 ^ 6 := Nat.pow_le_pow_right (by decide) (by omega)
    have hn9 : n ≤ 9223372036854775807 := by have := h.le; have := h.cap; simp only [maxLen] at this; omega
    refine fn_of_exec (c := { c67 with cuts := [] }) gx_ok Tryz.func67 rfl rfl rfl ?_
    refine new (fun w1 hE1 hz1 hB1 => ?_)
    refine wif_eqt (by omega) ?_
    refine normIf (m := ((k / 8 : Nat) : Int)) (by decide) (quo8 k (by omega)) ?_
    have fin : ∀ b : Bool, b = bitT l k → ∀ w2, Ext w1 w2 → ∀ w3, w2.grownBy w3 (some w.heap.size) → DgS w N (tabF l 0 v k) (dgV none 0 0 (if b then 1 else 0)) w3 := fun b hb w2 hE2 w3 hg3 => by
      have hM3 : Mod (· = w.heap.size) w2 w3 := Mod.of_grown hg3 rfl
      exact ⟨none, 0, 0, [], _, rfl, hM3.ext (hE1.trans hE2) (fun i hi => by omega), SlS.nil _, (const_set N b).congr (fun _ => by rw [hb]; rfl), fun i hi => by obtain ⟨_, e, _⟩ := hi; cases e⟩
    refine wif_d (fun h1 => ?_) (fun h1 => ?_)
    · refine normIf (m := ((k / 8 : Nat) : Int)) (by decide) (quo8 k (by omega)) ?_
      have hg := List.getElem?_eq_getElem (show k / 8 < l.length by omega)
      generalize l[k / 8] = x at hg
      have hx8 := h8 x (List.mem_of_getElem? hg)
      refine index_sl ((h.ext hE).ext hE1) (by omega) (fun ad u hA hu hcell => ?_)
      rw [bytesV_get' hg] at hu
      cases hu
      refine load hcell ?_
      have m8 : k % 8 < 8 := Nat.mod_lt _ (by decide)
      refine norm_rem (d := 8) (by decide) ?_
      refine norm (m := ((k % 8 : Nat) : Int)) (IntWalk.u64_in _ (by omega)) ?_
      refine norm_shr (k % 8) (2 ^ (k % 8)) (by omega) (by show min ((k % 8 : Nat) : Int).toNat 8 = _; omega) rfl ?_
      have hlt : x / 2 ^ (k % 8) < 256 := Nat.lt_of_le_of_lt (Nat.div_le_self _ _) (by omega)
      refine norm (m := ((x / 2 ^ (k % 8) % 2 : Nat) : Int)) (and_one8 _ hlt) ?_
      refine call (rconst_fn (((x / 2 ^ (k % 8) % 2 : Nat) : Int) == 1) w1) ?_
      rintro _ w2 ⟨rfl, hE2⟩
      refine storeN_blk0 (hB1.ext hE2) rfl (sc rfl) (fun w3 hg3 _ hB3 => ?_)
      refine loadN_blk0 hB3 rfl ?_
      refine fin _ ?_ w2 hE2 w3 hg3
      unfold bitT
      rw [decide_eq_true (show k / 8 < l.length by omega), hg]
      simp only [Option.getD_some, Bool.true_and]
      exact natbit _
    · refine call (rconst_fn false w1) ?_
      rintro _ w2 ⟨rfl, hE2⟩
      refine storeN_blk0 (hB1.ext hE2) rfl (sc rfl) (fun w3 hg3 _ hB3 => ?_)
      refine loadN_blk0 hB3 rfl ?_
      refine fin false ?_ w2 hE2 w3 hg3
      unfold bitT
      rw [decide_eq_false (show ¬ k / 8 < l.length by omega)]; rfl
  | d + 1, v, k, w, hE, hv, hk => by
    have p6 : 2 ^ v ≤ 2 ^ 6 := Nat.pow_le_pow_right (by decide) (by omega)
    have ps : 2 ^ (v + 1) = 2 ^ v + 2 ^ v := by rw [Nat.pow_succ]; omega
    have ih := table_fn l A n c N w0 h h8 hN d
    refine fn_of_exec (c := { c67 with cuts := [] }) gx_ok Tryz.func67 rfl rfl rfl ?_
    refine new (fun w1 hE1 hz1 hB1 => ?_)
    refine wif_eqf (by omega) ?_
    refine call (rvar_fn (v : Nat) w1 (by omega) (by omega)) ?_
    rintro _ w2 ⟨XA, xn, xc, rfl, hE2, hX2, _⟩
    refine new (fun w3 hE3 hz3 hB3 => ?_)
    refine storeN_blk0 hB3 rfl (sc rfl) (fun w4 hg4 _ hB4 => ?_)
    have hE24 : Ext w2 w4 := newBox hE3 hB3 hg4
    have hE14 := hE2.trans hE24
    have hE04 := hE1.trans hE14
    have hX4 := hX2.ext hE24
    have sv := var_set (k := N) (v := v) (by omega) (by omega)
    have qB : ∀ w', Ext w4 w' → ∀ (j : Nat) (u : Value), [Value.slice XA xn xc, .int .i64 2][j]? = some u → w'.cell? ((⟨w2.heap.size, 0, none⟩ : Addr).add j) = some u := fun w' hw' j u hj => by rw [(hB4.ext hw').cell]; exact hj
    refine draw_plan gx_ok (Ext w4) 21 [(true, 0), (true, 1), (true, 2), (true, 3), (true, 4), (true, 5), (true, 6), (true, 7), (true, 8), (true, 9), (true, 12), (true, 13), (true, 14), (true, 15), (true, 16), (true, 18), (false, 10), (false, 11), (false, 17), (false, 19), (false, 20)] (by kernel_rfl) (Ext.drew w4) ?_
    refine qloadN (vs := [.slice XA xn xc, .int .i64 2]) rfl (fun w' hw' j u hj => qB w' hw' j u hj) ?_
    refine norm_i64_to ((v + 1 : Nat) : Int) (by omega) (by omega) ?_
    refine norm (m := ((v : Nat) : Int)) (IntWalk.u64_in _ (by omega)) ?_
    refine normIf (m := ((2 ^ v : Nat) : Int)) (by omega) (shl1 v (by omega)) ?_
    refine norm_i64_to ((k + 2 ^ v : Nat) : Int) (by omega) (by omega) ?_
    refine norm_i64_to ((v + 1 : Nat) : Int) (by omega) (by omega) ?_
    refine qloadN (vs := [.slice XA xn xc, .int .i64 2]) rfl (fun w' hw' j u hj => qB w' hw' j u hj) ?_
    refine call (ih (v + 1) (k + 2 ^ v) _ ((hE.trans hE04).trans (Ext.drew w4)) (by omega) (by omega)) ?_
    rintro _ w5 ⟨T1, t1n, t1c, nd1, r1, rfl, hE5, hT1, hS1, _⟩
    have hE45 := (Ext.drew w4).trans hE5
    refine ⟨hE45, ?_⟩
    refine call (rinter_fn (by omega) XA xn xc T1 t1n t1c w5 (hX4.ext hE45) hT1 sv hS1) ?_
    rintro _ w6 ⟨U1, u1n, u1c, ud1, q1, rfl, hE6, hU1, hV1, _⟩
    have hE46 := hE45.trans hE6
    refine ⟨hE46, ?_⟩
    refine call (ih (v + 1) k _ ((hE.trans hE04).trans hE46) (by omega) (by omega)) ?_
    rintro _ w7 ⟨T2, t2n, t2c, nd2, r2, rfl, hE7, hT2, hS2, _⟩
    have hE47 := hE46.trans hE7
    refine ⟨hE47, ?_⟩
    refine call (rminus_fn (by omega) T2 t2n t2c XA xn xc w7 hT2 (hX4.ext hE47) hS2 sv) ?_
    rintro _ w8 ⟨U2, u2n, u2c, ud2, q2, rfl, hE8, hU2, hV2, _⟩
    have hE48 := hE47.trans hE8
    refine ⟨hE48, ?_⟩
    refine call (runion_fn (by omega) U1 u1n u1c U2 u2n u2c w8 ((hU1.ext hE7).ext hE8) hU2 hV1 hV2) ?_
    rintro _ w9 ⟨U3, u3n, u3c, ud3, q3, rfl, hE9, hU3, hV3, hR3⟩
    have hE49 := hE48.trans hE9
    refine ⟨hE49, ?_⟩
    have hz8 := (hE04.trans hE48).size
    have hz1' := (hE14.trans hE48).size
    refine storeN_blk0 ((hB1.ext hE14).ext hE49) rfl (sc rfl) (fun w10 hg10 _ hB10 => ?_)
    have hM10 : Mod (· = w.heap.size) w9 w10 := Mod.of_grown hg10 rfl
    refine loadN_blk0 hB10 rfl ?_
    refine ⟨U3, u3n, u3c, ud3, q3, rfl, hM10.ext (hE04.trans hE49) (fun i hi => by omega), hU3.mod hM10 (fun i hi e => by have := hR3 i hi; omega), hV3.congr (fun e => ?_), fun i hi => by have := hR3 i hi; omega⟩
    show opB 1 (opB 0 (e v) (tabF l d (v + 1) (k + 2 ^ v) e)) (tabF l d (v + 1) k e && !e v) = if e v then tabF l d (v + 1) (k + 2 ^ v) e else tabF l d (v + 1) k e
    cases e v <;> simp [opB]

theorem dmade_fn (l : List Nat) (A : Option Addr) (n c N : Nat) (w : World) (h : Sl w 1 A n c (bytesV l)) (h8 : ∀ x ∈ l, x ≤ 255) (hN : N ≤ 6) :
    Fn Tryz.prog 41 [.slice A n c, .int .i64 N] w (DgS w N (tabF l N 0 0)) := by
  refine fn_of_exec (c := { c41 with cuts := [] }) gx_ok Tryz.func41 rfl rfl rfl ?_
  refine new (fun w1 hE1 hz1 hB1 => ?_)
  refine norm (m := ((N : Nat) : Int)) (by split <;> omega) ?_
  refine norm (m := ((N : Nat) : Int)) (by split <;> omega) ?_
  refine call (table_fn l A n c N w1 (h.ext hE1) h8 hN N 0 0 w1 (Ext.refl _) (by omega) (by decide)) ?_
  rintro _ w2 ⟨U, un, uc, nd, r, rfl, hE2, hU, hS, hR⟩
  refine storeN_blk0 (hB1.ext hE2) rfl (sc rfl) (fun w3 hg3 _ hB3 => ?_)
  have hM3 : Mod (· = w.heap.size) w2 w3 := Mod.of_grown hg3 rfl
  refine loadN_blk0 hB3 rfl ?_
  exact ⟨U, un, uc, nd, r, rfl, hM3.ext (hE1.trans hE2) (fun i hi => by omega), hU.mod hM3 (fun i hi e => by have := hR i hi; omega), hS, fun i hi => by have := hR i hi; omega⟩

end Go.Proofs.YtedopgkbajhanaaGreatDoor
