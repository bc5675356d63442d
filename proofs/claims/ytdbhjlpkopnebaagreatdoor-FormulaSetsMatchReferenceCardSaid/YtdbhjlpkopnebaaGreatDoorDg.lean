/-
  formula.Holds, diagram.Holds.
  Conditions: none.
-/
import Derived.Test.YtdbhjlpkopnebaaGreatDoorDf
namespace Go.Proofs.YtdbhjlpkopnebaaGreatDoor
open Go Go.RowKit

/-- The conditions of a configuration. -/
def bitE (c : Nat) : Nat → Bool := fun i => decide (c / 2 ^ i % 2 = 1)
theorem and_one (x : Nat) (hx : x < 18446744073709551616) : IntKind.u64.wrap ((BitVec.ofInt 64 (x : Int) &&& BitVec.ofInt 64 1).toNat) = ((x % 2 : Nat) : Int) := by
  have e : (BitVec.ofInt 64 (x : Int) &&& BitVec.ofInt 64 1).toNat = x % 2 := by
    rw [BitVec.ofInt_natCast, show BitVec.ofInt 64 1 = BitVec.ofNat 64 1 from rfl, BitVec.toNat_and, BitVec.toNat_ofNat, BitVec.toNat_ofNat]
    rw [Nat.mod_eq_of_lt (by omega), show 1 % 2 ^ 64 = 1 by decide, Nat.and_one_is_mod]
  rw [e]
  rcases (show x % 2 = 0 ∨ x % 2 = 1 by omega) with h | h <;> rw [h] <;> decide

theorem dholds_fn (A : Option Addr) (n c : Nat) (nd : List Br) (root : Int) (cfg : Nat) (hcf : cfg ≤ 18446744073709551615) (w : World) (h : SB w A n c nd) (hc : chkD nd root = 0) :
    Fn Tryz.prog 17 [dgV A n c root, .int .u64 cfg] w (fun v w' => v = .bool (ev nd root (bitE cfg)) ∧ Ext w w') := by
  have hlen := h.2
  obtain ⟨hsm, hv⟩ := chkD_zero.1 hc
  refine fn_of_exec (c := { c17 with cuts := [] }) gx_ok Tryz.func17 rfl rfl rfl ?_
  refine new (fun w1 hE1 hz1 hB1 => ?_)
  refine loadN_blk0 hB1 rfl ?_
  refine call (check2_fn A n c nd root w1 (h.ext hE1)) ?_
  rintro _ w2 ⟨rfl, hE2⟩
  have hE02 := hE1.trans hE2
  have hB2 := hB1.ext hE2
  refine wif_nef hc ?_
  refine load_blk hB2 rfl ?_
  refine loop gx_ok [5] (fun s : Int => [.int .i64 s]) (fun s w' => Ext w2 w' ∧ 0 ≤ s ∧ s < n + 2 ∧ ev nd s (bitE cfg) = ev nd root (bitE cfg)) (fun s _ => s.toNat) root rfl ⟨Ext.refl _, hv.2.1, by have := hv.2.2.1; omega, rfl⟩ ?_
  rintro s w3 ⟨hE3, s0, s1, hs⟩
  have hE03 := hE02.trans hE3
  refine wif_d (fun h1 => ?_) (fun h1 => ?_)
  · refine load_blk0 (hB2.ext hE3) rfl ?_
    refine norm_i64_to (((s - 2).toNat : Nat) : Int) (by omega) (by omega) ?_
    refine index_sls br_len (h.ext hE03) rfl (by omega) (fun p x hx hcx => ?_)
    refine loadN_at (vs := x.cells) rfl hcx ?_
    refine new (fun w4 hE4 hz4 hB4 => ?_)
    refine storeN_blk0 hB4 rfl (sc rfl) (fun w5 hg5 hz5 hB5 => ?_)
    have hE35 : Ext w3 w5 := newBox hE4 hB4 hg5
    obtain ⟨b1, b2, b3, b4, b5, b6, b7, b8, b9, b10⟩ := hv.1 _ _ hx
    have hev := ev_ge hv.wf (n := s) (e := bitE cfg) (by omega) hx
    refine load_blk0 hB5 rfl ?_
    refine norm_shr x.v.toNat (2 ^ x.v.toNat) b1 (by show min x.v.toNat 64 = _; omega) rfl ?_
    have hlt : cfg / 2 ^ x.v.toNat < 18446744073709551616 := Nat.lt_of_le_of_lt (Nat.div_le_self _ _) (by omega)
    refine norm (m := ((cfg / 2 ^ x.v.toNat % 2 : Nat) : Int)) (and_one _ hlt) ?_
    refine wif_eq (fun h2 => ?_) (fun h2 => ?_)
    · have hb : bitE cfg x.v.toNat = true := decide_eq_true (by omega)
      rw [hb, if_pos rfl] at hev
      refine load_blk hB5 rfl ?_
      exact ⟨x.h, rfl, ⟨hE3.trans hE35, b5, by omega, by rw [← hev]; exact hs⟩, by show x.h.toNat < s.toNat; omega⟩
    · have hb : bitE cfg x.v.toNat = false := decide_eq_false (by omega)
      rw [hb, if_neg (by decide)] at hev
      refine load_blk hB5 rfl ?_
      exact ⟨x.l, rfl, ⟨hE3.trans hE35, b3, by omega, by rw [← hev]; exact hs⟩, by show x.l.toNat < s.toNat; omega⟩
  · refine ⟨?_, hE03⟩
    rw [← hs, ev_lt (by omega)]
    rfl

end Go.Proofs.YtdbhjlpkopnebaaGreatDoor
