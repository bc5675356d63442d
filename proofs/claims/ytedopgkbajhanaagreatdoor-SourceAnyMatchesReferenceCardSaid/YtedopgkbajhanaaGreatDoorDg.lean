/-
  formula.Holds, diagram.Holds.
  Conditions: none.
-/
import Derived.Test.YtedopgkbajhanaaGreatDoorDf
namespace Go.Proofs.YtedopgkbajhanaaGreatDoor
open Go Go.RowKit

/-- The conditions of a configuration. -/
def bitE (c : Nat) : Nat → Bool := fun i => decide (c / 2 ^ i % 2 = 1)
theorem and_one (x : Nat) (hx : x < 18446744073709551616) : IntKind.u64.wrap ((BitVec.ofInt 64 (x : Int) &&& BitVec.ofInt 64 1).toNat) = ((x % 2 : Nat) : Int) := by
  have e : (BitVec.ofInt 64 (x : Int) &&& BitVec.ofInt 64 1).toNat = x % 2 := by
    rw [BitVec.ofInt_natCast, show BitVec.ofInt 64 1 = BitVec.ofNat 64 1 from rfl, BitVec.toNat_and, BitVec.toNat_ofNat, BitVec.toNat_ofNat]
    rw [Nat.mod_eq_of_lt (by omega), show 1 % 2 ^ 64 = 1 by decide, Nat.and_one_is_mod]
  rw [e]
  rcases (show x % 2 = 0 ∨ x % 2 = 1 by omega) with h | h <;> rw [h] <;> decide

theorem dholds_fn (A : Option Addr) (n c : Nat) (nd : List Br) (root : Int) (cfg : Nat) (hcf : cfg ≤ 18446744073709551615) (w : World) (h : SB w A n c nd) (hc : chkD nd root = 0) :
    Fn Tryz.prog 93 [dgV A n c root, .int .u64 cfg] w (fun v w' => v = .bool (ev nd root (bitE cfg)) ∧ Ext w w') := by
  have hlen := h.2
  obtain ⟨hsm, hv⟩ := chkD_zero.1 hc
  refine fn_of_exec (c := { c93 with cuts := [] }) gx_ok Tryz.func93 rfl rfl rfl ?_
  refine new (fun w1 hE1 hz1 hB1 => ?_)
  refine loadN_blk0 hB1 rfl ?_
  refine call (check2_fn A n c nd root w1 (h.ext hE1)) ?_
  rintro _ w2 ⟨rfl, hE2⟩
  have hE02 := hE1.trans hE2
  have hB2 := hB1.ext hE2
  refine wif_nef hc ?_
  refine load_blk hB2 rfl ?_
  refine loop gx_ok [5] (fun s : Int => [.int .i64 s]) (fun s w' => Ext w2 w' ∧ 0 ≤ s ∧ s < n + 2 ∧ ev nd s (bitE cfg) = ev nd root (bitE cfg)) (fun s _ => s.toNat) root rfl ⟨Ext.refl _, hv.2.1, by have := hv.2.2.1; omega, rfl⟩ ?_
  rintro s w3 ⟨hE3, s0, s1, hs⟩
  have hE03 := hE02.trans hE3
  refine wif_d (fun h1 => ?_) (fun h1 => ?_)
  · refine load_blk0 (hB2.ext hE3) rfl ?_
    refine norm_i64_to (((s - 2).toNat : Nat) : Int) (by omega) (by omega) ?_
    refine index_sls br_len (h.ext hE03) rfl (by omega) (fun p x hx hcx => ?_)
    refine loadN_at (vs := x.cells) rfl hcx ?_
    refine new (fun w4 hE4 hz4 hB4 => ?_)
    refine storeN_blk0 hB4 rfl (sc rfl) (fun w5 hg5 hz5 hB5 => ?_)
    have hE35 : Ext w3 w5 := newBox hE4 hB4 hg5
    obtain ⟨b1, b2, b3, b4, b5, b6, b7, b8, b9, b10⟩ := hv.1 _ _ hx
    have hev := ev_ge hv.wf (n := s) (e := bitE cfg) (by omega) hx
    refine load_blk0 hB5 rfl ?_
    refine norm_shr x.v.toNat (2 ^ x.v.toNat) b1 (by show min x.v.toNat 64 = _; omega) rfl ?_
    have hlt : cfg / 2 ^ x.v.toNat < 18446744073709551616 := Nat.lt_of_le_of_lt (Nat.div_le_self _ _) (by omega)
    refine norm (m := ((cfg / 2 ^ x.v.toNat % 2 : Nat) : Int)) (and_one _ hlt) ?_
    refine wif_eq (fun h2 => ?_) (fun h2 => ?_)
    · have hb : bitE cfg x.v.toNat = true := decide_eq_true (by omega)
      rw [hb, if_pos rfl] at hev
      refine load_blk hB5 rfl ?_
      exact ⟨x.h, rfl, ⟨hE3.trans hE35, b5, by omega, by rw [← hev]; exact hs⟩, by show x.h.toNat < s.toNat; omega⟩
    · have hb : bitE cfg x.v.toNat = false := decide_eq_false (by omega)
      rw [hb, if_neg (by decide)] at hev
      refine load_blk hB5 rfl ?_
      exact ⟨x.l, rfl, ⟨hE3.trans hE35, b3, by omega, by rw [← hev]; exact hs⟩, by show x.l.toNat < s.toNat; omega⟩
  · refine ⟨?_, hE03⟩
    rw [← hs, ev_lt (by omega)]
    rfl

/-! ### Formulas -/
def bvL (l : List Bool) : List Value := l.map Value.bool
theorem bvL_get {l : List Bool} {j : Nat} {b : Bool} (h : l[j]? = some b) : (bvL l)[j]? = some (.bool b) := by simp [bvL, h]
theorem bvL_set (l : List Bool) (j : Nat) (b : Bool) : bvL (l.set j b) = (bvL l).set j (.bool b) := by simp [bvL, List.map_set]
theorem bvL_len (l : List Bool) : (bvL l).length = l.length := by simp [bvL]
/-- The values so far. -/
structure FhI (w0 : World) (g : Nat) (f : List Fz) (e : Nat → Bool) (n s : Nat) (L : List Bool) (w : World) : Prop where
  m : Mod (· = g) w0 w
  blk : Blk w g 4 (bvL L)
  len : L.length = n
  got : ∀ j, j < s → ∃ t, RepF f t j ∧ L[j]? = some (evF t e)
  rest : ∀ j, s ≤ j → j < n → L[j]? = some false
theorem FhI.ext {w0 w w' : World} {g : Nat} {f : List Fz} {e : Nat → Bool} {n s : Nat} {L : List Bool} (h : FhI w0 g f e n s L w) (k1 : Ext w w') : FhI w0 g f e n s L w' :=
  ⟨h.m.trans (Mod.of_ext (· = g) k1) (fun _ hi => .inl hi), h.blk.ext k1, h.len, h.got, h.rest⟩
theorem FhI.put {w0 w w' : World} {g : Nat} {f : List Fz} {e : Nat → Bool} {n s : Nat} {L : List Bool} (h : FhI w0 g f e n s L w) (hs : s < n) {t : Fm} (ht : RepF f t s) {b : Bool} (hb : b = evF t e) (hm : Mod (· = g) w w')
    (hB : Blk w' g 4 ((bvL L).set s (.bool b))) : FhI w0 g f e n (s + 1) (L.set s b) w' := by
  have hl := h.len
  refine ⟨h.m.trans hm (fun _ hi => .inl hi), by rw [bvL_set]; exact hB, by rw [List.length_set]; exact hl, fun j hj => ?_, fun j hj hjn => ?_⟩
  · by_cases hjs : j = s
    · subst hjs
      exact ⟨t, ht, by rw [List.getElem?_set_self (by omega), hb]⟩
    · obtain ⟨u, h1, h2⟩ := h.got j (by omega)
      exact ⟨u, h1, by rw [List.getElem?_set_ne (fun e => hjs e.symm)]; exact h2⟩
  · rw [List.getElem?_set_ne (by omega)]; exact h.rest j (by omega) hjn
theorem FhI.skip {w0 w : World} {g : Nat} {f : List Fz} {e : Nat → Bool} {n s : Nat} {L : List Bool} (h : FhI w0 g f e n s L w) (hs : s < n) (ht : RepF f (.c false) s) : FhI w0 g f e n (s + 1) L w :=
  ⟨h.m, h.blk, h.len, fun j hj => by
    by_cases hjs : j = s
    · subst hjs; exact ⟨_, ht, h.rest j (Nat.le_refl _) hs⟩
    · exact h.got j (by omega), fun j hj hjn => h.rest j (by omega) hjn⟩
theorem FhI.at_ {w0 w : World} {g : Nat} {f : List Fz} {e : Nat → Bool} {n s : Nat} {L : List Bool} (h : FhI w0 g f e n s L w) {j : Nat} (hj : j < s) {t : Fm} (ht : RepF f t j) : (bvL L)[j]? = some (.bool (evF t e)) := by
  obtain ⟨u, h1, h2⟩ := h.got j hj
  rw [RepF.det ht h1]; exact bvL_get h2

open Classical in
/-- What Holds answers. -/
noncomputable def holdsP (f : List Fz) (cfg : Nat) : Bool := if FV f then evF (treeOf f) (bitE cfg) else false

end Go.Proofs.YtedopgkbajhanaaGreatDoor
