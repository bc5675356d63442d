/-
  What PSourceNames rests on, part 5: the texts of this work, without what it does not use; printed by a program (wip/shake.py).
  Conditions: none.
-/
import Derived.Test.YtedopgkbajhanaaGreatDoorQPSourceNamesd
namespace Go.Proofs.YtedopgkbajhanaaGreatDoor
section
open Go Go.RowKit

/-- A set as a result. -/
def DgS (w : World) (k : Nat) (o : (Nat → Bool) → Bool) (v : Value) (w' : World) : Prop := ∃ A n c nd r, v = dgV A n c r ∧ Ext w w' ∧ SB w' A n c nd ∧ Set1 k nd r o ∧ ∀ i, rowS A i → w.heap.size ≤ i
def DgSE (w : World) (k : Nat) (o : (Nat → Bool) → Bool) (v : Value) (w' : World) : Prop := ∃ A n c nd r, v = .tuple #[dgV A n c r, .int .i64 0] ∧ Ext w w' ∧ SB w' A n c nd ∧ Set1 k nd r o ∧ ∀ i, rowS A i → w.heap.size ≤ i
theorem rconst_fn (b : Bool) (w : World) : Fn Tryz.prog 40 [.bool b] w (fun v w' => v = dgV none 0 0 (if b then 1 else 0) ∧ Ext w w') := by
  refine fn_of_exec (c := { c40 with cuts := [] }) gx_ok Tryz.func40 rfl rfl rfl ?_
  refine new (fun w1 hE1 hz1 hB1 => ?_)
  cases b with
  | true =>
    refine wif_t rfl ?_
    refine storeN_blk0 hB1 rfl (sc rfl) (fun w3 hg3 _ hB3 => ?_)
    refine loadN_blk0 hB3 rfl ?_
    exact ⟨rfl, newBox hE1 hB1 hg3⟩
  | false =>
    refine wif_f rfl ?_
    refine storeN_blk0 hB1 rfl (sc rfl) (fun w3 hg3 _ hB3 => ?_)
    refine loadN_blk0 hB3 rfl ?_
    exact ⟨rfl, newBox hE1 hB1 hg3⟩

section
variable {k : Nat} (hk : k ≤ 12)
include hk
theorem rcomb_set {a b : List Br} {ra rb : Int} {o o' : (Nat → Bool) → Bool} (A : Option Addr) (n c : Nat) (B : Option Addr) (m d : Nat) (op : Int) (ho : op ≠ 3) (w : World) (h : SB w A n c a) (h' : SB w B m d b) (s : Set1 k a ra o) (s' : Set1 k b rb o') :
    Fn Tryz.prog 126 [dgV A n c ra, dgV B m d rb, .int .i64 op] w (DgS w k (fun e => opB op (o e) (o' e))) := by
  have l1 := s.len hk
  have l2 := s'.len hk
  have hal := h.2
  have hbl := h'.2
  have hb2 := at2D_bnd s.vd s'.vd op
  have hmul : (a.length + 2) * (b.length + 2) ≤ 4098 * 4098 := Nat.mul_le_mul (by omega) (by omega)
  refine (rcombine_fn A n c a ra B m d b rb op w h h' s.vd.dok s'.vd.dok s.vd.2.1 (by have := s.vd.2.2.1; omega) s'.vd.2.1 (by have := s'.vd.2.2.1; omega) (by omega) (by omega) (by omega) (by omega) ho).mono ?_
  rintro v w' ⟨OA, q, oc, rfl, hE, hO, hR⟩
  exact ⟨OA, q, oc, _, _, rfl, hE, hO, comb_set s s' op, hR⟩

theorem runion_fn {a b : List Br} {ra rb : Int} {o o' : (Nat → Bool) → Bool} (A : Option Addr) (n c : Nat) (B : Option Addr) (m d : Nat) (w : World) (h : SB w A n c a) (h' : SB w B m d b) (s : Set1 k a ra o) (s' : Set1 k b rb o') :
    Fn Tryz.prog 106 [dgV A n c ra, dgV B m d rb] w (DgS w k (fun e => opB 1 (o e) (o' e))) := by
  refine fn_of_exec (c := { c106 with cuts := [] }) gx_ok Tryz.func106 rfl rfl rfl ?_
  refine new (fun w1 hE1 hz1 hB1 => ?_)
  refine new (fun w2 hE2 hz2 hB2 => ?_)
  refine new (fun w3 hE3 hz3 hB3 => ?_)
  have hE03 := (hE1.trans hE2).trans hE3
  refine loadN_blk0 ((hB1.ext hE2).ext hE3) rfl ?_
  refine loadN_blk0 (hB2.ext hE3) rfl ?_
  refine call (rcomb_set hk A n c B m d 1 (by decide) w3 (h.ext hE03) (h'.ext hE03) s s') ?_
  rintro _ w4 ⟨PA, q, pc, nd, r, rfl, hE4, hP4, hS4, hR4⟩
  refine storeN_blk0 (hB3.ext hE4) rfl (sc rfl) (fun w5 hg5 _ hB5 => ?_)
  have hM5 : Mod (· = w2.heap.size) w4 w5 := Mod.of_grown hg5 rfl
  refine loadN_blk0 hB5 rfl ?_
  exact ⟨PA, q, pc, nd, r, rfl, hM5.ext (hE03.trans hE4) (fun i hi => by omega), hP4.mod hM5 (fun i hi e => by have := hR4 i hi; omega), hS4, fun i hi => by have := hR4 i hi; omega⟩
theorem rinter_fn {a b : List Br} {ra rb : Int} {o o' : (Nat → Bool) → Bool} (A : Option Addr) (n c : Nat) (B : Option Addr) (m d : Nat) (w : World) (h : SB w A n c a) (h' : SB w B m d b) (s : Set1 k a ra o) (s' : Set1 k b rb o') :
    Fn Tryz.prog 89 [dgV A n c ra, dgV B m d rb] w (DgS w k (fun e => opB 0 (o e) (o' e))) := by
  refine fn_of_exec (c := { c89 with cuts := [] }) gx_ok Tryz.func89 rfl rfl rfl ?_
  refine new (fun w1 hE1 hz1 hB1 => ?_)
  refine new (fun w2 hE2 hz2 hB2 => ?_)
  refine new (fun w3 hE3 hz3 hB3 => ?_)
  have hE03 := (hE1.trans hE2).trans hE3
  refine loadN_blk0 ((hB1.ext hE2).ext hE3) rfl ?_
  refine loadN_blk0 (hB2.ext hE3) rfl ?_
  refine call (rcomb_set hk A n c B m d 0 (by decide) w3 (h.ext hE03) (h'.ext hE03) s s') ?_
  rintro _ w4 ⟨PA, q, pc, nd, r, rfl, hE4, hP4, hS4, hR4⟩
  refine storeN_blk0 (hB3.ext hE4) rfl (sc rfl) (fun w5 hg5 _ hB5 => ?_)
  have hM5 : Mod (· = w2.heap.size) w4 w5 := Mod.of_grown hg5 rfl
  refine loadN_blk0 hB5 rfl ?_
  exact ⟨PA, q, pc, nd, r, rfl, hM5.ext (hE03.trans hE4) (fun i hi => by omega), hP4.mod hM5 (fun i hi e => by have := hR4 i hi; omega), hS4, fun i hi => by have := hR4 i hi; omega⟩
theorem rcompl_fn {a : List Br} {ra : Int} {o : (Nat → Bool) → Bool} (A : Option Addr) (n c : Nat) (w : World) (h : SB w A n c a) (s : Set1 k a ra o) :
    Fn Tryz.prog 125 [dgV A n c ra] w (DgS w k (fun e => !o e)) := by
  refine fn_of_exec (c := { c125 with cuts := [] }) gx_ok Tryz.func125 rfl rfl rfl ?_
  refine new (fun w1 hE1 hz1 hB1 => ?_)
  refine new (fun w2 hE2 hz2 hB2 => ?_)
  have hE02 := hE1.trans hE2
  have hB12 := hB1.ext hE2
  refine draw_plan gx_ok (Ext w2) 3 [(true, 0), (false, 1), (false, 2)] (by kernel_rfl) (Ext.drew w2) ?_
  refine qloadN (vs := [.slice A n c, .int .i64 ra]) rfl (fun w' hw' j v hj => by have := (hB12.ext hw').cell j; rw [this]; exact hj) ?_
  refine call (rconst_fn true _) ?_
  rintro _ w3 ⟨rfl, hE3⟩
  have hE23 := (Ext.drew w2).trans hE3
  refine ⟨hE23, ?_⟩
  have s1 : Set1 k [] 1 (fun _ => true) := const_set k true
  refine call (rcomb_set hk A n c none 0 0 2 (by decide) w3 (h.ext (hE02.trans hE23)) (SlS.nil _) s s1) ?_
  rintro _ w4 ⟨PA, q, pc, nd, r, rfl, hE4, hP4, hS4, hR4⟩
  have hE24 := hE23.trans hE4
  refine ⟨hE24, ?_⟩
  have hz := (hE02.trans hE23).size
  refine storeN_blk0 (hB2.ext hE24) rfl (sc rfl) (fun w5 hg5 _ hB5 => ?_)
  have hM5 : Mod (· = w1.heap.size) w4 w5 := Mod.of_grown hg5 rfl
  refine loadN_blk0 hB5 rfl ?_
  have hz2' := hE23.size
  exact ⟨PA, q, pc, nd, r, rfl, hM5.ext (hE02.trans hE24) (fun i hi => by omega), hP4.mod hM5 (fun i hi e => by have := hR4 i hi; omega), hS4.congr (fun e => by cases o e <;> rfl), fun i hi => by have := hR4 i hi; omega⟩
theorem rminus_fn {a b : List Br} {ra rb : Int} {o o' : (Nat → Bool) → Bool} (A : Option Addr) (n c : Nat) (B : Option Addr) (m d : Nat) (w : World) (h : SB w A n c a) (h' : SB w B m d b) (s : Set1 k a ra o) (s' : Set1 k b rb o') :
    Fn Tryz.prog 88 [dgV A n c ra, dgV B m d rb] w (DgS w k (fun e => o e && !o' e)) := by
  refine fn_of_exec (c := { c88 with cuts := [] }) gx_ok Tryz.func88 rfl rfl rfl ?_
  refine new (fun w1 hE1 hz1 hB1 => ?_)
  refine new (fun w2 hE2 hz2 hB2 => ?_)
  refine new (fun w3 hE3 hz3 hB3 => ?_)
  have hE03 := (hE1.trans hE2).trans hE3
  have hB13 := (hB1.ext hE2).ext hE3
  have hB23 := hB2.ext hE3
  refine draw_plan gx_ok (Ext w3) 4 [(true, 0), (true, 1), (false, 2), (false, 3)] (by kernel_rfl) (Ext.drew w3) ?_
  refine qloadN (vs := [.slice A n c, .int .i64 ra]) rfl (fun w' hw' j v hj => by have := (hB13.ext hw').cell j; rw [this]; exact hj) ?_
  refine qloadN (vs := [.slice B m d, .int .i64 rb]) rfl (fun w' hw' j v hj => by have := (hB23.ext hw').cell j; rw [this]; exact hj) ?_
  refine call (rcompl_fn hk B m d _ (h'.ext (hE03.trans (Ext.drew w3))) s') ?_
  rintro _ w4 ⟨QA, q1, qc, nd1, r1, rfl, hE4, hQ4, hT4, _⟩
  have hE34 := (Ext.drew w3).trans hE4
  refine ⟨hE34, ?_⟩
  refine call (rinter_fn hk A n c QA q1 qc w4 (h.ext (hE03.trans hE34)) hQ4 s hT4) ?_
  rintro _ w5 ⟨PA, q, pc, nd, r, rfl, hE5, hP5, hS5, hR5⟩
  have hE35 := hE34.trans hE5
  refine ⟨hE35, ?_⟩
  have hz3' := hE34.size
  refine storeN_blk0 (hB3.ext hE35) rfl (sc rfl) (fun w6 hg6 _ hB6 => ?_)
  have hM6 : Mod (· = w2.heap.size) w5 w6 := Mod.of_grown hg6 rfl
  refine loadN_blk0 hB6 rfl ?_
  exact ⟨PA, q, pc, nd, r, rfl, hM6.ext (hE03.trans hE35) (fun i hi => by omega), hP5.mod hM6 (fun i hi e => by have := hR5 i hi; omega), hS5.congr (fun e => by simp [opB]), fun i hi => by have := hR5 i hi; omega⟩
theorem rnot_fn {a : List Br} {ra : Int} {o : (Nat → Bool) → Bool} (A : Option Addr) (n c : Nat) (w : World) (h : SB w A n c a) (s : Set1 k a ra o) :
    Fn Tryz.prog 157 [dgV A n c ra] w (DgSE w k (fun e => !o e)) := by
  refine fn_of_exec (c := { c157 with cuts := [] }) gx_ok Tryz.func157 rfl rfl rfl ?_
  refine new (fun w1 hE1 hz1 hB1 => ?_)
  refine new (fun w2 hE2 hz2 hB2 => ?_)
  have hE02 := hE1.trans hE2
  have hB12 := hB1.ext hE2
  refine loadN_blk0 hB12 rfl ?_
  refine call (rcheck2_fn A n c a ra w2 (h.ext hE02)) ?_
  rintro _ w3 ⟨rfl, hE3⟩
  refine wif_nef (s.chk hk) ?_
  have hE03 := hE02.trans hE3
  refine loadN_blk0 (hB12.ext hE3) rfl ?_
  refine call (rcompl_fn hk A n c w3 (h.ext hE03) s) ?_
  rintro _ w4 ⟨QA, q1, qc, nd1, r1, rfl, hE4, hQ4, hT4, hR4⟩
  have hE24 := hE3.trans hE4
  have hl := hT4.len hk
  refine call (rlimited_fn QA q1 qc nd1 r1 w2 w4 hQ4 (fun i hi => by have := hR4 i hi; have := hE3.size; omega) hE24) ?_
  rw [show limD (nd1, r1) = ((nd1, r1), 0) from if_neg (by show ¬ 4096 < nd1.length; omega)]
  rintro _ w5 ⟨PA, q, pc, rfl, hE5, hP5, hR5⟩
  refine storeN_blk0 (hB2.ext hE5) rfl (sc rfl) (fun w6 hg6 _ hB6 => ?_)
  have hM6 : Mod (· = w1.heap.size) w5 w6 := Mod.of_grown hg6 rfl
  refine loadN_blk0 hB6 rfl ?_
  exact ⟨PA, q, pc, nd1, r1, rfl, hM6.ext (hE02.trans hE5) (fun i hi => by omega), SB.mod hP5 hM6 (fun i hi e => by have := hR5 i hi; omega), hT4, fun i hi => by have := hR5 i hi; omega⟩
theorem rand_fn {a b : List Br} {ra rb : Int} {o o' : (Nat → Bool) → Bool} (A : Option Addr) (n c : Nat) (B : Option Addr) (m d : Nat) (w : World) (h : SB w A n c a) (h' : SB w B m d b) (s : Set1 k a ra o) (s' : Set1 k b rb o') :
    Fn Tryz.prog 158 [dgV A n c ra, dgV B m d rb] w (DgSE w k (fun e => opB 0 (o e) (o' e))) := by
  have hb2 := at2D_bnd s.vd s'.vd 0
  have l1 := s.len hk
  have l2 := s'.len hk
  have hmul : (a.length + 2) * (b.length + 2) ≤ 4098 * 4098 := Nat.mul_le_mul (by omega) (by omega)
  refine fn_of_exec (c := { c158 with cuts := [] }) gx_ok Tryz.func158 rfl rfl rfl ?_
  refine new (fun w1 hE1 hz1 hB1 => ?_)
  refine new (fun w2 hE2 hz2 hB2 => ?_)
  refine new (fun w3 hE3 hz3 hB3 => ?_)
  have hE03 := (hE1.trans hE2).trans hE3
  refine loadN_blk0 ((hB1.ext hE2).ext hE3) rfl ?_
  refine loadN_blk0 (hB2.ext hE3) rfl ?_
  refine call (roperation_fn A n c a ra B m d b rb 0 w3 (h.ext hE03) (h'.ext hE03) (fun _ _ => by omega) (by decide)) ?_
  rw [op_set hk s s' 0]
  rintro _ w4 ⟨PA, q, pc, rfl, hE4, hP4, hR4⟩
  refine storeN_blk0 (hB3.ext hE4) rfl (sc rfl) (fun w5 hg5 _ hB5 => ?_)
  have hM5 : Mod (· = w2.heap.size) w4 w5 := Mod.of_grown hg5 rfl
  refine loadN_blk0 hB5 rfl ?_
  exact ⟨PA, q, pc, _, _, rfl, hM5.ext (hE03.trans hE4) (fun i hi => by omega), SB.mod hP4 hM5 (fun i hi e => by have := hR4 i hi; omega), comb_set s s' 0, fun i hi => by have := hR4 i hi; omega⟩
theorem ror_fn {a b : List Br} {ra rb : Int} {o o' : (Nat → Bool) → Bool} (A : Option Addr) (n c : Nat) (B : Option Addr) (m d : Nat) (w : World) (h : SB w A n c a) (h' : SB w B m d b) (s : Set1 k a ra o) (s' : Set1 k b rb o') :
    Fn Tryz.prog 159 [dgV A n c ra, dgV B m d rb] w (DgSE w k (fun e => opB 1 (o e) (o' e))) := by
  have hb2 := at2D_bnd s.vd s'.vd 1
  have l1 := s.len hk
  have l2 := s'.len hk
  have hmul : (a.length + 2) * (b.length + 2) ≤ 4098 * 4098 := Nat.mul_le_mul (by omega) (by omega)
  refine fn_of_exec (c := { c159 with cuts := [] }) gx_ok Tryz.func159 rfl rfl rfl ?_
  refine new (fun w1 hE1 hz1 hB1 => ?_)
  refine new (fun w2 hE2 hz2 hB2 => ?_)
  refine new (fun w3 hE3 hz3 hB3 => ?_)
  have hE03 := (hE1.trans hE2).trans hE3
  refine loadN_blk0 ((hB1.ext hE2).ext hE3) rfl ?_
  refine loadN_blk0 (hB2.ext hE3) rfl ?_
  refine call (roperation_fn A n c a ra B m d b rb 1 w3 (h.ext hE03) (h'.ext hE03) (fun _ _ => by omega) (by decide)) ?_
  rw [op_set hk s s' 1]
  rintro _ w4 ⟨PA, q, pc, rfl, hE4, hP4, hR4⟩
  refine storeN_blk0 (hB3.ext hE4) rfl (sc rfl) (fun w5 hg5 _ hB5 => ?_)
  have hM5 : Mod (· = w2.heap.size) w4 w5 := Mod.of_grown hg5 rfl
  refine loadN_blk0 hB5 rfl ?_
  exact ⟨PA, q, pc, _, _, rfl, hM5.ext (hE03.trans hE4) (fun i hi => by omega), SB.mod hP4 hM5 (fun i hi e => by have := hR4 i hi; omega), comb_set s s' 1, fun i hi => by have := hR4 i hi; omega⟩
end

theorem var_set {k v : Nat} (hv : v < k) (hk : k ≤ 64) : Set1 k [⟨(v : Nat), 0, 1⟩] 2 (fun e => e v) := ⟨vd_var (by omega) (by omega), fun b hb => by simp only [List.mem_singleton] at hb; subst hb; show ((v : Nat) : Int) < k; omega, fun e => by
  rw [ev_ge (vd_var (k := ((v : Nat) : Int)) (by omega) (by omega)).wf (by decide) (b := ⟨(v : Nat), 0, 1⟩) rfl, ev_lt (by simp), ev_lt (by simp)]
  cases h : e v <;> simp [h]⟩
end
end Go.Proofs.YtedopgkbajhanaaGreatDoor

namespace Go.Proofs.YtedopgkbajhanaaGreatDoor
section
section
open Go Go.RowKit

/-! ### Segments -/
structure Sx where
  f : Int
  t : Int
  fl : Int
  at_ : Int
  x : DV
def Sx.cells (y : Sx) : List Value := [.int .i64 y.f, .int .i64 y.t, .int .i64 y.fl, .int .i64 y.at_, .slice y.x.A y.x.n y.x.c, .int .i64 y.x.r]
theorem sx_len (y : Sx) : y.cells.length = 6 := rfl
/-- Segments in memory. -/
structure SX (w : World) (A : Option Addr) (n c : Nat) (L : List Sx) : Prop where
  sl : SlS Sx.cells 6 w A n c L
  dg : ∀ y ∈ L, SB w y.x.A y.x.n y.x.c y.x.nd
theorem SX.ext {w w' : World} {A : Option Addr} {n c : Nat} {L : List Sx} (h : SX w A n c L) (k : Ext w w') : SX w' A n c L := ⟨h.sl.ext k, fun y hy => (h.dg y hy).ext k⟩
def segOk (tx : List Nat) (at_ : Int) (y : Sx) : Prop := y.f = at_ ∧ at_ < y.t ∧ y.t ≤ tx.length ∧ tx[(y.t - 1).toNat]? = some 10 ∧ chkD y.x.nd y.x.r = 0 ∧ 0 ≤ y.fl ∧ 0 ≤ y.at_ ∧ y.at_ ≤ 1048576 - (y.t - y.f)
def chkL (tx : List Nat) : Int → List Sx → Prop
  | at_, [] => at_ = tx.length
  | at_, y :: L => segOk tx at_ y ∧ chkL tx y.t L
open Classical in
noncomputable def chkS (tx : List Nat) (L : List Sx) : Int := if 1048576 < tx.length ∨ 65536 < L.length then 2 else if chkL tx 0 L then 0 else 70
theorem chkS_zero {tx : List Nat} {L : List Sx} : chkS tx L = 0 ↔ tx.length ≤ 1048576 ∧ L.length ≤ 65536 ∧ chkL tx 0 L := by
  unfold chkS
  by_cases h1 : 1048576 < tx.length ∨ 65536 < L.length
  · rw [if_pos h1]; constructor
    · intro h; cases h
    · rintro ⟨a, b, _⟩; omega
  · rw [if_neg h1]
    by_cases h2 : chkL tx 0 L
    · rw [if_pos h2]; exact ⟨fun _ => ⟨by omega, by omega, h2⟩, fun _ => rfl⟩
    · rw [if_neg h2]; constructor
      · intro h; cases h
      · rintro ⟨_, _, h⟩; exact absurd h h2

/-- What Check has seen. -/
structure ChkI (w0 : World) (tx : List Nat) (L : List Sx) (i : Nat) (at_ : Int) (w : World) : Prop where
  e : Ext w0 w
  le : i ≤ L.length
  a0 : 0 ≤ at_
  al : at_ ≤ tx.length
  rs : chkL tx 0 L ↔ chkL tx at_ (L.drop i)

set_option maxHeartbeats 1600000 in
theorem scheck_fn (tx : List Nat) (A : Option Addr) (n c : Nat) (L : List Sx) (w : World) (h : SX w A n c L) (h8 : ∀ x ∈ tx, x < 256) :
    Fn Tryz.prog 27 [srcV tx A n c] w (fun u w' => u = .int .i64 (chkS tx L) ∧ Ext w w') := by
  have hlen := h.sl.2
  have hts := strOf_size tx
  refine fn_of_exec (c := { c27 with cuts := [] }) gx_ok Tryz.func27 rfl rfl rfl ?_
  refine new (fun w1 hE1 hz1 hB1 => ?_)
  refine load_blk0 hB1 rfl ?_
  refine wif_d (fun c1 => ?_) (fun c1 => ?_)
  · exact ⟨by unfold chkS; rw [if_pos (.inl (by omega))], hE1⟩
  refine load_blk hB1 rfl ?_
  refine wif_d (fun c2 => ?_) (fun c2 => ?_)
  · exact ⟨by unfold chkS; rw [if_pos (.inr (by omega))], hE1⟩
  have hcs : chkS tx L = open Classical in if chkL tx 0 L then 0 else 70 := by unfold chkS; rw [if_neg (by omega)]
  refine load_blk hB1 rfl ?_
  refine loop gx_ok [19, 3] (fun s : Nat × Int => [.int .i64 s.1, .int .i64 s.2]) (fun s w' => ChkI w1 tx L s.1 s.2 w') (fun s _ => L.length - s.1) (0, 0) rfl ⟨Ext.refl _, Nat.zero_le _, Int.le_refl _, by omega, Iff.rfl⟩ ?_
  rintro ⟨i, at_⟩ w2 hI
  have hE02 := hE1.trans hI.e
  have a0 := hI.a0
  have al := hI.al
  simp only at a0 al
  refine wif_d (fun c3 => ?_) (fun c3 => ?_)
  · have hi : i < n := by omega
    refine index_sls sx_len (h.sl.ext hE02) rfl hi (fun p y hy hc => ?_)
    refine loadN_at (vs := y.cells) rfl hc ?_
    refine new (fun w3 hE3 hz3 hB3 => ?_)
    refine storeN_blk0 hB3 rfl (sc rfl) (fun w4 hg4 _ hB4 => ?_)
    have hE24 : Ext w2 w4 := newBox hE3 hB3 hg4
    have hE04 := hE02.trans hE24
    have hB1' := hB1.ext (hI.e.trans hE24)
    have hdrop : L.drop i = y :: L.drop (i + 1) := by
      rw [List.drop_eq_getElem_cons (by omega)]
      congr 1
      exact Option.some.inj ((List.getElem?_eq_getElem (by omega)).symm.trans hy)
    have hrs := hI.rs
    simp only at hrs
    rw [hdrop, chkL] at hrs
    have bad : ¬ segOk tx at_ y → ∀ w', Ext w w' → (Value.int .i64 70 = .int .i64 (chkS tx L)) ∧ Ext w w' := fun hno w' hE => ⟨by rw [hcs, if_neg (fun hh => hno (hrs.1 hh).1)], hE⟩
    refine load_blk0 hB4 rfl ?_
    refine wif_ne (fun d1 => ?_) (fun d1 => ?_)
    · exact bad (fun hb => d1 hb.1) _ hE04
    refine load_blk hB4 rfl ?_
    refine wif_d (fun d2 => ?_) (fun d2 => ?_)
    · exact bad (fun hb => by have := hb.2.1; omega) _ hE04
    refine load_blk hB4 rfl ?_
    refine load_blk0 hB1' rfl ?_
    refine wif_d (fun d3 => ?_) (fun d3 => ?_)
    · exact bad (fun hb => by have := hb.2.2.1; omega) _ hE04
    have hyt : y.t ≤ tx.length := by omega
    refine load_blk0 hB1' rfl ?_
    refine load_blk hB4 rfl ?_
    have hj : (y.t - 1).toNat < tx.length := by omega
    refine norm_i64_to (((y.t - 1).toNat : Nat) : Int) (by omega) (by omega) ?_
    refine sindex' (by rw [hts]; exact hj) (fun b hb _ => ?_)
    rw [bytesOf_strOf h8] at hb
    refine wif_ne (fun d4 => ?_) (fun d4 => ?_)
    · exact bad (fun hh => by have := hh.2.2.2.1; rw [hb] at this; exact d4 (by have := Option.some.inj this; omega)) _ hE04
    have hb10 : tx[(y.t - 1).toNat]? = some 10 := by rw [hb]; congr 1; omega
    refine loadN_at (vs := [.slice y.x.A y.x.n y.x.c, .int .i64 y.x.r]) rfl (fun j v hj => by rw [Addr.add_add]; exact (hB4.cell _).trans (by match j, hj with | 0, hj => exact hj | 1, hj => exact hj)) ?_
    refine call (check2_fn y.x.A y.x.n y.x.c y.x.nd y.x.r w4 ((h.dg y (List.mem_of_getElem? hy)).ext hE04)) ?_
    rintro _ w5 ⟨rfl, hE5⟩
    have hE05 := hE04.trans hE5
    have hB5 := hB4.ext hE5
    refine wif_ne (fun d5 => ?_) (fun d5 => ?_)
    · exact bad (fun hh => d5 hh.2.2.2.2.1) _ hE05
    refine load_blk hB5 rfl ?_
    refine wif_d (fun d6 => ?_) (fun d6 => ?_)
    · exact bad (fun hh => by have := hh.2.2.2.2.2.1; omega) _ hE05
    refine load_blk hB5 rfl ?_
    refine wif_d (fun d7 => ?_) (fun d7 => ?_)
    · exact bad (fun hh => by have := hh.2.2.2.2.2.2.1; omega) _ hE05
    refine load_blk hB5 rfl ?_
    refine load_blk hB5 rfl ?_
    refine load_blk0 hB5 rfl ?_
    refine norm_i64_to (y.t - y.f) rfl (by omega) ?_
    refine norm_i64_to (1048576 - (y.t - y.f)) rfl (by omega) ?_
    refine wif_d (fun d8 => ?_) (fun d8 => ?_)
    · exact bad (fun hh => by have := hh.2.2.2.2.2.2.2; omega) _ hE05
    refine load_blk hB5 rfl ?_
    refine norm_i64_to ((i + 1 : Nat) : Int) (by show ((i : Nat) : Int) + 1 = _; omega) (by omega) ?_
    have hok : segOk tx at_ y := ⟨d1, by omega, hyt, hb10, d5, by omega, by omega, by omega⟩
    exact ⟨(i + 1, y.t), rfl, ⟨hI.e.trans (hE24.trans hE5), by show i + 1 ≤ L.length; omega, by show 0 ≤ y.t; omega, hyt, by simp only; rw [hrs]; exact ⟨fun hh => hh.2, fun hh => ⟨hok, hh⟩⟩⟩, by show L.length - (i + 1) < L.length - i; omega⟩
  · have hdrop : L.drop i = [] := List.drop_eq_nil_of_le (by omega)
    have hrs := hI.rs
    simp only at hrs
    rw [hdrop, chkL] at hrs
    refine load_blk0 (hB1.ext hI.e) rfl ?_
    refine wif_d (fun d1 => ?_) (fun d1 => ?_)
    · exact ⟨by rw [hcs, if_neg (fun hh => by have := hrs.1 hh; omega)], hE02⟩
    · exact ⟨by rw [hcs, if_pos (hrs.2 (by omega))], hE02⟩
end

section
open Go Go.RowKit

/-! ### What a valid source's segments are -/
structure SegB (tx : List Nat) (y : Sx) : Prop where
  f0 : 0 ≤ y.f
  ft : y.f < y.t
  tl : y.t ≤ tx.length
  ck : chkD y.x.nd y.x.r = 0
  l0 : 0 ≤ y.fl
  a0 : 0 ≤ y.at_
  a1 : y.at_ ≤ 1048576
theorem chkL_all {tx : List Nat} : ∀ {L : List Sx} {a : Int}, 0 ≤ a → chkL tx a L → ∀ y ∈ L, SegB tx y
  | [], _, _, _, y, hy => by cases hy
  | z :: L, a, ha, h, y, hy => by
    obtain ⟨⟨h1, h2, h3, h4, h5, h6, h7, h8⟩, hr⟩ := h
    rcases List.mem_cons.1 hy with rfl | hy
    · exact ⟨by omega, by omega, h3, h5, h6, h7, by omega⟩
    · exact chkL_all (by omega) hr y hy
def totS (L : List Sx) : Int := (L.map (fun y => y.t - y.f)).sum
theorem totS_cons (y : Sx) (L : List Sx) : totS (y :: L) = (y.t - y.f) + totS L := by simp [totS]
theorem totS_nn {tx : List Nat} : ∀ {L : List Sx}, (∀ y ∈ L, SegB tx y) → 0 ≤ totS L
  | [], _ => by simp [totS]
  | y :: L, h => by
    rw [totS_cons]
    have := (h y (by simp)).ft
    have : 0 ≤ totS L := totS_nn (tx := tx) (fun z hz => h z (List.mem_cons_of_mem _ hz))
    omega
theorem totS_chk {tx : List Nat} : ∀ {L : List Sx} {a : Int}, chkL tx a L → totS L = tx.length - a
  | [], a, h => by have : a = tx.length := h; simp [totS, this]
  | y :: L, a, h => by
    rw [totS_cons, totS_chk h.2, h.1.1]; omega
theorem totS_filter {tx : List Nat} (q : Sx → Bool) : ∀ {L : List Sx}, (∀ y ∈ L, SegB tx y) → totS (L.filter q) ≤ totS L
  | [], _ => by simp [totS]
  | y :: L, h => by
    have h1 := (h y (by simp)).ft
    have h2 : totS (L.filter q) ≤ totS L := totS_filter (tx := tx) q (fun z hz => h z (List.mem_cons_of_mem _ hz))
    rw [List.filter_cons]
    split
    · rw [totS_cons, totS_cons]; omega
    · rw [totS_cons]; omega

def inS (c : Nat) (y : Sx) : Bool := ev y.x.nd y.x.r (bitE c)
def selL (c : Nat) (L : List Sx) : List Sx := L.filter (inS c)
def pieceS (tx : List Nat) (y : Sx) : List Nat := (tx.take y.t.toNat).drop y.f.toNat
noncomputable def selP (tx : List Nat) (L : List Sx) (c : Nat) : List Nat := if chkS tx L = 0 then (selL c L).flatMap (pieceS tx) else []
def locL (tl at_ : Int) : Int → List Sx → Int × Bool
  | n, [] => if at_ = tl then (n, true) else (0, false)
  | n, y :: L => if y.f ≤ at_ ∧ at_ < y.t then (n + at_ - y.f, true) else locL tl at_ (n + (y.t - y.f)) L
noncomputable def locP (tx : List Nat) (L : List Sx) (c : Nat) (at_ : Int) : Int × Bool := if chkS tx L = 0 then locL tx.length at_ 0 (selL c L) else (0, false)
def glbL (tl : Int) : Int → List Sx → Int × Bool
  | at_, [] => if 0 < at_ then (0, false) else (tl, true)
  | at_, y :: L => if y.t - y.f ≤ at_ then glbL tl (at_ - (y.t - y.f)) L else (y.f + at_, true)
noncomputable def glbP (tx : List Nat) (L : List Sx) (c : Nat) (at_ : Int) : Int × Bool := if chkS tx L = 0 ∧ 0 ≤ at_ then glbL tx.length at_ (selL c L) else (0, false)
def oriL (at_ : Int) : List Sx → Int × Int × Bool
  | [] => (0, 0, false)
  | y :: L => if at_ < y.t then (y.fl, y.at_ + at_ - y.f, true) else oriL at_ L
noncomputable def oriP (tx : List Nat) (L : List Sx) (at_ : Int) : Int × Int × Bool := if chkS tx L = 0 ∧ 0 ≤ at_ ∧ at_ < tx.length then oriL at_ L else (0, 0, false)

theorem drop_get {α : Type} {l : List α} {i : Nat} {x : α} (h : l[i]? = some x) : l.drop i = x :: l.drop (i + 1) := by
  obtain ⟨h1, rfl⟩ := List.getElem?_eq_some_iff.1 h
  exact List.drop_eq_getElem_cons h1
theorem sx_scalar (y : Sx) : ∀ u ∈ y.cells, scalar u = true := by intro u hu; simp [Sx.cells] at hu; rcases hu with rfl | rfl | rfl | rfl | rfl | rfl <;> rfl

/-! ### selected -/
structure SelI (w0 : World) (base : Nat) (c : Nat) (L : List Sx) (i : Nat) (O : Option Addr) (oc : Nat) (w : World) : Prop where
  e : Ext w0 w
  le : i ≤ L.length
  own : Own w base 45 6 O (selL c (L.take i)).length oc ((selL c (L.take i)).flatMap Sx.cells)

set_option maxHeartbeats 1600000 in
theorem selected_fn (tx : List Nat) (A : Option Addr) (n cp : Nat) (L : List Sx) (c : Nat) (w : World) (h : SX w A n cp L) (hc : c ≤ 18446744073709551615) (hv : ∀ y ∈ L, chkD y.x.nd y.x.r = 0) (hn : n ≤ 65536) :
    Fn Tryz.prog 52 [srcV tx A n cp, .int .u64 c] w (fun u w' => ∃ O oc, u = .slice O (selL c L).length oc ∧ Ext w w' ∧ SX w' O (selL c L).length oc (selL c L) ∧ Own w' w.heap.size 45 6 O (selL c L).length oc ((selL c L).flatMap Sx.cells)) := by
  have hlen := h.sl.2
  refine fn_of_exec (c := { c52 with cuts := [] }) gx_ok Tryz.func52 rfl rfl rfl ?_
  refine new (fun w1 hE1 hz1 hB1 => ?_)
  refine load_blk hB1 rfl ?_
  refine loop gx_ok [11, 5] (fun s : Nat × Option Addr × Nat => [.int .i64 s.1, .slice s.2.1 (selL c (L.take s.1)).length s.2.2]) (fun s w' => SelI w1 w1.heap.size c L s.1 s.2.1 s.2.2 w') (fun s _ => L.length - s.1) (0, none, 0) rfl ⟨Ext.refl _, Nat.zero_le _, Own.nil _ _ _ _⟩ ?_
  rintro ⟨i, O, oc⟩ w2 hI
  have hE02 := hE1.trans hI.e
  have ho := hI.own
  have hle := hI.le
  simp only at ho hle
  refine wif_d (fun c3 => ?_) (fun c3 => ?_)
  · have hi : i < n := by omega
    refine index_sls sx_len (h.sl.ext hE02) rfl hi (fun p y hy hcl => ?_)
    have htk : L.take (i + 1) = L.take i ++ [y] := by rw [List.take_add_one, hy]; rfl
    refine loadN_at (vs := y.cells) rfl hcl ?_
    refine new (fun w3 hE3 hz3 hB3 => ?_)
    refine storeN_blk0 hB3 rfl (sc rfl) (fun w4 hg4 _ hB4 => ?_)
    have hE24 : Ext w2 w4 := newBox hE3 hB3 hg4
    have hE04 := hE02.trans hE24
    refine loadN_at (vs := [.slice y.x.A y.x.n y.x.c, .int .i64 y.x.r]) rfl (fun j v hj => by rw [Addr.add_add]; exact (hB4.cell _).trans (by match j, hj with | 0, hj => exact hj | 1, hj => exact hj)) ?_
    have hym := List.mem_of_getElem? hy
    refine call (dholds_fn y.x.A y.x.n y.x.c y.x.nd y.x.r c hc w4 ((h.dg y hym).ext hE04) (hv y hym)) ?_
    rintro _ w5 ⟨rfl, hE5⟩
    have hE25 := hE24.trans hE5
    have hB5 := hB4.ext hE5
    refine wif (fun d1 => ?_) (fun d1 => ?_)
    · have d1 : inS c y = true := d1
      have hsl : selL c (L.take (i + 1)) = selL c (L.take i) ++ [y] := by rw [htk]; unfold selL; rw [List.filter_append]; simp [d1]
      refine loadN_blk0 hB5 rfl ?_
      refine at_buildN gx_ok [y.cells] rfl rfl rfl rfl rfl ⟨rfl, rfl, ⟨⟩⟩ rfl (fun cs hh => by simp only [List.mem_singleton] at hh; subst hh; rfl) rfl (by decide) (by decide) ?_
      intro w6 hE6 hz6 hB6
      have hE26 := hE25.trans hE6
      have hs6 : Sl w6 6 (some ⟨w5.heap.size, 0, none⟩) 1 1 y.cells := Sl.own (sz := 6) (n := 1) hB6 (Nat.le_refl _) (by decide) (by simp [Sx.cells])
      have hfl : (selL c (L.take i)).length ≤ i := Nat.le_trans (List.length_filter_le _ _) (by simp; omega)
      refine at_app (n := (selL c (L.take i)).length) gx_ok rfl rfl rfl rfl rfl (by decide) rfl rfl ⟨_, rfl⟩ rfl rfl (ho.ext hE26) hs6 (sx_scalar y) (by unfold maxLen; omega) (by show ((selL c (L.take i)).length + 1) * 64 ≤ _; omega) (by have := hI.e.size; have := hE26.size; omega) ?_
      intro A' c' w7 hm7 hown7 hmv7
      refine norm_i64_to ((i + 1 : Nat) : Int) (by show ((i : Nat) : Int) + 1 = _; omega) (by omega) ?_
      refine ⟨(i + 1, A', c'), by simp only [hsl, List.length_append]; rfl, ⟨hm7.ext (hI.e.trans hE26) (fun k hk => (ho.rows k hk).1), by show i + 1 ≤ L.length; omega, ?_⟩, by show L.length - (i + 1) < L.length - i; omega⟩
      simp only
      rw [hsl, List.flatMap_append, List.length_append]
      simpa using hown7
    · have d1 : inS c y = false := d1
      have hsl : selL c (L.take (i + 1)) = selL c (L.take i) := by rw [htk]; unfold selL; rw [List.filter_append]; simp [d1]
      refine norm_i64_to ((i + 1 : Nat) : Int) (by show ((i : Nat) : Int) + 1 = _; omega) (by omega) ?_
      refine ⟨(i + 1, O, oc), by simp only [hsl]; rfl, ⟨hI.e.trans hE25, by show i + 1 ≤ L.length; omega, ?_⟩, by show L.length - (i + 1) < L.length - i; omega⟩
      simp only
      rw [hsl]
      exact ho.ext hE25
  · have hall : L.take i = L := List.take_of_length_le (by omega)
    rw [hall] at ho
    refine ⟨O, oc, ?_, hE02, ⟨⟨ho.sl, rfl⟩, fun y hy => (h.dg y (List.mem_filter.1 hy).1).ext hE02⟩, ho.up (by omega)⟩
    rw [hall]

/-! ### Select -/
theorem pieces_len {tx : List Nat} : ∀ {L : List Sx}, (∀ y ∈ L, SegB tx y) → ((L.flatMap (pieceS tx)).length : Int) = totS L
  | [], _ => rfl
  | y :: L, h => by
    have h1 := h y (by simp)
    have h2 := pieces_len (L := L) (tx := tx) (fun z hz => h z (List.mem_cons_of_mem _ hz))
    have := h1.f0
    have := h1.ft
    have := h1.tl
    rw [List.flatMap_cons, List.length_append, totS_cons, ← h2]
    have : (pieceS tx y).length = y.t.toNat - y.f.toNat := by unfold pieceS; rw [List.length_drop, List.length_take]; omega
    rw [this]; omega
theorem pieceS_b8 {tx : List Nat} (h8 : ∀ x ∈ tx, x < 256) (y : Sx) : ∀ x ∈ pieceS tx y, x < 256 := fun x hx => h8 x (List.mem_of_mem_take (List.mem_of_mem_drop hx))
structure SelJ (w0 : World) (base g : Nat) (tx : List Nat) (M : List Sx) (i : Nat) (w : World) : Prop where
  e : Ext w0 w
  le : i ≤ M.length
  b : ∃ A c, Bld w base g 86 [] A c ((M.take i).flatMap (pieceS tx))

set_option maxHeartbeats 1600000 in
theorem sselect_fn (tx : List Nat) (A : Option Addr) (n cp : Nat) (L : List Sx) (c : Nat) (w : World) (h : SX w A n cp L) (hc : c ≤ 18446744073709551615) (h8 : ∀ x ∈ tx, x < 256) :
    Fn Tryz.prog 29 [srcV tx A n cp, .int .u64 c] w (fun u w' => u = .string (strOf (selP tx L c)) ∧ Ext w w') := by
  have hlen := h.sl.2
  refine fn_of_exec (c := { c29 with cuts := [] }) gx_ok Tryz.func29 rfl rfl rfl ?_
  refine new (fun w1 hE1 hz1 hB1 => ?_)
  refine loadN_blk0 hB1 rfl ?_
  refine call (scheck_fn tx A n cp L w1 (h.ext hE1) h8) ?_
  rintro _ w2 ⟨rfl, hE2⟩
  have hE02 := hE1.trans hE2
  refine wif_ne (fun c1 => ?_) (fun c1 => ?_)
  · exact ⟨by unfold selP; rw [if_neg c1]; rfl, hE02⟩
  obtain ⟨t1, t2, t3⟩ := chkS_zero.1 c1
  have hall := chkL_all (Int.le_refl 0) t3
  refine new (fun w3 hE3 hz3 hB3 => ?_)
  have hE03 := hE02.trans hE3
  refine loadN_blk0 (hB1.ext (hE2.trans hE3)) rfl ?_
  refine call (selected_fn tx A n cp L c w3 (h.ext hE03) hc (fun y hy => (hall y hy).ck) (by omega)) ?_
  rintro _ w4 ⟨O, oc, rfl, hE4, hO4, how4⟩
  have hE04 := hE03.trans hE4
  have hmall : ∀ y ∈ selL c L, SegB tx y := fun y hy => hall y (List.mem_filter.1 hy).1
  have hmdg : ∀ y ∈ selL c L, SB w y.x.A y.x.n y.x.c y.x.nd := fun y hy => h.dg y (List.mem_filter.1 hy).1
  have htot : totS (selL c L) ≤ tx.length := by
    have e1 := totS_filter (inS c) hall
    have e2 := totS_chk t3
    unfold selL; omega
  have hml : (selL c L).length ≤ 65536 := Nat.le_trans (List.length_filter_le _ _) t2
  have hsp : selP tx L c = (selL c L).flatMap (pieceS tx) := if_pos c1
  generalize hM : selL c L = M at *
  have hz24 := hE4.size
  have hrow4 := how4.rows
  have hb4 : Bld w4 w4.heap.size w2.heap.size 86 [] none 0 (([] : List Sx).flatMap (pieceS tx)) := ⟨by omega, Nat.le_refl _, ⟨_, .inl rfl, hB3.ext hE4⟩, Own.nil _ _ _ _⟩
  have hg2 := hE02.size
  have hpl : ∀ i, (((M.take i).flatMap (pieceS tx)).length : Int) ≤ tx.length := fun i => by
    have e1 := pieces_len (L := M.take i) (tx := tx) (fun z hz => hmall z (List.mem_of_mem_take hz))
    have e2 := totS_nn (L := M.drop i) (tx := tx) (fun z hz => hmall z (List.mem_of_mem_drop hz))
    have e3 : totS M = totS (M.take i) + totS (M.drop i) := by
      unfold totS
      rw [← List.sum_append, ← List.map_append, List.take_append_drop]
    omega
  refine loop gx_ok [15] (fun i : Nat => [.int .i64 i]) (fun i w' => SelJ w2 w4.heap.size w2.heap.size tx M i w' ∧ Mod (fun k => k = w2.heap.size ∨ w4.heap.size ≤ k) w4 w') (fun i _ => M.length - i) 0 rfl ⟨⟨hE3.trans hE4, Nat.zero_le _, _, _, hb4⟩, Mod.refl _ _⟩ ?_
  rintro i w5 ⟨hI, hM45⟩
  have hE05 : Ext w w5 := hE02.trans hI.e
  have how5 : Own w5 w3.heap.size 45 6 O M.length oc (M.flatMap Sx.cells) := how4.mod hM45 (fun k hk hS => by have := hrow4 k hk; omega)
  obtain ⟨BA, bc, hb5⟩ := hI.b
  refine wif_d (fun c3 => ?_) (fun c3 => ?_)
  · have hi : i < M.length := by omega
    refine index_sls (l := M) sx_len ⟨how5.sl, rfl⟩ rfl hi (fun p y hy hcl => ?_)
    have hym := List.mem_of_getElem? hy
    have hyb := hmall y hym
    have htk : M.take (i + 1) = M.take i ++ [y] := by rw [List.take_add_one, hy]; rfl
    refine loadN_at (vs := y.cells) rfl hcl ?_
    refine new (fun w6 hE6 hz6 hB6 => ?_)
    refine storeN_blk0 hB6 rfl (sc rfl) (fun w7 hg7 _ hB7 => ?_)
    have hE57 : Ext w5 w7 := newBox hE6 hB6 hg7
    refine load_blk0 ((hB1.ext hE2).ext (hI.e.trans hE57)) rfl ?_
    refine load_blk0 hB7 rfl ?_
    refine load_blk hB7 rfl ?_
    have q1 := hyb.f0
    have q2 := hyb.ft
    have q3 := hyb.tl
    have hts := strOf_size tx
    refine need_to (v' := .string (strOf (pieceS tx y))) ⟨q1, by omega, by rw [hts]; omega⟩ (by rw [strOf_extract]; rfl) ?_
    have hpn := hpl (i + 1)
    rw [htk, List.flatMap_append, List.length_append] at hpn
    have hpe : [y].flatMap (pieceS tx) = pieceS tx y := by simp
    rw [hpe] at hpn
    have hps := strOf_size (pieceS tx y)
    refine call (writeString_fn w4.heap.size w2.heap.size _ [] BA bc _ (strOf (pieceS tx y)) w7 liesB0 (hb5.grow hE57) (by rw [hps]; omega)) ?_
    rintro _ w8 ⟨A8, c8, hb8, hm8, hv8⟩
    have hbr := (hb5.own.rows)
    have hS8 : ∀ k, BldS w2.heap.size BA k → k = w2.heap.size ∨ w4.heap.size ≤ k := fun k hk => hk.elim .inl (fun hk => .inr (hbr k hk).1)
    refine norm_i64_to ((i + 1 : Nat) : Int) (by show ((i : Nat) : Int) + 1 = _; omega) (by omega) ?_
    refine ⟨i + 1, rfl, ⟨⟨hm8.ext (hI.e.trans hE57) (fun k hk => by rcases hS8 k hk with e | e <;> omega), hi, A8, c8, ?_⟩, ?_⟩, by show M.length - (i + 1) < M.length - i; omega⟩
    · rw [htk, List.flatMap_append, hpe]
      rw [bytesOf_strOf (pieceS_b8 h8 y)] at hb8
      exact hb8
    · exact (hM45.trans (Mod.of_ext (fun k => k = w2.heap.size ∨ w4.heap.size ≤ k) hE57) (fun k hk => .inl hk)).trans (hm8.mono (fun k hk => .inl (hS8 k hk))) (fun k hk => .inl hk)
  · have hall : M.take i = M := List.take_of_length_le (by omega)
    rw [hall] at hb5
    have hpn := hpl i
    rw [hall] at hpn
    refine call (string_fn w4.heap.size w2.heap.size _ [] BA bc _ w5 hb5 (fun x hx => by
      obtain ⟨y, _, hxy⟩ := List.mem_flatMap.1 hx
      exact pieceS_b8 h8 y x hxy) (by omega)) ?_
    rintro _ w6 ⟨rfl, hm6⟩
    have hbr := (hb5.own.rows)
    exact ⟨by rw [hsp], hm6.ext hE05 (fun k hk => by have := hbr k hk; omega)⟩

/-! ### Local, Global -/
set_option maxHeartbeats 1600000 in
theorem slocal_fn (tx : List Nat) (A : Option Addr) (n cp : Nat) (L : List Sx) (c : Nat) (at_ : Int) (w : World) (h : SX w A n cp L) (hc : c ≤ 18446744073709551615) (h8 : ∀ x ∈ tx, x < 256) :
    Fn Tryz.prog 19 [srcV tx A n cp, .int .u64 c, .int .i64 at_] w (fun u w' => u = .tuple #[.int .i64 (locP tx L c at_).1, .bool (locP tx L c at_).2] ∧ Ext w w') := by
  have hlen := h.sl.2
  have hts := strOf_size tx
  refine fn_of_exec (c := { c19 with cuts := [] }) gx_ok Tryz.func19 rfl rfl rfl ?_
  refine new (fun w1 hE1 hz1 hB1 => ?_)
  refine loadN_blk0 hB1 rfl ?_
  refine call (scheck_fn tx A n cp L w1 (h.ext hE1) h8) ?_
  rintro _ w2 ⟨rfl, hE2⟩
  have hE02 := hE1.trans hE2
  refine wif_ne (fun c1 => ?_) (fun c1 => ?_)
  · exact ⟨by unfold locP; rw [if_neg c1], hE02⟩
  obtain ⟨t1, t2, t3⟩ := chkS_zero.1 c1
  have hall := chkL_all (Int.le_refl 0) t3
  refine loadN_blk0 (hB1.ext hE2) rfl ?_
  refine call (selected_fn tx A n cp L c w2 (h.ext hE02) hc (fun y hy => (hall y hy).ck) (by omega)) ?_
  rintro _ w4 ⟨O, oc, rfl, hE4, hO4, _⟩
  have hE04 := hE02.trans hE4
  have hmall : ∀ y ∈ selL c L, SegB tx y := fun y hy => hall y (List.mem_filter.1 hy).1
  have htot : totS (selL c L) ≤ tx.length := by
    have e1 := totS_filter (inS c) hall
    have e2 := totS_chk t3
    unfold selL; omega
  have hml : (selL c L).length ≤ 65536 := Nat.le_trans (List.length_filter_le _ _) t2
  have hsp : locP tx L c at_ = locL tx.length at_ 0 (selL c L) := if_pos c1
  rw [hsp]
  generalize hM : selL c L = M at *
  refine loop gx_ok [18, 8] (fun s : Nat × Int => [.int .i64 s.1, .int .i64 s.2]) (fun s w' => Ext w4 w' ∧ s.1 ≤ M.length ∧ 0 ≤ s.2 ∧ s.2 + totS (M.drop s.1) ≤ tx.length ∧ locL tx.length at_ 0 M = locL tx.length at_ s.2 (M.drop s.1)) (fun s _ => M.length - s.1) (0, 0) rfl ⟨Ext.refl _, Nat.zero_le _, Int.le_refl _, by simpa using htot, rfl⟩ ?_
  rintro ⟨i, b⟩ w5 ⟨hE5, hle, b0, bt, hrs⟩
  simp only at hle b0 bt hrs
  have hE05 := hE04.trans hE5
  refine wif_d (fun c3 => ?_) (fun c3 => ?_)
  · have hi : i < M.length := by simp only at c3; omega
    refine index_sls sx_len (hO4.ext hE5).sl rfl hi (fun p y hy hcl => ?_)
    have hy : M[i]? = some y := hy
    have hyb := hmall y (List.mem_of_getElem? hy)
    have q1 := hyb.f0
    have q2 := hyb.ft
    have q3 := hyb.tl
    rw [drop_get hy] at bt hrs
    rw [totS_cons] at bt
    have hnn : 0 ≤ totS (M.drop (i + 1)) := totS_nn (fun z hz => hmall z (List.mem_of_mem_drop hz))
    refine loadN_at (vs := y.cells) rfl hcl ?_
    refine new (fun w6 hE6 hz6 hB6 => ?_)
    refine storeN_blk0 hB6 rfl (sc rfl) (fun w7 hg7 _ hB7 => ?_)
    have hE57 : Ext w5 w7 := newBox hE6 hB6 hg7
    rw [locL] at hrs
    have next : ¬ (y.f ≤ at_ ∧ at_ < y.t) → locL tx.length at_ 0 M = locL tx.length at_ (b + (y.t - y.f)) (M.drop (i + 1)) := fun hh => by rw [hrs, if_neg hh]
    refine load_blk0 hB7 rfl ?_
    refine wif_d (fun d1 => ?_) (fun d1 => ?_)
    · refine load_blk hB7 rfl ?_
      refine wif_d (fun d2 => ?_) (fun d2 => ?_)
      · refine norm_i64_to (b + at_) rfl (by omega) ?_
        refine load_blk0 hB7 rfl ?_
        refine norm_i64_to (b + at_ - y.f) rfl (by omega) ?_
        exact ⟨by rw [hrs, if_pos ⟨d1, d2⟩], hE05.trans hE57⟩
      · refine load_blk hB7 rfl ?_
        refine load_blk0 hB7 rfl ?_
        refine norm_i64_to (y.t - y.f) rfl (by omega) ?_
        refine norm_i64_to (b + (y.t - y.f)) rfl (by omega) ?_
        refine norm_i64_to ((i + 1 : Nat) : Int) (by show ((i : Nat) : Int) + 1 = _; omega) (by omega) ?_
        exact ⟨(i + 1, b + (y.t - y.f)), rfl, ⟨hE5.trans hE57, hi, by show 0 ≤ b + (y.t - y.f); omega, by show b + (y.t - y.f) + totS (M.drop (i + 1)) ≤ _; omega, next (fun hh => d2 hh.2)⟩, by show M.length - (i + 1) < M.length - i; omega⟩
    · refine load_blk hB7 rfl ?_
      refine load_blk0 hB7 rfl ?_
      refine norm_i64_to (y.t - y.f) rfl (by omega) ?_
      refine norm_i64_to (b + (y.t - y.f)) rfl (by omega) ?_
      refine norm_i64_to ((i + 1 : Nat) : Int) (by show ((i : Nat) : Int) + 1 = _; omega) (by omega) ?_
      exact ⟨(i + 1, b + (y.t - y.f)), rfl, ⟨hE5.trans hE57, hi, by show 0 ≤ b + (y.t - y.f); omega, by show b + (y.t - y.f) + totS (M.drop (i + 1)) ≤ _; omega, next (fun hh => d1 hh.1)⟩, by show M.length - (i + 1) < M.length - i; omega⟩
  · rw [List.drop_eq_nil_of_le (by simp only at c3; omega), locL] at hrs
    refine load_blk0 (hB1.ext ((hE2.trans hE4).trans hE5)) rfl ?_
    refine wif_ne (fun d1 => ?_) (fun d1 => ?_)
    · exact ⟨by rw [hrs, if_neg (by rw [hts] at d1; exact d1)], hE05⟩
    · exact ⟨by rw [hrs, if_pos (by rw [hts] at d1; exact d1)], hE05⟩

set_option maxHeartbeats 1600000 in
theorem sglobal_fn (tx : List Nat) (A : Option Addr) (n cp : Nat) (L : List Sx) (c : Nat) (at_ : Int) (w : World) (h : SX w A n cp L) (hc : c ≤ 18446744073709551615) (h8 : ∀ x ∈ tx, x < 256) (h63 : at_ ≤ 9223372036854775807) :
    Fn Tryz.prog 21 [srcV tx A n cp, .int .u64 c, .int .i64 at_] w (fun u w' => u = .tuple #[.int .i64 (glbP tx L c at_).1, .bool (glbP tx L c at_).2] ∧ Ext w w') := by
  have hlen := h.sl.2
  have hts := strOf_size tx
  refine fn_of_exec (c := { c21 with cuts := [] }) gx_ok Tryz.func21 rfl rfl rfl ?_
  refine new (fun w1 hE1 hz1 hB1 => ?_)
  refine loadN_blk0 hB1 rfl ?_
  refine call (scheck_fn tx A n cp L w1 (h.ext hE1) h8) ?_
  rintro _ w2 ⟨rfl, hE2⟩
  have hE02 := hE1.trans hE2
  refine wif_ne (fun c1 => ?_) (fun c1 => ?_)
  · exact ⟨by unfold glbP; rw [if_neg (fun hh => c1 hh.1)], hE02⟩
  refine wif_d (fun c2 => ?_) (fun c2 => ?_)
  · exact ⟨by unfold glbP; rw [if_neg (fun hh => by omega)], hE02⟩
  obtain ⟨t1, t2, t3⟩ := chkS_zero.1 c1
  have hall := chkL_all (Int.le_refl 0) t3
  refine loadN_blk0 (hB1.ext hE2) rfl ?_
  refine call (selected_fn tx A n cp L c w2 (h.ext hE02) hc (fun y hy => (hall y hy).ck) (by omega)) ?_
  rintro _ w4 ⟨O, oc, rfl, hE4, hO4, _⟩
  have hE04 := hE02.trans hE4
  have hmall : ∀ y ∈ selL c L, SegB tx y := fun y hy => hall y (List.mem_filter.1 hy).1
  have hml : (selL c L).length ≤ 65536 := Nat.le_trans (List.length_filter_le _ _) t2
  have hsp : glbP tx L c at_ = glbL tx.length at_ (selL c L) := if_pos ⟨c1, by omega⟩
  rw [hsp]
  generalize hM : selL c L = M at *
  refine loop gx_ok [22, 2] (fun s : Nat × Int => [.int .i64 s.1, .int .i64 s.2]) (fun s w' => Ext w4 w' ∧ s.1 ≤ M.length ∧ 0 ≤ s.2 ∧ s.2 ≤ 9223372036854775807 ∧ glbL tx.length at_ M = glbL tx.length s.2 (M.drop s.1)) (fun s _ => M.length - s.1) (0, at_) rfl ⟨Ext.refl _, Nat.zero_le _, by show 0 ≤ at_; omega, h63, rfl⟩ ?_
  rintro ⟨i, b⟩ w5 ⟨hE5, hle, b0, bt, hrs⟩
  simp only at hle b0 bt hrs
  have hE05 := hE04.trans hE5
  refine wif_d (fun c3 => ?_) (fun c3 => ?_)
  · have hi : i < M.length := by simp only at c3; omega
    refine index_sls sx_len (hO4.ext hE5).sl rfl hi (fun p y hy hcl => ?_)
    have hy : M[i]? = some y := hy
    have hyb := hmall y (List.mem_of_getElem? hy)
    have q1 := hyb.f0
    have q2 := hyb.ft
    have q3 := hyb.tl
    rw [drop_get hy, glbL] at hrs
    refine loadN_at (vs := y.cells) rfl hcl ?_
    refine new (fun w6 hE6 hz6 hB6 => ?_)
    refine storeN_blk0 hB6 rfl (sc rfl) (fun w7 hg7 _ hB7 => ?_)
    have hE57 : Ext w5 w7 := newBox hE6 hB6 hg7
    refine load_blk hB7 rfl ?_
    refine load_blk0 hB7 rfl ?_
    refine norm_i64_to (y.t - y.f) rfl (by omega) ?_
    refine wif_d (fun d1 => ?_) (fun d1 => ?_)
    · rw [if_pos (by omega)] at hrs
      refine norm_i64_to (b - (y.t - y.f)) rfl (by omega) ?_
      refine norm_i64_to ((i + 1 : Nat) : Int) (by show ((i : Nat) : Int) + 1 = _; omega) (by omega) ?_
      exact ⟨(i + 1, b - (y.t - y.f)), rfl, ⟨hE5.trans hE57, hi, by show 0 ≤ b - (y.t - y.f); omega, by show b - (y.t - y.f) ≤ _; omega, hrs⟩, by show M.length - (i + 1) < M.length - i; omega⟩
    · rw [if_neg (by omega)] at hrs
      refine load_blk0 hB7 rfl ?_
      refine norm_i64_to (y.f + b) rfl (by omega) ?_
      exact ⟨by rw [hrs], hE05.trans hE57⟩
  · rw [List.drop_eq_nil_of_le (by simp only at c3; omega), glbL] at hrs
    refine wif_d (fun d1 => ?_) (fun d1 => ?_)
    · exact ⟨by rw [hrs, if_pos d1], hE05⟩
    · rw [if_neg d1] at hrs
      refine load_blk0 (hB1.ext ((hE2.trans hE4).trans hE5)) rfl ?_
      exact ⟨by rw [hrs, hts], hE05⟩

set_option maxHeartbeats 1600000 in
theorem sorigin_fn (tx : List Nat) (A : Option Addr) (n cp : Nat) (L : List Sx) (at_ : Int) (w : World) (h : SX w A n cp L) (h8 : ∀ x ∈ tx, x < 256) :
    Fn Tryz.prog 23 [srcV tx A n cp, .int .i64 at_] w (fun u w' => u = .tuple #[.int .i64 (oriP tx L at_).1, .int .i64 (oriP tx L at_).2.1, .bool (oriP tx L at_).2.2] ∧ Ext w w') := by
  have hlen := h.sl.2
  have hts := strOf_size tx
  refine fn_of_exec (c := { c23 with cuts := [] }) gx_ok Tryz.func23 rfl rfl rfl ?_
  refine new (fun w1 hE1 hz1 hB1 => ?_)
  refine loadN_blk0 hB1 rfl ?_
  refine call (scheck_fn tx A n cp L w1 (h.ext hE1) h8) ?_
  rintro _ w2 ⟨rfl, hE2⟩
  have hE02 := hE1.trans hE2
  refine wif_ne (fun c1 => ?_) (fun c1 => ?_)
  · exact ⟨by unfold oriP; rw [if_neg (fun hh => c1 hh.1)], hE02⟩
  refine wif_d (fun c2 => ?_) (fun c2 => ?_)
  · exact ⟨by unfold oriP; rw [if_neg (fun hh => by omega)], hE02⟩
  refine load_blk0 (hB1.ext hE2) rfl ?_
  refine wif_d (fun c3 => ?_) (fun c3 => ?_)
  · exact ⟨by unfold oriP; rw [if_neg (fun hh => by omega)], hE02⟩
  obtain ⟨t1, t2, t3⟩ := chkS_zero.1 c1
  have hall := chkL_all (Int.le_refl 0) t3
  have hsp : oriP tx L at_ = oriL at_ L := if_pos ⟨c1, by omega, by omega⟩
  rw [hsp]
  refine load_blk (hB1.ext hE2) rfl ?_
  refine loop gx_ok [26] (fun s : Nat => [.int .i64 s]) (fun s w' => Ext w2 w' ∧ s ≤ L.length ∧ oriL at_ L = oriL at_ (L.drop s)) (fun s _ => L.length - s) 0 rfl ⟨Ext.refl _, Nat.zero_le _, rfl⟩ ?_
  rintro i w5 ⟨hE5, hle, hrs⟩
  have hE05 := hE02.trans hE5
  refine wif_d (fun c3 => ?_) (fun c3 => ?_)
  · have hi : i < n := by omega
    refine index_sls sx_len (h.ext hE05).sl rfl hi (fun p y hy hcl => ?_)
    have hyb := hall y (List.mem_of_getElem? hy)
    have q1 := hyb.f0
    have q2 := hyb.ft
    have q3 := hyb.tl
    have q4 := hyb.a0
    have q5 := hyb.a1
    rw [drop_get hy, oriL] at hrs
    refine loadN_at (vs := y.cells) rfl hcl ?_
    refine new (fun w6 hE6 hz6 hB6 => ?_)
    refine storeN_blk0 hB6 rfl (sc rfl) (fun w7 hg7 _ hB7 => ?_)
    have hE57 : Ext w5 w7 := newBox hE6 hB6 hg7
    refine load_blk hB7 rfl ?_
    refine wif_d (fun d1 => ?_) (fun d1 => ?_)
    · rw [if_pos d1] at hrs
      have qB : ∀ w', Ext w7 w' → ∀ (j : Nat) (v : Value), y.cells[j]? = some v → w'.cell? ((⟨w5.heap.size, 0, none⟩ : Addr).add j) = some v := fun w' hw' j v hj => by rw [(hB7.ext hw').cell]; exact hj
      refine draw gx_ok (by kernel_rfl) ?_
      refine qload (v := .int .i64 y.fl) (fun w' hw' => qB w' hw' 2 _ rfl) ?_
      refine qload (v := .int .i64 y.at_) (fun w' hw' => qB w' hw' 3 _ rfl) ?_
      refine norm_i64_to (y.at_ + at_) rfl (by omega) ?_
      refine qload (v := .int .i64 y.f) (fun w' hw' => by have := qB w' hw' 0 _ rfl; simpa [Addr.add] using this) ?_
      refine norm_i64_to (y.at_ + at_ - y.f) rfl (by omega) ?_
      intro w8 hE8
      exact ⟨by rw [hrs], (hE05.trans hE57).trans hE8⟩
    · rw [if_neg d1] at hrs
      refine norm_i64_to ((i + 1 : Nat) : Int) (by show ((i : Nat) : Int) + 1 = _; omega) (by omega) ?_
      exact ⟨i + 1, rfl, ⟨hE5.trans hE57, by omega, hrs⟩, by show L.length - (i + 1) < L.length - i; omega⟩
  · rw [List.drop_eq_nil_of_le (by omega), oriL] at hrs
    exact ⟨by rw [hrs], hE05⟩
end

section
open Go Go.RowKit

/-! ### Keys of two numbers -/
abbrev I2 := Int × Int
abbrev i2K : I2 → Value := fun t => .agg #[.int .i64 t.1, .int .i64 t.2]
theorem i2Eq (a b : I2) (n : Nat) (w : World) : (Op.equalIn (n + 2) 43 (i2K a) (i2K b)).run Tryz.prog w = .ok (decide (a = b)) w := by
  obtain ⟨i, hi⟩ := Option.isSome_iff_exists.1 (show (Tryz.prog.info? 3).isSome = true by kernel_rfl)
  obtain ⟨a0, a1⟩ := a
  obtain ⟨b0, b1⟩ := b
  have e := run_equalIn_array (w := w) (n + 1) #[.int .i64 a0, .int .i64 a1] #[.int .i64 b0, .int .i64 b1] Tryz.underlying43 hi
  rw [ci1, show List.range 2 = [0, 1] from rfl] at e
  refine e.trans ?_
  have p0 : ∀ x y : Int, (part 3 #[Value.int .i64 x, .int .i64 y] (0 * 1)).run Tryz.prog w = .ok (.int .i64 x) w := fun x y => part_one k3 rfl w
  have p1 : ∀ x y : Int, (part 3 #[Value.int .i64 x, .int .i64 y] (1 * 1)).run Tryz.prog w = .ok (.int .i64 y) w := fun x y => part_one k3 rfl w
  have dd : decide ((a0, a1) = (b0, b1)) = (a0 == b0 && a1 == b1) := by
    by_cases h0 : a0 = b0 <;> by_cases h1 : a1 = b1 <;> simp [h0, h1]
  rw [dd]
  simp only [Op.eqItems, Sem.run_bind, p0, Result.andThen_ok, intEq]
  cases h0 : a0 == b0 with
  | false => simp
  | true =>
    simp only [Bool.not_true, Bool.false_eq_true, if_false, Sem.run_bind, p1, Result.andThen_ok, intEq, Bool.true_and]
    cases h1 : a1 == b1 <;> simp
theorem i2Check (b : Bool) (a : I2) (n : Nat) (w : World) : (Instr.checkKey b (n + 2) 43 (i2K a)).run Tryz.prog w = .ok () w := by
  obtain ⟨i, hi⟩ := Option.isSome_iff_exists.1 (show (Tryz.prog.info? 3).isSome = true by kernel_rfl)
  have p0 : ∀ x y : Int, (part 3 #[Value.int .i64 x, .int .i64 y] 0).run Tryz.prog w = .ok (.int .i64 x) w := fun x y => part_one k3 rfl w
  have p1 : ∀ x y : Int, (part 3 #[Value.int .i64 x, .int .i64 y] 1).run Tryz.prog w = .ok (.int .i64 y) w := fun x y => part_one k3 rfl w
  have hz : (sizeOf 3).run Tryz.prog w = .ok 1 w := by rw [← ci1]; exact Go.run_sizeOf w hi
  simp [Instr.checkKey, run_underlying Tryz.underlying43, run_underlying Tryz.underlying3, hz, p0, p1, Std.Legacy.Range.forIn_eq_forIn_range', Std.Legacy.Range.size, List.range'_succ]
theorem i2Key : KeyQ Tryz.prog 43 i2K :=
  KeyQ.askingA Tryz.underlying43 (fun a b w => i2Eq a b 9998 w) (fun b a w => i2Check b a 9998 w) (fun a => by simp [Instr.sameBits])

/-! ### Common configurations -/
def Meets (a : List Br) (x : Int) (b : List Br) (y : Int) : Prop := ∃ e, ev a x e = true ∧ ev b y e = true
theorem ev_some {a : List Br} (h : Rd0 a) {x : Int} (h0 : 0 ≤ x) (h1 : x < a.length + 2) (hx : x ≠ 0) : ∃ e, ev a x e = true := by
  apply Classical.byContradiction
  intro hn
  refine hx (inj h h0 (by decide) h1 (by omega) (fun e => ?_))
  have e1 : ev a 0 e = false := by rw [ev_lt (by decide)]; rfl
  rw [e1]
  cases hc : ev a x e with
  | false => rfl
  | true => exact absurd ⟨e, hc⟩ hn
theorem meets_kids {a b : List Br} (ha : Rd0 a) (hb : Rd0 b) {x y : Int} (x0 : 0 ≤ x) (x1 : x < a.length + 2) (y0 : 0 ≤ y) (y1 : y < b.length + 2) {v : Int} (hv : v = min (lvlD a x) (lvlD b y)) (h64 : v < 64) :
    Meets a x b y ↔ Meets a (sideD a x v).1 b (sideD b y v).1 ∨ Meets a (sideD a x v).2 b (sideD b y v).2 := by
  have l1 : v ≤ lvlD a x := by rw [hv, Int.min_def]; split <;> omega
  have l2 : v ≤ lvlD b y := by rw [hv, Int.min_def]; split <;> omega
  obtain ⟨p1, p2, p3, p4, p5⟩ := side_mean ha x0 x1 l1 h64
  obtain ⟨q1, q2, q3, q4, q5⟩ := side_mean hb y0 y1 l2 h64
  have v0 : 0 ≤ v := by
    have := ha.lvl0 x1
    have := hb.lvl0 y1
    rw [hv, Int.min_def]; split <;> omega
  constructor
  · rintro ⟨e, e1, e2⟩
    rw [p1] at e1
    rw [q1] at e2
    cases he : e v.toNat with
    | true => rw [he, if_pos rfl] at e1 e2; exact .inr ⟨e, e1, e2⟩
    | false => rw [he, if_neg (by decide)] at e1 e2; exact .inl ⟨e, e1, e2⟩
  · rintro (⟨e, e1, e2⟩ | ⟨e, e1, e2⟩)
    · refine ⟨upd e v.toNat false, ?_, ?_⟩
      · rw [p1, show upd e v.toNat false v.toNat = false from if_pos rfl, if_neg (by decide), ev_upd ha v.toNat false e _ _ (Nat.lt_succ_self _) p4 (by omega)]; exact e1
      · rw [q1, show upd e v.toNat false v.toNat = false from if_pos rfl, if_neg (by decide), ev_upd hb v.toNat false e _ _ (Nat.lt_succ_self _) q4 (by omega)]; exact e2
    · refine ⟨upd e v.toNat true, ?_, ?_⟩
      · rw [p1, show upd e v.toNat true v.toNat = true from if_pos rfl, if_pos rfl, ev_upd ha v.toNat true e _ _ (Nat.lt_succ_self _) p5 (by omega)]; exact e1
      · rw [q1, show upd e v.toNat true v.toNat = true from if_pos rfl, if_pos rfl, ev_upd hb v.toNat true e _ _ (Nat.lt_succ_self _) q5 (by omega)]; exact e2

/-! ### meets -/
structure MP where
  D : DV
  E : DV
  bo : Nat
  sx : Nat
  ax : Nat
  bx : Nat
  cx : Nat
  q : Nat
def MP.caps (p : MP) : List Value := [VP.ptr p.bo, VP.ptr p.sx, VP.ptr p.ax, VP.ptr p.bx, VP.ptr p.cx]
def MP.clo (p : MP) : Value := .func (.func 101) #[] #[VP.ptr p.bo, VP.ptr p.sx, VP.ptr p.ax, VP.ptr p.bx, VP.ptr p.cx]
structure MK (w : World) (p : MP) : Prop where
  bob : Blk w p.bo 4 [.bool true]
  sxb : Blk w p.sx 169 [.map (some p.q)]
  axb : Blk w p.ax 42 p.D.cells
  bxb : Blk w p.bx 42 p.E.cells
  cxb : Blk w p.cx 170 [p.clo]
  as_ : SB w p.D.A p.D.n p.D.c p.D.nd
  bs : SB w p.E.A p.E.n p.E.c p.E.nd
  off : p.bo ≠ p.q ∧ p.sx ≠ p.q ∧ p.ax ≠ p.q ∧ p.bx ≠ p.q ∧ p.cx ≠ p.q
  rowA : ∀ ad, p.D.A = some ad → 0 < p.D.n → ad.block ≠ p.q
  rowB : ∀ ad, p.E.A = some ad → 0 < p.E.n → ad.block ≠ p.q
theorem MK.mod {w w' : World} {p : MP} (h : MK w p) (hm : Mod (· = p.q) w w') : MK w' p := by
  obtain ⟨o1, o2, o3, o4, o5⟩ := h.off
  refine ⟨h.bob.mod hm o1, h.sxb.mod hm o2, h.axb.mod hm o3, h.bxb.mod hm o4, h.cxb.mod hm o5, ⟨h.as_.1.modS hm ?_, h.as_.2⟩, ⟨h.bs.1.modS hm ?_, h.bs.2⟩, h.off, h.rowA, h.rowB⟩
  · rintro h0 i ⟨ad, e, rfl⟩
    exact h.rowA ad e h0
  · rintro h0 i ⟨ad, e, rfl⟩
    exact h.rowB ad e h0
theorem MK.ext {w w' : World} {p : MP} (h : MK w p) (k : Ext w w') : MK w' p := h.mod (Mod.of_ext _ k)
/-- The pairs seen. -/
def SeenM (w : World) (q : Nat) (S : List I2) : Prop := ∃ m, MapQ i2K w q m ∧ ∀ t, (assoc t m).getD (.bool false) = .bool (decide (t ∈ S))
def MtC (p : MP) (x y : Int) (S : List I2) (w : World) (v : Value) (w' : World) : Prop :=
  Mod (· = p.q) w w' ∧ ∃ r : Bool, v = .bool r ∧ (r = true → Meets p.D.nd x p.E.nd y) ∧ (r = false → ¬ Meets p.D.nd x p.E.nd y ∧ ∃ S', SeenM w' p.q S' ∧ ∀ t ∈ S', t ∈ S ∨ ¬ Meets p.D.nd t.1 p.E.nd t.2)

set_option maxHeartbeats 1600000 in
theorem meets1_fn (p : MP) (ha : Rd0 p.D.nd) (hb : Rd0 p.E.nd) : ∀ (k : Nat) (x y : Int) (S : List I2) (w : World),
    MK w p → SeenM w p.q S → (∀ t ∈ S, t.1 + t.2 ≤ x + y → ¬ Meets p.D.nd t.1 p.E.nd t.2) → 0 ≤ x → 0 ≤ y → x < p.D.n + 2 → y < p.E.n + 2 → x + y < k →
    Fn Tryz.prog 101 (.int .i64 x :: .int .i64 y :: p.caps) w (MtC p x y S w)
  | 0, x, y, _, _, _, _, _, x0, y0, _, _, hk => by omega
  | k + 1, x, y, S, w, hK, hS, hno, x0, y0, hx, hy, hk => by
    have ih := meets1_fn p ha hb k
    have hal : p.D.nd.length = p.D.n := hK.as_.2
    have hbl : p.E.nd.length = p.E.n := hK.bs.2
    refine fn_of_exec (c := { c101 with cuts := [] }) gx_ok Tryz.func101 rfl rfl rfl ?_
    refine wif_eq (fun c1 => ?_) (fun c1 => ?_)
    · exact ⟨Mod.refl _ _, false, rfl, fun h => (by cases h), fun _ => ⟨(fun ⟨e, e1, _⟩ => by rw [c1, ev_lt (by decide)] at e1; cases e1), S, hS, fun t ht => .inl ht⟩⟩
    refine wif_d (fun c2 => ?_) (fun c2 => ?_)
    · refine load_blk0 hK.bob rfl ?_
      by_cases y1 : y = 1
      · subst y1
        refine wif_f rfl ?_
        refine wif_dt c2 ?_
        refine ⟨Mod.refl _ _, true, rfl, fun _ => ?_, fun h => by cases h⟩
        obtain ⟨e, he⟩ := ev_some ha x0 (by omega) c1
        exact ⟨e, he, by rw [ev_lt (by decide)]; rfl⟩
      · have y00 : y = 0 := by omega
        subst y00
        refine wif_t rfl ?_
        exact ⟨Mod.refl _ _, false, rfl, fun h => (by cases h), fun _ => ⟨(fun ⟨e, _, e1⟩ => by rw [ev_lt (by decide)] at e1; cases e1), S, hS, fun t ht => .inl ht⟩⟩
    refine wif_df c2 ?_
    obtain ⟨mq, hmq, hmem⟩ := hS
    refine load_blk0 hK.sxb rfl ?_
    refine at_lookupQ (kv := i2K) (a := ((x, y) : I2)) gx_ok rfl rfl rfl rfl i2Key rfl rfl hmq (hmem (x, y)) ?_
    refine wif_d (fun c3 => ?_) (fun c3 => ?_)
    · exact ⟨Mod.refl _ _, false, rfl, fun h => (by cases h), fun _ => ⟨hno (x, y) c3 (Int.le_refl _), S, ⟨mq, hmq, hmem⟩, fun t ht => .inl ht⟩⟩
    refine load_blk0 hK.sxb rfl ?_
    refine at_mapUpdateQ (kv := i2K) (a := ((x, y) : I2)) gx_ok rfl rfl rfl rfl i2Key rfl rfl rfl hmq (fun w1 hM1 hz1 hq1 => ?_)
    have hK1 := hK.mod hM1
    have hS1 : SeenM w1 p.q ((x, y) :: S) := ⟨_, hq1, fun t => by
      rw [assoc_set]
      by_cases ht : t = (x, y)
      · subst ht; simp
      · rw [if_neg ht, hmem t]; simp [ht]⟩
    have hv64 : min (lvlD p.D.nd x) (lvlD p.E.nd y) < 64 := by
      have := lvl_lt hb.dok (n := y) c2 (by omega)
      rw [Int.min_def]; split <;> omega
    have hl0 := ha.lvl0 (n := x) (by omega)
    have hl1 := hb.lvl0 (n := y) (by omega)
    refine draw_plan gx_ok (Ext w1) 8 [(true, 0), (true, 1), (true, 3), (true, 4), (false, 2), (false, 5), (true, 6), (true, 7)] (by kernel_rfl) (Ext.drew w1) ?_
    refine qloadN (vs := p.D.cells) rfl (fun w' hw' j v hj => by rw [(hK1.axb.ext hw').cell]; exact hj) ?_
    refine qloadN (vs := p.E.cells) rfl (fun w' hw' j v hj => by rw [(hK1.bxb.ext hw').cell]; exact hj) ?_
    refine call (level_fn p.D.A p.D.n p.D.c p.D.r x p.D.nd _ (hK1.as_.ext (Ext.drew w1)) (by omega)) ?_
    rintro u w2 ⟨rfl, hE2⟩
    have hE12 := (Ext.drew w1).trans hE2
    refine ⟨hE12, ?_⟩
    refine call (level_fn p.E.A p.E.n p.E.c p.E.r y p.E.nd _ (hK1.bs.ext hE12) (by omega)) ?_
    rintro u w3 ⟨rfl, hE3⟩
    have hE13 := hE12.trans hE3
    refine ⟨hE13, ?_⟩
    have hmin : (if lvlD p.E.nd y < lvlD p.D.nd x then lvlD p.E.nd y else lvlD p.D.nd x) = min (lvlD p.D.nd x) (lvlD p.E.nd y) := by
      rw [Int.min_def]; split <;> split <;> omega
    refine norm (m := min (lvlD p.D.nd x) (lvlD p.E.nd y)) hmin ?_
    have hkids := meets_kids ha hb x0 (by omega) y0 (by omega) (rfl : min (lvlD p.D.nd x) (lvlD p.E.nd y) = _) hv64
    have hvx : lvlD p.D.nd x = min (lvlD p.D.nd x) (lvlD p.E.nd y) ∨ lvlD p.E.nd y = min (lvlD p.D.nd x) (lvlD p.E.nd y) := by rw [Int.min_def]; split <;> simp
    generalize hveq : min (lvlD p.D.nd x) (lvlD p.E.nd y) = v at *
    obtain ⟨s1, s2, s3, s4, s5⟩ := sideD_le ha.dok (n := x) x0 hv64
    obtain ⟨t1, t2, t3, t4, t5⟩ := sideD_le hb.dok (n := y) y0 hv64
    have dec : (sideD p.D.nd x v).1 + (sideD p.E.nd y v).1 < x + y ∧ (sideD p.D.nd x v).2 + (sideD p.E.nd y v).2 < x + y := by
      rcases hvx with e | e
      · have := s5 e; omega
      · have := t5 e; omega
    have hK3 := hK1.ext hE13
    refine loadN_blk0 hK3.axb rfl ?_
    refine call (dsides_fn p.D.A p.D.n p.D.c p.D.r x v p.D.nd _ hK3.as_ (by omega) hv64) ?_
    rintro u w4 ⟨rfl, hE4⟩
    have hK4 := hK3.ext hE4
    refine loadN_blk0 hK4.bxb rfl ?_
    refine call (dsides_fn p.E.A p.E.n p.E.c p.E.r y v p.E.nd _ hK4.bs (by omega) hv64) ?_
    rintro u w5 ⟨rfl, hE5⟩
    have hK5 := hK4.ext hE5
    have hE15 := (hE13.trans hE4).trans hE5
    have hM5 : Mod (· = p.q) w w5 := hM1.trans (Mod.of_ext (· = p.q) hE15) (fun i hi => .inl hi)
    have hS5 : SeenM w5 p.q ((x, y) :: S) := let ⟨m, k1, k2⟩ := hS1; ⟨m, k1.ext hE15, k2⟩
    refine load_blk0 hK5.cxb rfl ?_
    refine call (ih (sideD p.D.nd x v).1 (sideD p.E.nd y v).1 ((x, y) :: S) w5 hK5 hS5 (fun t ht hle => by
      rcases List.mem_cons.1 ht with rfl | ht
      · exact absurd hle (by simp only; omega)
      · exact hno t ht (by omega)) s1 t1 (by omega) (by omega) (by omega)) ?_
    rintro _ w6 ⟨hM6, r0, rfl, ht0, hf0⟩
    have hM06 : Mod (· = p.q) w w6 := hM5.trans hM6 (fun i hi => .inl hi)
    cases r0 with
    | true =>
      refine wif_t rfl ?_
      exact ⟨hM06, true, rfl, fun _ => hkids.2 (.inl (ht0 rfl)), fun h => by cases h⟩
    | false =>
      obtain ⟨n0, S6, hS6, hin6⟩ := hf0 rfl
      refine wif_f rfl ?_
      have hK6 := hK5.mod hM6
      refine load_blk0 hK6.cxb rfl ?_
      refine call (ih (sideD p.D.nd x v).2 (sideD p.E.nd y v).2 S6 w6 hK6 hS6 (fun t ht hle => by
        rcases hin6 t ht with ht | ht
        · rcases List.mem_cons.1 ht with rfl | ht
          · exact absurd hle (by simp only; omega)
          · exact hno t ht (by omega)
        · exact ht) s3 t3 (by omega) (by omega) (by omega)) ?_
      rintro _ w7 ⟨hM7, r1, rfl, ht1, hf1⟩
      have hM07 : Mod (· = p.q) w w7 := hM06.trans hM7 (fun i hi => .inl hi)
      refine ⟨hM07, r1, rfl, fun h => hkids.2 (.inr (ht1 h)), fun h => ?_⟩
      obtain ⟨n1, S7, hS7, hin7⟩ := hf1 h
      have nn : ¬ Meets p.D.nd x p.E.nd y := fun hh => (hkids.1 hh).elim n0 n1
      refine ⟨nn, S7, hS7, fun t ht => ?_⟩
      rcases hin7 t ht with ht | ht
      · rcases hin6 t ht with ht | ht
        · rcases List.mem_cons.1 ht with rfl | ht
          · exact .inr nn
          · exact .inl ht
        · exact .inr ht
      · exact .inr ht

theorem meets_fn (A : Option Addr) (n c : Nat) (a : List Br) (ra : Int) (B : Option Addr) (m d : Nat) (b : List Br) (rb : Int) (w : World) (h : SB w A n c a) (h' : SB w B m d b) (ha : VD a ra) (hb : VD b rb) :
    Fn Tryz.prog 63 [dgV A n c ra, dgV B m d rb, .bool true] w (fun u w' => ∃ r : Bool, u = .bool r ∧ Ext w w' ∧ (r = true ↔ Meets a ra b rb)) := by
  have hal := h.2
  have hbl := h'.2
  refine fn_of_exec (c := { c63 with cuts := [] }) gx_ok Tryz.func63 rfl rfl rfl ?_
  refine new (fun w1 hE1 hz1 hB1 => ?_)
  refine new (fun w2 hE2 hz2 hB2 => ?_)
  refine new (fun w3 hE3 hz3 hB3 => ?_)
  have hE03 := (hE1.trans hE2).trans hE3
  refine at_makeMapQ gx_ok i2K rfl ?_
  intro w4 hE4 hz4 hq4
  refine new (fun w5 hE5 hz5 hB5 => ?_)
  refine store_mod0 hB5 (by decide) (fun w6 hM6 hB6 => ?_)
  have hE46 : Ext w4 w6 := hM6.ext hE5 (fun i hi => by omega)
  refine new (fun w7 hE7 hz7 hB7 => ?_)
  refine store_mod0 hB7 (by decide) (fun w8 hM8 hB8 => ?_)
  have hE68 : Ext w6 w8 := hM8.ext hE7 (fun i hi => by omega)
  have hE48 := hE46.trans hE68
  have hE38 := hE4.trans hE48
  have hE08 := hE03.trans hE38
  have z6 := hE46.size
  let p : MP := ⟨⟨A, n, c, a, ra⟩, ⟨B, m, d, b, rb⟩, w2.heap.size, w4.heap.size, w.heap.size, w1.heap.size, w6.heap.size, w3.heap.size⟩
  have hK : MK w8 p := by
    refine ⟨hB3.ext hE38, hB6.ext hE68, hB1.ext ((hE2.trans hE3).trans hE38), hB2.ext (hE3.trans hE38), hB8, h.ext hE08, h'.ext hE08, ?_, fun ad e h0 => ?_, fun ad e h0 => ?_⟩
    · simp only [p]; omega
    · have := SB.lt h ad e h0
      simp only [p]; omega
    · have := SB.lt h' ad e h0
      simp only [p]; omega
  refine load_blk0 hK.cxb rfl ?_
  refine load_blk hK.axb rfl ?_
  refine load_blk hK.bxb rfl ?_
  refine call (meets1_fn p ha.rd0 hb.rd0 (ra.toNat + rb.toNat + 1) ra rb [] w8 hK ⟨[], hq4.ext hE48, fun t => rfl⟩ (fun t ht => by cases ht) ha.2.1 hb.2.1 (by have := ha.2.2.1; simp only [p]; omega) (by have := hb.2.2.1; simp only [p]; omega) (by have := ha.2.1; have := hb.2.1; omega)) ?_
  rintro _ w9 ⟨hM9, r, rfl, h1, h2⟩
  refine ⟨r, rfl, hM9.ext hE08 (fun i hi => by simp only [p] at hi; have := hE03.size; omega), ⟨h1, fun hh => ?_⟩⟩
  cases r with
  | true => rfl
  | false => exact absurd hh (h2 rfl).1

open Classical in
/-- What Disjoint answers. -/
noncomputable def disP (a : List Br) (ra : Int) (b : List Br) (rb : Int) : Bool := decide (chkD a ra = 0 ∧ chkD b rb = 0 ∧ ¬ Meets a ra b rb)
open Classical in
theorem disP_iff {a : List Br} {ra : Int} {b : List Br} {rb : Int} : disP a ra b rb = true ↔ chkD a ra = 0 ∧ chkD b rb = 0 ∧ ¬ Meets a ra b rb := by unfold disP; exact decide_eq_true_iff
theorem disP_t {a : List Br} {ra : Int} {b : List Br} {rb : Int} (h : chkD a ra = 0 ∧ chkD b rb = 0 ∧ ¬ Meets a ra b rb) : disP a ra b rb = true := disP_iff.2 h
theorem disP_f {a : List Br} {ra : Int} {b : List Br} {rb : Int} (h : ¬ (chkD a ra = 0 ∧ chkD b rb = 0 ∧ ¬ Meets a ra b rb)) : disP a ra b rb = false := by
  cases hh : disP a ra b rb with
  | false => rfl
  | true => exact absurd (disP_iff.1 hh) h
theorem disjoint_fn (A : Option Addr) (n c : Nat) (a : List Br) (ra : Int) (B : Option Addr) (m d : Nat) (b : List Br) (rb : Int) (w : World) (h : SB w A n c a) (h' : SB w B m d b) :
    Fn Tryz.prog 35 [dgV A n c ra, dgV B m d rb] w (fun u w' => u = .bool (disP a ra b rb) ∧ Ext w w') := by
  refine fn_of_exec (c := { c35 with cuts := [] }) gx_ok Tryz.func35 rfl rfl rfl ?_
  refine new (fun w1 hE1 hz1 hB1 => ?_)
  refine new (fun w2 hE2 hz2 hB2 => ?_)
  have hE02 := hE1.trans hE2
  refine loadN_blk0 (hB1.ext hE2) rfl ?_
  refine loadN_blk0 hB2 rfl ?_
  refine at_buildN gx_ok [(⟨A, n, c, a, ra⟩ : DV).cells, (⟨B, m, d, b, rb⟩ : DV).cells] rfl rfl rfl rfl rfl ⟨rfl, rfl, rfl, rfl, ⟨⟩⟩ rfl (fun cs h => by simp only [List.mem_cons, List.not_mem_nil, or_false] at h; rcases h with rfl | rfl <;> rfl) rfl (by decide) (by decide) ?_
  intro w5 hE5 hz5 hB5
  have hE05 := hE02.trans hE5
  have hL : SlS DV.cells 2 w5 (some ⟨w2.heap.size, 0, none⟩) 2 2 [⟨A, n, c, a, ra⟩, ⟨B, m, d, b, rb⟩] := ⟨Sl.own (sz := 2) (n := 2) hB5 (Nat.le_refl _) (by decide) (by simp [DV.cells]), rfl⟩
  refine call (dcheck_fn _ 2 2 _ w5 hL (fun x hx => by
    simp only [List.mem_cons, List.not_mem_nil, or_false] at hx
    rcases hx with rfl | rfl
    · exact h.ext hE05
    · exact h'.ext hE05)) ?_
  rintro v w6 ⟨rfl, hE6⟩
  have hE06 := hE05.trans hE6
  have ef : firstD [(⟨A, n, c, a, ra⟩ : DV), ⟨B, m, d, b, rb⟩] = if chkD a ra ≠ 0 then chkD a ra else if chkD b rb ≠ 0 then chkD b rb else 0 := rfl
  have hf0 : firstD [(⟨A, n, c, a, ra⟩ : DV), ⟨B, m, d, b, rb⟩] = 0 ↔ chkD a ra = 0 ∧ chkD b rb = 0 := by
    rw [ef]
    by_cases h1 : chkD a ra = 0
    · rw [if_neg (fun hh => hh h1)]
      by_cases h2 : chkD b rb = 0
      · rw [if_neg (fun hh => hh h2)]; simp [h1, h2]
      · rw [if_pos h2]; simp [h2]
    · rw [if_pos h1]; simp [h1]
  refine wif_eq (fun c1 => ?_) (fun c1 => ?_)
  · obtain ⟨ca, cb⟩ := hf0.1 c1
    refine loadN_blk0 ((hB1.ext hE2).ext (hE5.trans hE6)) rfl ?_
    refine loadN_blk0 (hB2.ext (hE5.trans hE6)) rfl ?_
    refine call (meets_fn A n c a ra B m d b rb w6 (h.ext hE06) (h'.ext hE06) (chkD_zero.1 ca).2 (chkD_zero.1 cb).2) ?_
    rintro _ w7 ⟨r, rfl, hE7, hr⟩
    refine ⟨?_, hE06.trans hE7⟩
    cases r with
    | true => rw [disP_f (fun hh => hh.2.2 (hr.1 rfl))]; rfl
    | false => rw [disP_t ⟨ca, cb, fun hh => by have := hr.2 hh; cases this⟩]; rfl
  · exact ⟨by rw [disP_f (fun hh => c1 (hf0.2 ⟨hh.1, hh.2.1⟩))], hE06⟩

/-! ### Dead -/
def ixV (l : List Nat) : List Value := l.map (fun (i : Nat) => Value.int .i64 i)
noncomputable def deadL (b : List Br) (rb : Int) : Nat → List Sx → List Nat
  | _, [] => []
  | i, y :: L => if disP y.x.nd y.x.r b rb then i :: deadL b rb (i + 1) L else deadL b rb (i + 1) L
noncomputable def deadP (tx : List Nat) (L : List Sx) (b : List Br) (rb : Int) : List Nat × Int :=
  if chkS tx L ≠ 0 then ([], chkS tx L) else if chkD b rb ≠ 0 then ([], 20) else (deadL b rb 0 L, 0)
structure DeadI (w0 : World) (base : Nat) (b : List Br) (rb : Int) (L : List Sx) (i : Nat) (O : Option Addr) (oc : Nat) (l : List Nat) (w : World) : Prop where
  e : Ext w0 w
  le : i ≤ L.length
  ln : l.length ≤ i
  own : Own w base 3 1 O l.length oc (ixV l)
  rs : deadL b rb 0 L = l ++ deadL b rb i (L.drop i)

set_option maxHeartbeats 1600000 in
theorem sdead_fn (tx : List Nat) (A : Option Addr) (n cp : Nat) (L : List Sx) (B : Option Addr) (m d : Nat) (b : List Br) (rb : Int) (w : World) (h : SX w A n cp L) (h' : SB w B m d b) (h8 : ∀ x ∈ tx, x < 256) :
    Fn Tryz.prog 25 [srcV tx A n cp, dgV B m d rb] w (fun u w' => ∃ O oc, u = .tuple #[.slice O (deadP tx L b rb).1.length oc, .int .i64 (deadP tx L b rb).2] ∧ Ext w w' ∧ Sl w' 1 O (deadP tx L b rb).1.length oc (ixV (deadP tx L b rb).1)) := by
  have hlen := h.sl.2
  refine fn_of_exec (c := { c25 with cuts := [] }) gx_ok Tryz.func25 rfl rfl rfl ?_
  refine new (fun w1 hE1 hz1 hB1 => ?_)
  refine new (fun w2 hE2 hz2 hB2 => ?_)
  have hE02 := hE1.trans hE2
  refine loadN_blk0 (hB1.ext hE2) rfl ?_
  refine call (scheck_fn tx A n cp L w2 (h.ext hE02) h8) ?_
  rintro _ w3 ⟨rfl, hE3⟩
  have hE03 := hE02.trans hE3
  refine wif_ne (fun c1 => ?_) (fun c1 => ?_)
  · have e : deadP tx L b rb = ([], chkS tx L) := if_pos c1
    rw [e]
    exact ⟨none, 0, rfl, hE03, (Own.nil w3 0 0 1).sl⟩
  refine loadN_blk0 (hB2.ext hE3) rfl ?_
  refine call (check2_fn B m d b rb w3 (h'.ext hE03)) ?_
  rintro _ w4 ⟨rfl, hE4⟩
  have hE04 := hE03.trans hE4
  refine wif_ne (fun c2 => ?_) (fun c2 => ?_)
  · have e : deadP tx L b rb = ([], 20) := by unfold deadP; rw [if_neg (fun hh => hh c1), if_pos c2]
    rw [e]
    exact ⟨none, 0, rfl, hE04, (Own.nil w4 0 0 1).sl⟩
  have e : deadP tx L b rb = (deadL b rb 0 L, 0) := by unfold deadP; rw [if_neg (fun hh => hh c1), if_neg (fun hh => hh c2)]
  rw [e]
  obtain ⟨t1, t2, t3⟩ := chkS_zero.1 c1
  have hE24 := hE3.trans hE4
  refine load_blk ((hB1.ext hE2).ext hE24) rfl ?_
  refine loop gx_ok [21, 7] (fun s : Nat × Option Addr × Nat × List Nat => [.int .i64 s.1, .slice s.2.1 s.2.2.2.length s.2.2.1]) (fun s w' => DeadI w4 w4.heap.size b rb L s.1 s.2.1 s.2.2.1 s.2.2.2 w') (fun s _ => L.length - s.1) (0, none, 0, []) rfl ⟨Ext.refl _, Nat.zero_le _, Nat.le_refl _, Own.nil _ _ _ _, rfl⟩ ?_
  rintro ⟨i, O, oc, l⟩ w5 hI
  have hE05 := hE04.trans hI.e
  have ho := hI.own
  have hle := hI.le
  have hln := hI.ln
  have hrs := hI.rs
  simp only at ho hle hln hrs
  refine wif_d (fun c3 => ?_) (fun c3 => ?_)
  · have hi : i < n := by simp only at c3; omega
    refine index_sls sx_len (h.ext hE05).sl rfl hi (fun p y hy hcl => ?_)
    have hy : L[i]? = some y := hy
    have hym := List.mem_of_getElem? hy
    rw [drop_get hy, deadL] at hrs
    refine loadN_at (vs := y.cells) rfl hcl ?_
    refine new (fun w6 hE6 hz6 hB6 => ?_)
    refine storeN_blk0 hB6 rfl (sc rfl) (fun w7 hg7 _ hB7 => ?_)
    have hE57 : Ext w5 w7 := newBox hE6 hB6 hg7
    have hE07 := hE05.trans hE57
    refine loadN_at (vs := [.slice y.x.A y.x.n y.x.c, .int .i64 y.x.r]) rfl (fun j v hj => by rw [Addr.add_add]; exact (hB7.cell _).trans (by match j, hj with | 0, hj => exact hj | 1, hj => exact hj)) ?_
    refine loadN_blk0 (hB2.ext (hE24.trans (hI.e.trans hE57))) rfl ?_
    refine call (disjoint_fn y.x.A y.x.n y.x.c y.x.nd y.x.r B m d b rb w7 ((h.dg y hym).ext hE07) (h'.ext hE07)) ?_
    rintro _ w8 ⟨rfl, hE8⟩
    have hE58 := hE57.trans hE8
    refine wif (fun d1 => ?_) (fun d1 => ?_)
    · rw [if_pos d1] at hrs
      refine at_buildN gx_ok [[Value.int .i64 ((i : Nat) : Int)]] rfl rfl rfl rfl rfl ⟨rfl, rfl, ⟨⟩⟩ rfl (fun cs hh => by simp only [List.mem_singleton] at hh; subst hh; rfl) rfl (by decide) (by decide) ?_
      intro w9 hE9 hz9 hB9
      have hE59 := hE58.trans hE9
      have hs9 : Sl w9 1 (some ⟨w8.heap.size, 0, none⟩) 1 1 [Value.int .i64 ((i : Nat) : Int)] := Sl.own (sz := 1) (n := 1) hB9 (Nat.le_refl _) (by decide) (by simp)
      refine at_app (n := l.length) gx_ok rfl rfl rfl rfl rfl (by decide) rfl rfl ⟨_, rfl⟩ rfl rfl (ho.ext hE59) hs9 (by simp [scalar]) (by unfold maxLen; omega) (by show (l.length + 1) * 8 ≤ _; omega) (by have := hI.e.size; have := hE59.size; omega) ?_
      intro A' c' w10 hm10 hown10 hmv10
      refine norm_i64_to ((i + 1 : Nat) : Int) (by show ((i : Nat) : Int) + 1 = _; omega) (by omega) ?_
      refine ⟨(i + 1, A', c', l ++ [i]), by simp only [List.length_append]; rfl, ⟨hm10.ext (hI.e.trans hE59) (fun k hk => (ho.rows k hk).1), by show i + 1 ≤ L.length; omega, by simp; omega, ?_, ?_⟩, by show L.length - (i + 1) < L.length - i; omega⟩
      · simp only
        have e2 : ixV (l ++ [i]) = ixV l ++ [Value.int .i64 ((i : Nat) : Int)] := by simp [ixV]
        rw [e2, List.length_append]
        exact hown10
      · simp only
        rw [hrs]; simp
    · rw [if_neg (by rw [d1]; decide)] at hrs
      refine norm_i64_to ((i + 1 : Nat) : Int) (by show ((i : Nat) : Int) + 1 = _; omega) (by omega) ?_
      exact ⟨(i + 1, O, oc, l), rfl, ⟨hI.e.trans hE58, by show i + 1 ≤ L.length; omega, by show l.length ≤ i + 1; omega, ho.ext hE58, hrs⟩, by show L.length - (i + 1) < L.length - i; omega⟩
  · rw [List.drop_eq_nil_of_le (by simp only at c3; omega), deadL, List.append_nil] at hrs
    rw [hrs]
    exact ⟨O, oc, rfl, hE05, ho.sl⟩
end
end
end Go.Proofs.YtedopgkbajhanaaGreatDoor

namespace Go.Proofs.YtedopgkbajhanaaGreatDoor
section
section
open Go Go.RowKit

/-! ### Segments that follow one another -/
def ChG : Nat → List Sg → Nat → Prop
  | a, [], b => a = b
  | a, s :: l, b => s.f = a ∧ ChG s.t l b
theorem ChG.snoc {x : Sg} : ∀ {l : List Sg} {a b : Nat}, ChG a (l ++ [x]) b ↔ ChG a l x.f ∧ x.t = b
  | [], a, b => by simp only [List.nil_append, ChG]; exact ⟨fun h => ⟨h.1.symm, h.2⟩, fun h => ⟨h.1.symm, h.2⟩⟩
  | s :: l, a, b => by
    simp only [List.cons_append, ChG]
    rw [ChG.snoc (l := l)]
    exact ⟨fun h => ⟨⟨h.1, h.2.1⟩, h.2.2⟩, fun h => ⟨h.1.1, h.1.2, h.2⟩⟩
/-- A segment is a run of whole lines of a file. -/
structure SgOk (fs : List (List Nat × List Nat)) (tx : List Nat) (s : Sg) : Prop where
  ft : s.f < s.t
  tl : s.t ≤ tx.length
  nl : tx[s.t - 1]? = some 10
  src : ∃ x, fs[s.fl]? = some x ∧ s.at_ + (s.t - s.f) ≤ x.2.length ∧ (x.2.drop s.at_).take (s.t - s.f) = (tx.take s.t).drop s.f
theorem SgOk.app {fs : List (List Nat × List Nat)} {tx : List Nat} {s : Sg} (h : SgOk fs tx s) (l : List Nat) : SgOk fs (tx ++ l) s := by
  obtain ⟨h1, h2, h3, x, h4, h5, h6⟩ := h
  refine ⟨h1, by rw [List.length_append]; omega, by rw [List.getElem?_append_left (by omega)]; exact h3, x, h4, h5, ?_⟩
  rw [List.take_append_of_le_length h2]; exact h6
structure GInv (fs : List (List Nat × List Nat)) (g : Gs) : Prop where
  ch : ChG 0 g.sg g.tx.length
  ok : ∀ s ∈ g.sg, SgOk fs g.tx s
theorem GInv.fr {fs : List (List Nat × List Nat)} {g : Gs} (h : GInv fs g) (b : Bool) : GInv fs { g with fr := b } := ⟨h.ch, h.ok⟩
/-- The open segment ends where the reading is. -/
def CurG (n p : Nat) (k : BF) (g : Gs) : Prop := g.fr = false → ∃ l x, g.sg = l ++ [x] ∧ x.fl = n ∧ x.at_ + (x.t - x.f) = p ∧ x.o = k
theorem add_inv {fs : List (List Nat × List Nat)} {n p : Nat} {k : BF} {g g' : Gs} {s : List Nat} (h : GInv fs g) (hc : CurG n p k g) {x : List Nat × List Nat} (hx : fs[n]? = some x) (hs : x.2.drop p = s ++ x.2.drop (p + s.length)) (hp : p + s.length ≤ x.2.length) (hl : s.getLast? = some 10)
    (ha : addG s n p k g = some g') : GInv fs g' ∧ CurG n (p + s.length) k g' := by
  unfold addG at ha
  split at ha
  · cases ha
  cases ha
  have hs0 : 0 < s.length := by
    cases s with
    | nil => cases hl
    | cons _ _ => simp
  have hnl : (g.tx ++ s)[g.tx.length + s.length - 1]? = some 10 := by
    rw [List.getElem?_append_right (by omega), show g.tx.length + s.length - 1 - g.tx.length = s.length - 1 by omega, ← List.getLast?_eq_getElem?]; exact hl
  cases hf : g.fr with
  | true =>
    rw [if_pos rfl, setTo_snoc]
    refine ⟨⟨?_, fun y hy => ?_⟩, fun _ => ⟨_, _, rfl, rfl, ?_, rfl⟩⟩
    · simp only
      rw [ChG.snoc]
      exact ⟨h.ch, by simp⟩
    · simp only [List.mem_append, List.mem_singleton] at hy
      rcases hy with hy | rfl
      · exact (h.ok y hy).app s
      · refine ⟨by simp only; omega, by simp, hnl, x, hx, by simp only; omega, ?_⟩
        simp only
        rw [show g.tx.length + s.length - g.tx.length = s.length by omega, hs, List.take_left, List.take_of_length_le (by simp), List.drop_left]
    · simp only; omega
  | false =>
    rw [if_neg (by decide)]
    obtain ⟨l, y, e, e1, e2, e3⟩ := hc hf
    have hch := h.ch
    have hok := h.ok
    rw [e] at hch hok
    rw [ChG.snoc] at hch
    obtain ⟨q1, q2, q3, z, q4, q5, q6⟩ := hok y (by simp)
    rw [e, setTo_snoc]
    have hz : z = x := by rw [e1, hx] at q4; exact (Option.some.inj q4).symm
    subst hz
    refine ⟨⟨?_, fun u hu => ?_⟩, fun _ => ⟨_, _, rfl, e1, ?_, e3⟩⟩
    · simp only
      rw [ChG.snoc]
      exact ⟨hch.1, by simp⟩
    · simp only [List.mem_append, List.mem_singleton] at hu
      rcases hu with hu | rfl
      · exact (hok u (by simp [hu])).app s
      · refine ⟨by simp only; omega, by simp, hnl, z, q4, by simp only; omega, ?_⟩
        simp only
        rw [show g.tx.length + s.length - y.f = (y.t - y.f) + s.length by omega, List.take_of_length_le (l := g.tx ++ s) (by simp), List.drop_append_of_le_length (by omega)]
        rw [List.take_add, List.drop_drop, e2, hs, List.take_left, q6, hch.2, List.take_length]
    · simp only; omega

theorem rdL_inv {nm : List (List Nat)} {fs : List (List Nat × List Nat)} {n d0 : Nat} {inc : IncF} {x : List Nat × List Nat} (hx : fs[n]? = some x)
    (hi : ∀ r ln d k g g', inc r ln d k g = .ok g' → GInv fs g → GInv fs g') : ∀ (ls : List (List Nat)) (ln at_ : Nat) (k : BF) (op : List Se) (g g' : Gs),
    x.2.drop at_ = unl ls → at_ ≤ x.2.length → GInv fs g → CurG n at_ k g → rdL nm n d0 inc ls ln at_ k op g = .ok g' → GInv fs g' ∧ g'.fr = true
  | [], ln, at_, k, op, g, g', _, _, hg, _, hr => by
    cases op with
    | nil => simp only [rdL, Except.ok.injEq] at hr; subst hr; exact ⟨hg.fr true, rfl⟩
    | cons _ _ => simp [rdL] at hr
  | s :: ls, ln, at_, k, op, g, g', hd, hat, hg, hc, hr => by
    have hl1 : x.2.drop at_ = (s ++ [10]) ++ unl ls := by rw [hd, unl_cons]; simp
    have hL : (s ++ [10]).length = s.length + 1 := by simp
    have hlen : x.2.length - at_ = s.length + 1 + (unl ls).length := by
      have := congrArg List.length hl1
      simp only [List.length_drop, List.length_append, List.length_cons, List.length_nil] at this
      omega
    have hd2 : x.2.drop (at_ + s.length + 1) = unl ls := by
      rw [show at_ + s.length + 1 = at_ + (s ++ [10]).length by simp; omega, ← List.drop_drop, hl1, List.drop_left]
    have ih := fun k op g g' h1 h2 h3 => rdL_inv (nm := nm) (d0 := d0) hx hi ls (ln + 1) (at_ + s.length + 1) k op g g' hd2 (by omega) h1 h2 h3
    have cf : ∀ k' (g : Gs), CurG n (at_ + s.length + 1) k' { g with fr := true } := fun k' g h => by cases h
    rw [rdL.eq_def] at hr; simp only at hr
    cases hdir : dirOf s with
    | txt =>
      rw [hdir] at hr
      simp only at hr
      cases ha : addG (s ++ [10]) n at_ k g with
      | none => rw [ha] at hr; cases hr
      | some g1 =>
        rw [ha] at hr
        simp only at hr
        obtain ⟨i1, i2⟩ := add_inv hg hc hx (by rw [hL, ← Nat.add_assoc, hd2]; exact hl1) (by rw [hL]; omega) (by simp) ha
        exact ih k op g1 g' i1 (by rw [hL, ← Nat.add_assoc] at i2; exact i2) hr
    | ifd r =>
      rw [hdir] at hr
      simp only at hr
      cases hs : setE nm r with
      | error e => rw [hs] at hr; cases hr
      | ok d =>
        rw [hs] at hr
        simp only at hr
        split at hr
        · cases hr
        · exact ih _ _ _ _ (hg.fr true) (cf _ _) hr
    | inc r =>
      rw [hdir] at hr
      simp only at hr
      cases hs : inc r (ln + 1) (d0 + op.length) k g with
      | error e => rw [hs] at hr; cases hr
      | ok g1 =>
        rw [hs] at hr
        exact ih _ _ _ _ ((hi _ _ _ _ _ _ hs hg).fr true) (cf _ _) hr
    | elif r =>
      rw [hdir] at hr
      cases op with
      | nil => cases hr
      | cons y op =>
        simp only at hr
        split at hr
        · cases hr
        · cases hs : setE nm r with
          | error e => rw [hs] at hr; cases hr
          | ok d => rw [hs] at hr; exact ih _ _ _ _ (hg.fr true) (cf _ _) hr
    | els =>
      rw [hdir] at hr
      cases op with
      | nil => cases hr
      | cons y op =>
        simp only at hr
        split at hr
        · cases hr
        · exact ih _ _ _ _ (hg.fr true) (cf _ _) hr
    | en =>
      rw [hdir] at hr
      cases op with
      | nil => cases hr
      | cons y op => exact ih _ _ _ _ (hg.fr true) (cf _ _) hr
theorem rdF_inv {nm : List (List Nat)} {fs : List (List Nat × List Nat)} (hf : ∀ x ∈ fs, TextOk x.2) : ∀ (f : Nat) (rd : List Nat) (d n : Nat) (k : BF) (g g' : Gs), n < fs.length → GInv fs g → rdF nm fs f rd d n k g = .ok g' → GInv fs g' ∧ g'.fr = true
  | 0, _, _, _, _, _, _, _, _, hr => by cases hr
  | f + 1, rd, d, n, k, g, g', hn, hg, hr => by
    have hx : fs[n]? = some fs[n] := List.getElem?_eq_getElem hn
    rw [rdF, hx] at hr
    simp only [Option.map_some, Option.getD_some] at hr
    refine rdL_inv hx ?_ (linesOf fs[n].2) 0 0 k [] { g with fr := true } g' (by rw [List.drop_zero, unl_linesOf (hf _ (List.getElem_mem hn))]) (Nat.zero_le _) (hg.fr true) (fun h => by cases h) hr
    intro r ln d' k' g1 g2 hi hg1
    cases he : incE (ixN (fs.map (·.1))) (n :: rd) r with
    | error e => rw [he] at hi; cases hi
    | ok m =>
      rw [he] at hi
      simp only at hi
      split at hi
      · cases hi
      · have hm : m < fs.length := by
          obtain ⟨_, tn, htn⟩ := incE_ok he
          have := ixN_lt htn
          simpa using this
        exact (rdF_inv hf f _ _ m _ g1 g2 hm hg1 hi).1
theorem readE_inv {nm : List (List Nat)} {fs : List (List Nat × List Nat)} {root : List Nat} {g : Gs} (hr : readE nm fs root = .ok g) : GInv fs g ∧ fs.length ≤ 256 ∧ ∀ x ∈ fs, x.2.length ≤ 1048576 := by
  unfold readE at hr
  split at hr
  · cases hr
  cases hfe : filesE fs with
  | some p => rw [hfe] at hr; cases hr
  | none =>
    rw [hfe] at hr
    simp only at hr
    have h256 : fs.length ≤ 256 := by
      unfold filesE at hfe
      split at hfe
      · cases hfe
      · omega
    have hall : ∀ x ∈ fs, fnameOk x.1 = true ∧ textB x.2 = true ∧ x.2.length ≤ 1048576 := by
      unfold filesE at hfe
      rw [if_neg (by omega)] at hfe
      exact chkFs_ok fs [] 0 hfe
    cases hix : ixN (fs.map (·.1)) root with
    | none => rw [hix] at hr; cases hr
    | some n =>
      rw [hix] at hr
      simp only at hr
      have hn : n < fs.length := by have := ixN_lt hix; simpa using this
      exact ⟨(rdF_inv (fun x hx => textB_ok (hall x hx).2.1) 65 [] 0 n _ _ g hn (⟨rfl, fun s hs => by cases hs⟩ : GInv fs ⟨[], [], false⟩) hr).1, h256, fun x hx => (hall x hx).2.2⟩
end

section
open Go Go.RowKit

/-! ### What was read, as segments -/
def mkX (s : Sg) (x : DV) : Sx := ⟨s.f, s.t, s.fl, s.at_, x⟩
def toX (s : Sg) : Sx := ⟨s.f, s.t, s.fl, s.at_, ⟨none, 0, 0, [], 0⟩⟩
def AllS (k : Nat) : List Sg → List Sx → Prop
  | [], [] => True
  | s :: l, y :: m => (y.f = s.f ∧ y.t = s.t ∧ y.fl = s.fl ∧ y.at_ = s.at_ ∧ Set1 k y.x.nd y.x.r s.o) ∧ AllS k l m
  | _, _ => False
theorem AllS.len {k : Nat} : ∀ {l : List Sg} {m : List Sx}, AllS k l m → l.length = m.length
  | [], [], _ => rfl
  | _ :: _, _ :: _, h => by simp [AllS.len h.2]
theorem AllS.get {k : Nat} : ∀ {l : List Sg} {m : List Sx} {i : Nat} {s : Sg} {y : Sx}, AllS k l m → l[i]? = some s → m[i]? = some y → y.f = s.f ∧ y.t = s.t ∧ y.fl = s.fl ∧ y.at_ = s.at_ ∧ Set1 k y.x.nd y.x.r s.o
  | _ :: _, _ :: _, 0, _, _, h, h1, h2 => by cases h1; cases h2; exact h.1
  | _ :: _, _ :: _, i + 1, _, _, h, h1, h2 => AllS.get (i := i) h.2 (by simpa using h1) (by simpa using h2)
theorem src_in {w : World} {k : Nat} {A : Option Addr} {n c : Nat} {sg : List Sg} {L : List DV} (h : SgIn w k A n c sg L) : ∃ M, SX w A n c M ∧ AllS k sg M := by
  have key : ∀ (sg : List Sg) (L : List DV), L.length = sg.length → (∀ (j : Nat) (s : Sg) (x : DV), sg[j]? = some s → L[j]? = some x → SB w x.A x.n x.c x.nd ∧ Set1 k x.nd x.r s.o) →
      ∃ M : List Sx, M.flatMap Sx.cells = sgV sg L ∧ M.length = sg.length ∧ (∀ y ∈ M, SB w y.x.A y.x.n y.x.c y.x.nd) ∧ AllS k sg M := by
    intro sg
    induction sg with
    | nil =>
      intro L hl _
      have : L = [] := List.eq_nil_of_length_eq_zero hl
      subst this
      exact ⟨[], rfl, rfl, (fun y hy => by cases hy), ⟨⟩⟩
    | cons s sg ih =>
      intro L hl hd
      cases L with
      | nil => cases hl
      | cons x L =>
        obtain ⟨M, h1, h2, h3, h4⟩ := ih L (by simpa using hl) (fun j s x h1 h2 => hd (j + 1) s x (by simpa using h1) (by simpa using h2))
        obtain ⟨d1, d2⟩ := hd 0 s x rfl rfl
        refine ⟨mkX s x :: M, ?_, by simp [h2], ?_, ⟨⟨rfl, rfl, rfl, rfl, d2⟩, h4⟩⟩
        · rw [List.flatMap_cons, h1]; rfl
        · intro y hy
          rcases List.mem_cons.1 hy with rfl | hy
          · exact d1
          · exact h3 y hy
  obtain ⟨M, h1, h2, h3, h4⟩ := key sg L h.len h.dg
  exact ⟨M, ⟨⟨by rw [h1]; exact h.sl, by rw [h2]; exact h.n⟩, h3⟩, h4⟩
theorem chk_read {k : Nat} (hk : k ≤ 12) {fs : List (List Nat × List Nat)} {tx : List Nat} (hft : ∀ x ∈ fs, x.2.length ≤ 1048576) : ∀ {sg : List Sg} {M : List Sx} {a : Nat}, AllS k sg M → ChG a sg tx.length → (∀ s ∈ sg, SgOk fs tx s) → chkL tx a M
  | [], [], a, _, h, _ => by have : a = tx.length := h; subst this; rfl
  | s :: sg, y :: M, a, h, hc, hs => by
    obtain ⟨⟨e1, e2, e3, e4, e5⟩, hr⟩ := h
    obtain ⟨q1, q2, q3, x, q4, q5, q6⟩ := hs s (by simp)
    have hx := hft x (List.mem_of_getElem? q4)
    have hcf : s.f = a := hc.1
    refine ⟨⟨by omega, by omega, by omega, ?_, e5.chk hk, by omega, by omega, by omega⟩, ?_⟩
    · rw [show (y.t - 1).toNat = s.t - 1 by omega]; exact q3
    · rw [e2]; exact chk_read hk hft hr hc.2 (fun z hz => hs z (by simp [hz]))
theorem chkS_read {k : Nat} (hk : k ≤ 12) {nm : List (List Nat)} {fs : List (List Nat × List Nat)} {root : List Nat} {g : Gs} {M : List Sx} (hr : readE nm fs root = .ok g) (hg : GsOk g) (hM : AllS k g.sg M) : chkS g.tx M = 0 := by
  obtain ⟨h1, h2, h3⟩ := readE_inv hr
  exact chkS_zero.2 ⟨hg.tl, by rw [← hM.len]; exact hg.sl, chk_read hk h3 hM h1.ch h1.ok⟩

def onG (e : Nat → Bool) (sg : List Sg) : List Sg := sg.filter (fun s => s.o e)
def pieceG (tx : List Nat) (s : Sg) : List Nat := (tx.take s.t).drop s.f
def selG (tx : List Nat) (sg : List Sg) (e : Nat → Bool) : List Nat := (onG e sg).flatMap (pieceG tx)
def LikeS : List Sg → List Sx → Prop
  | [], [] => True
  | s :: l, y :: m => (y.f = s.f ∧ y.t = s.t ∧ y.fl = s.fl ∧ y.at_ = s.at_) ∧ LikeS l m
  | _, _ => False
theorem AllS.like {k : Nat} : ∀ {l : List Sg} {m : List Sx}, AllS k l m → LikeS l m
  | [], [], _ => ⟨⟩
  | _ :: _, _ :: _, ⟨⟨h1, h2, h3, h4, _⟩, h⟩ => ⟨⟨h1, h2, h3, h4⟩, h.like⟩
theorem AllS.on {k : Nat} (c : Nat) : ∀ {l : List Sg} {m : List Sx}, AllS k l m → LikeS (onG (bitE c) l) (selL c m)
  | [], [], _ => ⟨⟩
  | s :: l, y :: m, ⟨⟨h1, h2, h3, h4, h5⟩, h⟩ => by
    have ih := h.on c
    unfold onG selL at ih ⊢
    rw [List.filter_cons, List.filter_cons]
    have e : inS c y = s.o (bitE c) := h5.mean _
    rw [e]
    split
    · exact ⟨⟨h1, h2, h3, h4⟩, ih⟩
    · exact ih
theorem like_pieces {tx : List Nat} : ∀ {l : List Sg} {m : List Sx}, LikeS l m → m.flatMap (pieceS tx) = l.flatMap (pieceG tx)
  | [], [], _ => rfl
  | s :: l, y :: m, ⟨⟨h1, h2, _, _⟩, h⟩ => by
    rw [List.flatMap_cons, List.flatMap_cons, like_pieces h]
    unfold pieceS pieceG
    rw [h1, h2]; rfl
theorem like_loc {tl at_ : Int} : ∀ {l : List Sg} {m : List Sx} {n : Int}, LikeS l m → locL tl at_ n m = locL tl at_ n (l.map toX)
  | [], [], _, _ => rfl
  | s :: l, y :: m, n, ⟨⟨h1, h2, _, _⟩, h⟩ => by
    rw [List.map_cons, locL, locL, like_loc h, h1, h2]; rfl
theorem like_glb {tl : Int} : ∀ {l : List Sg} {m : List Sx} {at_ : Int}, LikeS l m → glbL tl at_ m = glbL tl at_ (l.map toX)
  | [], [], _, _ => rfl
  | s :: l, y :: m, n, ⟨⟨h1, h2, _, _⟩, h⟩ => by
    rw [List.map_cons, glbL, glbL, like_glb h, h1, h2]; rfl
theorem like_ori {at_ : Int} : ∀ {l : List Sg} {m : List Sx}, LikeS l m → oriL at_ m = oriL at_ (l.map toX)
  | [], [], _ => rfl
  | s :: l, y :: m, ⟨⟨h1, h2, h3, h4⟩, h⟩ => by
    rw [List.map_cons, oriL, oriL, like_ori h, h1, h2, h3, h4]; rfl
/-- Two sets over k conditions have a common configuration. -/
def bothG (k : Nat) (o o' : BF) : Bool := (List.range (2 ^ k)).any (fun c => o (bitE c) && o' (bitE c))
theorem bits_of (e : Nat → Bool) : ∀ k, ∃ c, c < 2 ^ k ∧ ∀ i, i < k → bitE c i = e i
  | 0 => ⟨0, by decide, fun i hi => by omega⟩
  | k + 1 => by
    obtain ⟨c, h1, h2⟩ := bits_of e k
    have hp : 2 ^ (k + 1) = 2 ^ k * 2 := Nat.pow_succ 2 k
    cases hk : e k with
    | false =>
      refine ⟨c, by omega, fun i hi => ?_⟩
      by_cases hik : i = k
      · subst hik; rw [hk]; unfold bitE; rw [Nat.div_eq_of_lt h1]; rfl
      · exact h2 i (by omega)
    | true =>
      refine ⟨c + 2 ^ k, by omega, fun i hi => ?_⟩
      by_cases hik : i = k
      · subst hik; rw [hk]; unfold bitE
        rw [Nat.add_div_right _ (Nat.pow_pos (by decide)), Nat.div_eq_of_lt h1]; rfl
      · rw [← h2 i (by omega)]
        unfold bitE
        congr 1
        have e1 : 2 ^ k = 2 ^ i * (2 * 2 ^ (k - i - 1)) := by
          rw [← Nat.mul_assoc, ← Nat.pow_succ, ← Nat.pow_add]; congr 1; omega
        rw [e1, Nat.add_mul_div_left _ _ (Nat.pow_pos (by decide)), Nat.add_mul_mod_self_left]
theorem meets_both {k : Nat} {a b : List Br} {ra rb : Int} {o o' : BF} (h : Set1 k a ra o) (h' : Set1 k b rb o') : Meets a ra b rb ↔ bothG k o o' = true := by
  unfold bothG
  rw [List.any_eq_true]
  constructor
  · rintro ⟨e, e1, e2⟩
    obtain ⟨c, hc, hb⟩ := bits_of e k
    refine ⟨c, List.mem_range.2 hc, ?_⟩
    rw [h.ext hb, h'.ext hb, ← h.mean, ← h'.mean, e1, e2]; rfl
  · rintro ⟨c, _, hc⟩
    rw [Bool.and_eq_true] at hc
    exact ⟨bitE c, by rw [h.mean]; exact hc.1, by rw [h'.mean]; exact hc.2⟩
def deadG (k : Nat) (o' : BF) : Nat → List Sg → List Nat
  | _, [] => []
  | i, s :: l => if bothG k s.o o' then deadG k o' (i + 1) l else i :: deadG k o' (i + 1) l
theorem dis_both {k : Nat} (hk : k ≤ 12) {a b : List Br} {ra rb : Int} {o o' : BF} (h : Set1 k a ra o) (h' : Set1 k b rb o') : disP a ra b rb = !bothG k o o' := by
  cases hb : bothG k o o' with
  | true => rw [disP_f (fun hh => hh.2.2 ((meets_both h h').2 hb))]; rfl
  | false => rw [disP_t ⟨h.chk hk, h'.chk hk, fun hh => by rw [(meets_both h h').1 hh] at hb; cases hb⟩]; rfl
theorem dead_read {k : Nat} (hk : k ≤ 12) {b : List Br} {rb : Int} {o' : BF} (h' : Set1 k b rb o') : ∀ {l : List Sg} {m : List Sx} {i : Nat}, AllS k l m → deadL b rb i m = deadG k o' i l
  | [], [], _, _ => rfl
  | s :: l, y :: m, i, ⟨⟨_, _, _, _, h⟩, hr⟩ => by
    rw [deadL, deadG, dis_both hk h h', dead_read hk h' hr]
    cases bothG k s.o o' <;> rfl

/-! ### Contracts on what was read -/
structure SrcIn (w : World) (k : Nat) (A : Option Addr) (c : Nat) (g : Gs) : Prop where
  ok : GsOk g
  kl : k ≤ 12
  ex : ∃ M, SX w A g.sg.length c M ∧ AllS k g.sg M ∧ chkS g.tx M = 0
theorem SrcIn.ext {w w' : World} {k : Nat} {A : Option Addr} {c : Nat} {g : Gs} (h : SrcIn w k A c g) (hE : Ext w w') : SrcIn w' k A c g := ⟨h.ok, h.kl, let ⟨M, h1, h2, h3⟩ := h.ex; ⟨M, h1.ext hE, h2, h3⟩⟩
theorem srcIn_read {k : Nat} (hk : k ≤ 12) {nm : List (List Nat)} {fs : List (List Nat × List Nat)} {root : List Nat} {g : Gs} (hr : readE nm fs root = .ok g) {w : World} {A : Option Addr} {c : Nat} {L : List DV} (hg : GsOk g) (h : SgIn w k A g.sg.length c g.sg L) : SrcIn w k A c g := by
  obtain ⟨M, h1, h2⟩ := src_in h
  exact ⟨hg, hk, M, h1, h2, chkS_read hk hr hg h2⟩
section
variable {w : World} {k : Nat} {A : Option Addr} {c : Nat} {g : Gs}
theorem rsel_fn (h : SrcIn w k A c g) (x : Nat) (hx : x ≤ 18446744073709551615) : Fn Tryz.prog 29 [srcV g.tx A g.sg.length c, .int .u64 x] w (fun u w' => u = .string (strOf (selG g.tx g.sg (bitE x))) ∧ Ext w w') := by
  obtain ⟨M, h1, h2, h3⟩ := h.ex
  refine (sselect_fn g.tx A _ c M x w h1 hx h.ok.b8).mono ?_
  rintro u w' ⟨rfl, hE⟩
  exact ⟨by unfold selP selG; rw [if_pos h3, like_pieces (h2.on x)], hE⟩
def locG (g : Gs) (x : Nat) (at_ : Int) : Int × Bool := locL g.tx.length at_ 0 ((onG (bitE x) g.sg).map toX)
def glbG (g : Gs) (x : Nat) (at_ : Int) : Int × Bool := if 0 ≤ at_ then glbL g.tx.length at_ ((onG (bitE x) g.sg).map toX) else (0, false)
def oriG (g : Gs) (at_ : Int) : Int × Int × Bool := if 0 ≤ at_ ∧ at_ < g.tx.length then oriL at_ (g.sg.map toX) else (0, 0, false)
theorem rloc_fn (h : SrcIn w k A c g) (x : Nat) (hx : x ≤ 18446744073709551615) (at_ : Int) : Fn Tryz.prog 19 [srcV g.tx A g.sg.length c, .int .u64 x, .int .i64 at_] w (fun u w' => u = .tuple #[.int .i64 (locG g x at_).1, .bool (locG g x at_).2] ∧ Ext w w') := by
  obtain ⟨M, h1, h2, h3⟩ := h.ex
  refine (slocal_fn g.tx A _ c M x at_ w h1 hx h.ok.b8).mono ?_
  rintro u w' ⟨rfl, hE⟩
  have e : locP g.tx M x at_ = locG g x at_ := by unfold locP locG; rw [if_pos h3, like_loc (h2.on x)]
  exact ⟨by rw [e], hE⟩
theorem rglb_fn (h : SrcIn w k A c g) (x : Nat) (hx : x ≤ 18446744073709551615) (at_ : Int) (ha : at_ ≤ 9223372036854775807) : Fn Tryz.prog 21 [srcV g.tx A g.sg.length c, .int .u64 x, .int .i64 at_] w (fun u w' => u = .tuple #[.int .i64 (glbG g x at_).1, .bool (glbG g x at_).2] ∧ Ext w w') := by
  obtain ⟨M, h1, h2, h3⟩ := h.ex
  refine (sglobal_fn g.tx A _ c M x at_ w h1 hx h.ok.b8 ha).mono ?_
  rintro u w' ⟨rfl, hE⟩
  have e : glbP g.tx M x at_ = glbG g x at_ := by
    unfold glbP glbG
    by_cases h0 : 0 ≤ at_
    · rw [if_pos ⟨h3, h0⟩, if_pos h0, like_glb (h2.on x)]
    · rw [if_neg (fun hh => h0 hh.2), if_neg h0]
  exact ⟨by rw [e], hE⟩
theorem rori_fn (h : SrcIn w k A c g) (at_ : Int) : Fn Tryz.prog 23 [srcV g.tx A g.sg.length c, .int .i64 at_] w (fun u w' => u = .tuple #[.int .i64 (oriG g at_).1, .int .i64 (oriG g at_).2.1, .bool (oriG g at_).2.2] ∧ Ext w w') := by
  obtain ⟨M, h1, h2, h3⟩ := h.ex
  refine (sorigin_fn g.tx A _ c M at_ w h1 h.ok.b8).mono ?_
  rintro u w' ⟨rfl, hE⟩
  have e : oriP g.tx M at_ = oriG g at_ := by
    unfold oriP oriG
    by_cases h0 : 0 ≤ at_ ∧ at_ < g.tx.length
    · rw [if_pos ⟨h3, h0⟩, if_pos h0, like_ori h2.like]
    · rw [if_neg (fun hh => h0 hh.2), if_neg h0]
  exact ⟨by rw [e], hE⟩
theorem rdead_fn (h : SrcIn w k A c g) {B : Option Addr} {m d : Nat} {b : List Br} {rb : Int} {o' : BF} (hb : SB w B m d b) (hs : Set1 k b rb o') : Fn Tryz.prog 25 [srcV g.tx A g.sg.length c, dgV B m d rb] w (fun u w' => ∃ O oc, u = .tuple #[.slice O (deadG k o' 0 g.sg).length oc, .int .i64 0] ∧ Ext w w' ∧ Sl w' 1 O (deadG k o' 0 g.sg).length oc (ixV (deadG k o' 0 g.sg))) := by
  obtain ⟨M, h1, h2, h3⟩ := h.ex
  refine (sdead_fn g.tx A _ c M B m d b rb w h1 hb h.ok.b8).mono ?_
  rintro u w' ⟨O, oc, rfl, hE, hO⟩
  have e : deadP g.tx M b rb = (deadG k o' 0 g.sg, 0) := by unfold deadP; rw [if_neg (fun hh => hh h3), if_neg (fun hh => hh (hs.chk h.kl)), dead_read h.kl hs h2]
  rw [e] at hO ⊢
  exact ⟨O, oc, rfl, hE, hO⟩
end

/-! ### Numbers do not lie among texts -/
theorem Sl.sep {w : World} {sz n c g t : Nat} {A : Option Addr} {cs l : List Value} {x : Int} (h : Sl w sz A n c cs) (h0 : cs[0]? = some (.int .i64 x)) (hB : Blk w g t l) (hl : ∀ v ∈ l, ∃ s, v = .string s) : 0 < n → ∀ i, rowS A i → ¬ i = g := fun hn i hi e => by
  obtain ⟨ad, rfl, hc⟩ := h.at_ hn
  obtain ⟨ad', e', rfl⟩ := hi
  cases e'
  have h1 := hc 0 _ h0
  unfold World.cell? at h1
  rw [block_add, e, show w.heap[g]? = _ from hB] at h1
  simp only at h1
  split at h1
  · cases h1
  · rw [List.getElem?_toArray] at h1
    obtain ⟨s, hs⟩ := hl _ (List.mem_of_getElem? h1)
    cases hs
theorem SB.modT {w w' : World} {A : Option Addr} {n c g t : Nat} {nd : List Br} {l : List Value} (h : SB w A n c nd) (hB : Blk w g t l) (hl : ∀ v ∈ l, ∃ s, v = .string s) (hm : Mod (· = g) w w') : SB w' A n c nd := by
  refine ⟨h.1.modS hm (fun hn i hi => ?_), h.2⟩
  cases nd with
  | nil => have := h.2; simp at this; omega
  | cons b nd => exact h.1.sep (x := b.v) (by simp [Br.cells]) hB hl hn i hi
theorem SX.modT {w w' : World} {A : Option Addr} {n c g t : Nat} {L : List Sx} {l : List Value} (h : SX w A n c L) (hB : Blk w g t l) (hl : ∀ v ∈ l, ∃ s, v = .string s) (hm : Mod (· = g) w w') : SX w' A n c L := by
  refine ⟨⟨h.sl.1.modS hm (fun hn i hi => ?_), h.sl.2⟩, fun y hy => (h.dg y hy).modT hB hl hm⟩
  cases L with
  | nil => have := h.sl.2; simp at this; omega
  | cons y L => exact h.sl.1.sep (x := y.f) (by simp [Sx.cells]) hB hl hn i hi
theorem SrcIn.modT {w w' : World} {k : Nat} {A : Option Addr} {c gg t : Nat} {g : Gs} {l : List Value} (h : SrcIn w k A c g) (hB : Blk w gg t l) (hl : ∀ v ∈ l, ∃ s, v = .string s) (hm : Mod (· = gg) w w') : SrcIn w' k A c g :=
  ⟨h.ok, h.kl, let ⟨M, h1, h2, h3⟩ := h.ex; ⟨M, h1.modT hB hl hm, h2, h3⟩⟩
end

section
open Go Go.RowKit

def sanM : List Nat := [111, 110, 101, 10, 35, 105, 102, 32, 65, 32, 38, 38, 32, 33, 66, 10, 116, 119, 111, 10, 35, 101, 108, 105, 102, 32, 66, 10, 35, 105, 110, 99, 108, 117, 100, 101, 32, 34, 110, 34, 10, 35, 101, 108, 115, 101, 10, 102, 111, 117, 114, 10, 35, 101, 110, 100, 10, 102, 105, 118, 101, 10]
def sanN : List Nat := [116, 104, 114, 101, 101, 10]
def sanT : List Nat := [111, 110, 101, 10, 116, 119, 111, 10, 116, 104, 114, 101, 101, 10, 102, 111, 117, 114, 10, 102, 105, 118, 101, 10]
def sanNm : List (List Nat) := [[65], [66]]
def sanF : List (List Nat × List Nat) := [([109], sanM), ([110], sanN)]
def sanR : Except Pl Gs := readE sanNm sanF [109]
def okR (r : Except Pl Gs) : Bool := match r with | .ok _ => true | .error _ => false
def getR (r : Except Pl Gs) : Gs := match r with | .ok g => g | .error _ => ⟨[], [], false⟩
theorem ok_get {r : Except Pl Gs} (h : okR r = true) : r = .ok (getR r) := by
  cases r with
  | ok g => rfl
  | error _ => cases h
def sanG : Gs := getR sanR
theorem san_ok : readE sanNm sanF [109] = .ok sanG := ok_get (by decide)
theorem san_tx : sanG.tx = sanT := by decide
theorem san_sg : sanG.sg.length = 5 := by decide
theorem san_at : (sanG.sg.map (·.at_)) = [0, 16, 0, 47, 57] := by decide
theorem san_l1 : locG sanG 1 19 = (8, true) := by decide
theorem san_g1 : glbG sanG 1 8 = (19, true) := by decide
theorem san_l2 : (locG sanG 1 8).2 = false := by decide
theorem san_o : oriG sanG 9 = (1, 1, true) := by decide
theorem san_d : deadG 2 (fun e => e 1) 0 sanG.sg = [1, 3] := by decide
theorem san_s : selG sanG.tx sanG.sg (bitE 1) = [111, 110, 101, 10, 116, 119, 111, 10, 102, 105, 118, 101, 10] := by decide
def sanF2 : List (List Nat × List Nat) := [([109], sanM.take 47), ([110], sanN)]
theorem san_2 : readE sanNm sanF2 [109] = .error ⟨72, 0, 2⟩ := by
  have h : (match readE sanNm sanF2 [109] with | .ok _ => none | .error q => some (q.e, q.f, q.l)) = some (72, 0, 2) := by decide
  cases hr : readE sanNm sanF2 [109] with
  | ok g => rw [hr] at h; cases h
  | error q =>
    rw [hr] at h
    obtain ⟨a, b, c⟩ := q
    simp only [Option.some.injEq, Prod.mk.injEq] at h
    obtain ⟨rfl, rfl, rfl⟩ := h
    rfl
theorem san_fb : ∀ x ∈ sanF, FileB x := fun x hx => by
  simp only [sanF, List.mem_cons, List.not_mem_nil, or_false] at hx
  rcases hx with rfl | rfl
  · exact ⟨by decide, by decide, by decide, by decide⟩
  · exact ⟨by decide, by decide, by decide, by decide⟩
theorem san_fb2 : ∀ x ∈ sanF2, FileB x := fun x hx => by
  simp only [sanF2, List.mem_cons, List.not_mem_nil, or_false] at hx
  rcases hx with rfl | rfl
  · exact ⟨by decide, by decide, by decide, by decide⟩
  · exact ⟨by decide, by decide, by decide, by decide⟩

theorem file_str (x : List Nat × List Nat) : ∀ v ∈ fileC x, ∃ s, v = .string s := fun v hv => by
  simp only [fileC, List.mem_cons, List.not_mem_nil, or_false] at hv
  rcases hv with rfl | rfl <;> exact ⟨_, rfl⟩
theorem san_nb : NamesOk sanNm := fun s hs => by
  simp only [sanNm, List.mem_cons, List.not_mem_nil, or_false] at hs
  rcases hs with rfl | rfl <;> exact ⟨by decide, by decide⟩
set_option maxHeartbeats 1600000 in
theorem sanity7_fn (w : World) : Fn Tryz.prog 13 [] w (fun v w' => v = .bool true ∧ Ext w w') := by
  refine fn_of_exec (c := { c13 with cuts := [] }) gx_ok Tryz.func13 rfl rfl rfl ?_
  refine new (fun w1 hE1 hz1 hB1 => ?_)
  refine storeN_blk0 hB1 rfl (sc rfl) (fun w2 hg2 _ hB2 => ?_)
  have hE2 : Ext w w2 := newBox hE1 hB1 hg2
  refine new (fun w3 hE3 hz3 hB3 => ?_)
  refine storeN_blk0 hB3 rfl (sc rfl) (fun w4 hg4 _ hB4 => ?_)
  have hE24 : Ext w2 w4 := newBox hE3 hB3 hg4
  have hE04 := hE2.trans hE24
  refine at_buildN gx_ok [[.string (strOf [65])], [.string (strOf [66])]] rfl rfl rfl rfl rfl ⟨rfl, rfl, rfl, rfl, ⟨⟩⟩ rfl (fun cs h => by simp only [List.mem_cons, List.not_mem_nil, or_false] at h; rcases h with rfl | rfl <;> rfl) rfl (by decide) (by decide) ?_
  intro w5 hE5 hz5 hB5
  have hN5 : Sl w5 1 (some ⟨w4.heap.size, 0, none⟩) 2 2 (strsV sanNm) := Sl.own' (n := 2) hB5 rfl (by decide)
  have hE05 := hE04.trans hE5
  refine loadN_blk0 (hB2.ext (hE24.trans hE5)) rfl ?_
  refine loadN_blk0 (hB4.ext hE5) rfl ?_
  refine at_buildN gx_ok [fileC ([109], sanM), fileC ([110], sanN)] rfl rfl rfl rfl rfl ⟨rfl, rfl, rfl, rfl, ⟨⟩⟩ rfl (fun cs h => by simp only [List.mem_cons, List.not_mem_nil, or_false] at h; rcases h with rfl | rfl <;> rfl) rfl (by decide) (by decide) ?_
  intro w6 hE6 hz6 hB6
  have hF6 : SlS fileC 2 w6 (some ⟨w5.heap.size, 0, none⟩) 2 2 sanF := ⟨Sl.own (sz := 2) (n := 2) hB6 (Nat.le_refl _) (by decide) (by simp [fileC]), rfl⟩
  refine call (sread_fn sanNm _ 2 2 sanF _ 2 2 [109] w6 (hN5.ext hE6) san_nb (by decide) hF6 san_fb (by decide) (by decide)) ?_
  rw [san_ok]
  rintro _ w7 ⟨hE7, hg, RA, rc, RL, rfl, hS7⟩
  have hI7 := srcIn_read (by decide) san_ok hg hS7
  have hE67 := hE6.trans hE7
  refine new (fun w8 hE8 hz8 hB8 => ?_)
  refine new (fun w9 hE9 hz9 hB9 => ?_)
  refine storeN_blk0 (hB8.ext hE9) rfl (sc rfl) (fun w10 hg10 _ hB10 => ?_)
  have hM10 : Mod (· = w7.heap.size) w9 w10 := Mod.of_grown hg10 rfl
  refine storeN_blk0 (hB9.mod hM10 (by omega)) rfl (sc rfl) (fun w11 hg11 _ hB11 => ?_)
  have hM11 : Mod (· = w8.heap.size) w10 w11 := Mod.of_grown hg11 rfl
  have hB10' := hB10.mod hM11 (by omega)
  have hE711 : Ext w7 w11 := hM11.ext (hM10.ext (hE8.trans hE9) (fun i hi => by omega)) (fun i hi => by omega)
  have hI11 := hI7.ext hE711
  refine loadN_blk0 hB11 rfl ?_
  refine wif_f rfl ?_
  refine load_blk0 hB10' rfl ?_
  refine wif_f (by rw [san_tx]; rfl) ?_
  refine load_blk hB10' rfl ?_
  refine wif_f (by rw [san_sg]; rfl) ?_
  refine load_blk hB10' rfl ?_
  obtain ⟨M, hX, hA, hck⟩ := hI11.ex
  refine index_sls (j := 4) sx_len hX.sl rfl (by rw [san_sg]; decide) (fun p y hy hcl => ?_)
  have hy4 : y.at_ = 57 := by
    have h4 : sanG.sg[4]? = some (sanG.sg[4]'(by rw [san_sg]; decide)) := List.getElem?_eq_getElem _
    have e1 := (hA.get h4 hy).2.2.2.1
    have e2 : (sanG.sg.map (·.at_))[4]? = some (sanG.sg[4]'(by rw [san_sg]; decide)).at_ := by rw [List.getElem?_map, h4]; rfl
    rw [san_at] at e2
    have e3 := Option.some.inj e2
    rw [e1, ← e3]; rfl
  refine load (hcl 3 _ rfl) ?_
  refine wif_f (by rw [hy4]; rfl) ?_
  have hS : ∀ w', Ext w11 w' → Blk w' w7.heap.size 29 [.string (strOf sanG.tx), .slice RA sanG.sg.length rc] := fun w' hw' => hB10'.ext hw'
  refine loadN_blk0 (hS _ (Ext.refl _)) rfl ?_
  refine call (rloc_fn hI11 1 (by decide) 19) ?_
  rw [san_l1]
  rintro _ w12 ⟨rfl, hE12⟩
  refine loadN_blk0 (hS _ hE12) rfl ?_
  refine call (rglb_fn (hI11.ext hE12) 1 (by decide) 8 (by decide)) ?_
  rw [san_g1]
  rintro _ w13 ⟨rfl, hE13⟩
  have hE113 := hE12.trans hE13
  refine loadN_blk0 (hS _ hE113) rfl ?_
  refine call (rloc_fn (hI11.ext hE113) 1 (by decide) 8) ?_
  rw [san_l2]
  rintro _ w14 ⟨rfl, hE14⟩
  have hE114 := hE113.trans hE14
  refine loadN_blk0 (hS _ hE114) rfl ?_
  refine call (rori_fn (hI11.ext hE114) 9) ?_
  rw [san_o]
  rintro _ w15 ⟨rfl, hE15⟩
  have hE115 := hE114.trans hE15
  refine call (rvar_fn 1 w15 (by decide) (by decide)) ?_
  rintro _ w16 ⟨A16, n16, c16, rfl, hE16, hS16, hR16⟩
  have hE116 := hE115.trans hE16
  refine new (fun w17 hE17 hz17 hB17 => ?_)
  refine storeN_blk0 hB17 rfl (sc rfl) (fun w18 hg18 _ hB18 => ?_)
  have hE1618 : Ext w16 w18 := newBox hE17 hB17 hg18
  have hE118 := hE116.trans hE1618
  refine loadN_blk0 (hS _ hE118) rfl ?_
  refine loadN_blk0 hB18 rfl ?_
  refine call (rdead_fn (hI11.ext hE118) (hS16.ext hE1618) (var_set (k := 2) (v := 1) (by decide) (by decide))) ?_
  rw [show deadG sanNm.length (fun e => e 1) 0 sanG.sg = [1, 3] from san_d]
  rintro _ w19 ⟨O, oc, rfl, hE19, hO⟩
  have hE119 := hE118.trans hE19
  have hE1119 : Ext w4 w19 := ((hE5.trans hE67).trans hE711).trans hE119
  have hB2' : Blk w19 w.heap.size 38 (fileC ([109], sanM)) := hB2.ext (hE24.trans hE1119)
  refine load_blk hB2' rfl ?_
  refine need_to (v' := .string (strOf (sanM.take 47))) ⟨by decide, by decide, by show (47 : Int) ≤ ((strOf sanM).size : Int); rw [strOf_size]; decide⟩ (by show Value.string ((strOf sanM).extract 0 47) = _; rw [strOf_extract]; rfl) ?_
  refine store_mod (j := 1) hB2' (by decide) (fun w20 hM20 hB20 => ?_)
  have hN20 : Sl w20 1 (some ⟨w4.heap.size, 0, none⟩) 2 2 (strsV sanNm) := (hN5.ext ((hE67.trans hE711).trans hE119)).modS hM20 (fun _ i hi => by
    obtain ⟨ad, e, rfl⟩ := hi
    cases e
    have := hE04.size
    have := hB1.lt
    have := hE24.size
    simp only
    have := hg2.size
    omega)
  have hB4' := (hB4.ext hE1119).mod hM20 (by have := hB1.lt; have := hg2.size; omega)
  refine loadN_blk0 hB20 rfl ?_
  refine loadN_blk0 hB4' rfl ?_
  refine at_buildN gx_ok [fileC ([109], sanM.take 47), fileC ([110], sanN)] rfl rfl rfl rfl rfl ⟨rfl, rfl, rfl, rfl, ⟨⟩⟩ rfl (fun cs h => by simp only [List.mem_cons, List.not_mem_nil, or_false] at h; rcases h with rfl | rfl <;> rfl) rfl (by decide) (by decide) ?_
  intro w21 hE21 hz21 hB21
  have hF21 : SlS fileC 2 w21 (some ⟨w20.heap.size, 0, none⟩) 2 2 sanF2 := ⟨Sl.own (sz := 2) (n := 2) hB21 (Nat.le_refl _) (by decide) (by simp [fileC]), rfl⟩
  refine call (sread_fn sanNm _ 2 2 sanF2 _ 2 2 [109] w21 (hN20.ext hE21) san_nb (by decide) hF21 san_fb2 (by decide) (by decide)) ?_
  rw [san_2]
  rintro _ w22 ⟨hE22, rfl⟩
  have hE2022 := hE21.trans hE22
  refine new (fun w23 hE23 hz23 hB23 => ?_)
  refine new (fun w24 hE24' hz24 hB24 => ?_)
  refine storeN_blk0 (hB23.ext hE24') rfl (sc rfl) (fun w25 hg25 _ hB25 => ?_)
  have hM25 : Mod (· = w22.heap.size) w24 w25 := Mod.of_grown hg25 rfl
  refine storeN_blk0 (hB24.mod hM25 (by omega)) rfl (sc rfl) (fun w26 hg26 _ hB26 => ?_)
  have hM26 : Mod (· = w23.heap.size) w25 w26 := Mod.of_grown hg26 rfl
  have hE2226 : Ext w22 w26 := hM26.ext (hM25.ext (hE23.trans hE24') (fun i hi => by omega)) (fun i hi => by omega)
  have hE2026 := hE2022.trans hE2226
  refine wif_t rfl ?_
  refine wif_t rfl ?_
  refine wif_t rfl ?_
  refine wif_t rfl ?_
  refine wif_t rfl ?_
  refine wif_t rfl ?_
  refine wif_t rfl ?_
  refine wif_t rfl ?_
  refine wif_t rfl ?_
  refine wif_t rfl ?_
  have hO26 : Sl w26 1 O 2 oc (ixV [1, 3]) := (hO.modS hM20 (hO.sep (x := 1) rfl hB2' (file_str _))).ext hE2026
  have hI26 := ((hI11.ext hE119).modT hB2' (file_str _) hM20).ext hE2026
  have hS26 : Blk w26 w7.heap.size 29 [.string (strOf sanG.tx), .slice RA sanG.sg.length rc] := ((hS _ hE119).mod hM20 (by have := hE04.size; have := hE1119.size; have := (hE5.trans hE67).size; have := hB1.lt; have := hg2.size; have := hE24.size; omega)).ext hE2026
  refine index_sl (j := 0) hO26 (by decide) (fun ad u hA' hu hcell => ?_)
  cases hu
  refine load hcell ?_
  refine wif_t rfl ?_
  refine index_sl (j := 1) hO26 (by decide) (fun ad u hA' hu hcell => ?_)
  cases hu
  refine load hcell ?_
  refine wif_t rfl ?_
  refine loadN_blk0 hS26 rfl ?_
  refine call (rsel_fn hI26 1 (by decide)) ?_
  rw [san_s]
  rintro _ w27 ⟨rfl, hE27⟩
  refine wif_t rfl ?_
  refine loadN_blk0 (hB26.ext hE27) rfl ?_
  exact ⟨rfl, ((hM20.ext (hE04.trans hE1119) (fun i hi => by omega)).trans hE2026).trans hE27⟩
end
end
end Go.Proofs.YtedopgkbajhanaaGreatDoor

namespace Go.Proofs.YtedopgkbajhanaaGreatDoor
section
open Go Go.RowKit

theorem ixV_get {l : List Nat} {j x : Nat} (h : l[j]? = some x) : (ixV l)[j]? = some (.int .i64 (x : Nat)) := by simp [ixV, h]
end
end Go.Proofs.YtedopgkbajhanaaGreatDoor

namespace Go.Proofs.YtedopgkbajhanaaGreatDoor
section
open Go Go.RowKit

theorem dir_ifs (F : List Nat) : dirOf (pIf ++ F) = .ifd F := by simp [dirOf, pIf, List.isPrefixOf]
theorem dir_elifs (F : List Nat) : dirOf (pElif ++ F) = .elif F := by simp [dirOf, pIf, pElif, pInc, List.isPrefixOf]
end
end Go.Proofs.YtedopgkbajhanaaGreatDoor

namespace Go.Proofs.YtedopgkbajhanaaGreatDoor
section
open Go Go.RowKit

/-! ### Bytes with their conditions -/
abbrev CB := List (Nat × BF)
/-! ### Lines of made files -/
theorem dir_incs (F : List Nat) : dirOf (pInc ++ F) = .inc F := by simp [dirOf, pIf, pInc, List.isPrefixOf]
end
end Go.Proofs.YtedopgkbajhanaaGreatDoor

namespace Go.Proofs.YtedopgkbajhanaaGreatDoor
section
open Go Go.RowKit Go.ChangeShapes

variable {H : Type} {enc : TypeId × Value → H}

theorem law_of {P : Program} {f : FuncId} {l : List Value} {w : World} (h : Fn P f l w (fun v w' => v = .bool true ∧ Ext w w')) :
    Calls P f l.toArray w fun e w' => e = .returned (.bool true) ∧ Below w.heap.size w w' := by
  unfold Fn at h
  exact h.mono fun e w' he => by
    cases e with
    | returned v => exact ⟨by rw [he.1], he.2.below⟩
    | panicked ch => exact he.elim
    | outgrown => exact he.elim

theorem strs_of {W : World} {a : Option Addr} {len cap : Nat} {d : DataW H} {p : List MemPlace} (h : DataW.Trod enc Tryz.prog W 0 (fun _ => true) true 24 (.slice a len cap) d p) : ∃ l, Sl W 1 a len cap (strsV l) ∧ NamesOk l := by
  obtain ⟨fuel, hf⟩ := h
  rcases Go.Deep.open_slice Tryz.underlying24 hf with ⟨hcs, _⟩ | ⟨x, l, c, m, n, D, Pl, hcs, _, hl, hm, hmm, _, hx⟩
  · simp [Value.cells] at hcs
    obtain ⟨rfl, rfl, rfl⟩ := hcs
    exact ⟨[], Sl.nil W 1, fun s hs => by cases hs⟩
  · simp [Value.cells] at hcs
    obtain ⟨rfl, rfl, rfl⟩ := hcs
    simp only [if_true] at hmm
    subst hmm
    have hc9 : Tryz.prog.cellsOf 9 = 1 := by kernel_rfl
    have each : ∀ i, i < m → ∃ y : ByteArray, y.size ≤ maxLen ∧ W.cell? (x.add i) = some (.string y) := by
      intro i hi
      obtain ⟨cs, h1, h2⟩ := hx i hi
      rw [hc9] at h1
      obtain ⟨_, hlen, hcell⟩ := World.cells?_some h1
      match cs, hlen with
      | [v], _ =>
        obtain ⟨s, e1, _, hs1⟩ := DataW.trod_string Tryz.underlying9 h2
        simp at e1
        subst e1
        refine ⟨s, hs1, ?_⟩
        have := hcell 0 (by decide)
        rw [Nat.mul_one] at this
        simpa [add_add] using this
    have hin : Inhabited ByteArray := ⟨⟨#[]⟩⟩
    obtain ⟨Y, hY⟩ := Go.Deep.choose_lt each
    refine ⟨(List.range len).map (fun i => bytesOf (Y i)), ⟨by simp [strsV], hl, hm, fun _ => ⟨x, rfl, fun j u hu => ?_⟩⟩, ?_⟩
    · simp only [strsV, List.map_map, List.getElem?_map, Option.map_eq_some_iff] at hu
      obtain ⟨k, hk, rfl⟩ := hu
      have hj := (List.getElem?_eq_some_iff.1 hk).1
      simp at hj
      have : k = j := by rw [List.getElem?_range hj] at hk; exact (Option.some.inj hk).symm
      subst this
      rw [(hY k (by omega)).2]
      simp [strOf_bytesOf]
    · intro y hy
      simp only [List.mem_map, List.mem_range] at hy
      obtain ⟨i, hi, rfl⟩ := hy
      have := (hY i (by omega)).1
      exact ⟨bytesOf_lt _, by rw [bytesOf_length]; simpa [maxLen] using this⟩
end
end Go.Proofs.YtedopgkbajhanaaGreatDoor

namespace Go.Proofs.YtedopgkbajhanaaGreatDoor
section
open Go Go.RowKit Go.ChangeShapes

variable {H : Type} {enc : TypeId × Value → H}

/-! ### Lines of made files -/
structure Lx where
  k : Nat
  i : Nat
  ws : List Nat
  A : Option Addr
  n : Nat
  c : Nat
/-! ### Sources -/
/-! ### Arrays -/
end
end Go.Proofs.YtedopgkbajhanaaGreatDoor

namespace Go.Proofs.YtedopgkbajhanaaGreatDoor
section
open Go Go.RowKit

/-! ### Offsets -/
def cnt (e : Nat → Bool) (c : CB) : Nat := (c.filter (fun p => p.2 e)).length
section
variable {fs : List (List Nat × List Nat)} {g : Gs} (h : GInv fs g)
include h
end
/-! ### The condition of a byte, by segments -/
/-! ### The scan for includes -/
end
end Go.Proofs.YtedopgkbajhanaaGreatDoor

namespace Go.Proofs.YtedopgkbajhanaaGreatDoor
section
open Go Go.RowKit

inductive PT where
  | done
  | skip
  | quiet (k : Nat) (t : PT)
  | fork (k : Nat) (t o : PT)

def PT.alts : PT → List Nat
  | .fork k _ o => k :: o.alts
  | _ => []

def planTB (md : Region.Mode) (ops : Array Oper) (n : Nat) : PT → Bool → Nat → Array Bool → Bool
  | .done, inch, m, listed => !inch && Nat.beq m 0 && Region.seqB md ops (ops.size - n) n listed
  | .skip, inch, _, _ => inch
  | .quiet _ _, _, 0, _ => false
  | .quiet k t, inch, m + 1, listed => !inch && (Nat.blt k n && (Region.ready md ops listed).contains k && Region.free md ops listed k && planTB md ops n t false m (listed.setIfInBounds k true))
  | .fork _ _ _, _, 0, _ => false
  | .fork k t o, inch, m + 1, listed => (inch || decide (Region.ready md ops listed = k :: o.alts)) && (Nat.blt k n && planTB md ops n t false m (listed.setIfInBounds k true)) && planTB md ops n o true (m + 1) listed

def planT (c : Cx) (all : List Oper) (C : World → Prop) : PT → Env → World → (Env → World → Prop) → Prop
  | .done, S, w, K => K S w
  | .skip, _, _, _ => True
  | .quiet k t, S, w, K => match nthO all k with
    | some o => guardK all o S (fun S => execT c o S C (fun S => planT c all C t S w K)) (fun S => putK c S o.dst (.v undef) (fun S => planT c all C t S w K))
    | none => False
  | .fork k t o, S, w, K => (match nthO all k with
    | some op => guardK all op S (fun S => execO c op S w (fun S w => C w ∧ planT c all C t S w K) (fun _ _ _ => False)) (fun S => putK c S op.dst (.v undef) (fun S => planT c all C t S w K))
    | none => False) ∧ planT c all C o S w K

section
variable {c : Cx} {S : Env} {a : Act}
theorem planT_sound (hg : c.g.Ok) {md : Region.Mode} {ops : List Oper} {C : World → Prop} {Q : Exit → Act → World → Prop} {n : Nat} (hs : Region.noSelect ops.toArray = true) (hk : Sink md ops.toArray n) {K : Env → World → Prop} :
    ∀ (t : PT) (m : Nat) (listed : Array Bool) (S : Env) (a : Act) (w : World), HeadInv md ops.toArray n listed → planT c ops C t S w K → Fits c.N S a → C w →
    (planTB md ops.toArray n t false m listed = true → wpG c.g.P md ops.toArray (NoPan Q) C n (fun listed' a' w' => Region.seqB md ops.toArray (ops.toArray.size - n) n listed' = true ∧ ∃ S', Fits c.N S' a' ∧ K S' w') m listed a w) ∧
    (∀ m', m = m' + 1 → planTB md ops.toArray n t true m listed = true → (∀ i ∈ t.alts, i ∈ Region.ready md ops.toArray listed) → ∀ i ∈ t.alts, i < n ∧ wpOp c.g.P ops.toArray (NoPan Q) i (fun a' w' => C w' ∧ wpG c.g.P md ops.toArray (NoPan Q) C n (fun listed' a' w' => Region.seqB md ops.toArray (ops.toArray.size - n) n listed' = true ∧ ∃ S', Fits c.N S' a' ∧ K S' w') m' (listed.setIfInBounds i true) a' w') a w)
  | .done, m, listed, S, a, w, inv, h, hf, hC => by
    refine ⟨fun hB => ?_, fun m' hm hB => ?_⟩
    · simp only [planTB, Bool.not_false, Bool.true_and, Bool.and_eq_true] at hB
      have := Nat.eq_of_beq_eq_true hB.1
      subst this
      exact ⟨hB.2, S, hf, h⟩
    · simp [planTB] at hB
  | .skip, m, listed, S, a, w, inv, h, hf, hC => by
    refine ⟨fun hB => ?_, fun m' hm hB _ i hi => ?_⟩
    · simp [planTB] at hB
    · simp [PT.alts] at hi
  | .quiet k t, 0, listed, S, a, w, inv, h, hf, hC => by
    refine ⟨fun hB => ?_, fun m' hm hB => ?_⟩
    · simp [planTB] at hB
    · simp [planTB] at hB
  | .quiet k t, m + 1, listed, S, a, w, inv, h, hf, hC => by
    refine ⟨fun hB => ?_, fun m' hm hB => ?_⟩
    · simp only [planTB, Bool.not_false, Bool.true_and, Bool.and_eq_true] at hB
      obtain ⟨⟨⟨hkn, hr⟩, hfr⟩, hB'⟩ := hB
      have hkn : k < n := by rw [Nat.blt_eq] at hkn; exact hkn
      have hr' : k ∈ Region.ready md ops.toArray listed := by simpa using hr
      obtain ⟨_, o, ho, _⟩ := mem_ready.1 hr'
      have hn : nthO ops k = some o := by rw [nthO_eq]; simpa using ho
      simp only [planT, hn] at h
      have key : ∃ v, YieldsIf c.g.P ops.toArray C o v a ∧ ∃ S', Fits c.N S' (a.put o.dst v) ∧ planT c ops C t S' w K := by
        rcases guardK_spec h hf with ⟨hw, S1, hf1, h1⟩ | ⟨hw, S1, hf1, h1⟩
        · obtain ⟨v, h2, h3⟩ := execT_sound hg h1 hf1
          exact ⟨v, .inl ⟨hw, h2⟩, h3⟩
        · exact ⟨undef, .inr ⟨hw, rfl⟩, putK_sound (e := .v undef) h1 hf1⟩
      obtain ⟨v, hy, S', hf', h'⟩ := key
      exact wpG_first ho (Region.noSelect_spec hs) hk hkn (fun listed' a' w' hL => seqB_ready hL.1) m listed a w inv (Region.free_spec ho hfr) hr' hy hC
        ((planT_sound hg hs hk t m _ S' _ w (inv.set hr' hkn) h' hf' hC).1 hB')
    · simp [planTB] at hB
  | .fork k t o, 0, listed, S, a, w, inv, h, hf, hC => by
    refine ⟨fun hB => ?_, fun m' hm hB => ?_⟩
    · simp [planTB] at hB
    · simp [planTB] at hB
  | .fork k t o, m + 1, listed, S, a, w, inv, h, hf, hC => by
    have key : (Nat.blt k n && planTB md ops.toArray n t false m (listed.setIfInBounds k true)) = true → planTB md ops.toArray n o true (m + 1) listed = true → (∀ i ∈ (PT.fork k t o).alts, i ∈ Region.ready md ops.toArray listed) →
        ∀ i ∈ (PT.fork k t o).alts, i < n ∧ wpOp c.g.P ops.toArray (NoPan Q) i (fun a' w' => C w' ∧ wpG c.g.P md ops.toArray (NoPan Q) C n (fun listed' a' w' => Region.seqB md ops.toArray (ops.toArray.size - n) n listed' = true ∧ ∃ S', Fits c.N S' a' ∧ K S' w') m (listed.setIfInBounds i true) a' w') a w := by
      intro hB hBo hall i hi
      simp only [Bool.and_eq_true] at hB
      obtain ⟨hkn, hB'⟩ := hB
      have hkn : k < n := by rw [Nat.blt_eq] at hkn; exact hkn
      simp only [PT.alts, List.mem_cons] at hi
      have hr' : k ∈ Region.ready md ops.toArray listed := hall k (by simp [PT.alts])
      obtain ⟨h1, h2⟩ := h
      rcases hi with rfl | hi
      · refine ⟨hkn, ?_⟩
        obtain ⟨_, op, ho, _⟩ := mem_ready.1 hr'
        have hn : nthO ops i = some op := by rw [nthO_eq]; simpa using ho
        simp only [hn] at h1
        have inv' := inv.set hr' hkn
        unfold wpOp
        simp only [ho]
        rcases guardK_spec h1 hf with ⟨hw, S1, hf1, h3⟩ | ⟨hw, S1, hf1, h3⟩
        · rw [if_pos hw]
          refine .inl ?_
          have h4 := execO_sound hg h3 hf1
          have h5 := Oper.wp_mono (K' := fun a' w' => C w' ∧ wpG c.g.P md ops.toArray (NoPan Q) C n (fun listed' a' w' => Region.seqB md ops.toArray (ops.toArray.size - n) n listed' = true ∧ ∃ S', Fits c.N S' a' ∧ K S' w') m (listed.setIfInBounds i true) a' w')
            (fun a' w' ⟨S', hf', hc', hk'⟩ => ⟨hc', (planT_sound hg hs hk t m _ S' a' w' inv' hk' hf' hc').1 hB'⟩) h4
          unfold Oper.wp at h5 ⊢
          generalize (execOp a.eval op).run c.g.P w = r at *
          cases r with
          | ok nx w' =>
            cases nx <;> simp only [Oper.upon] at h5 ⊢ <;> try exact h5
            exact h5.mono fun e w'' he => by
              cases e with
              | returned v => exact he
              | panicked ch => obtain ⟨_, _, he⟩ := he; exact he.elim
              | outgrown => obtain ⟨_, _, _, _, he⟩ := he; exact he.elim
          | halt x w' => cases x <;> simp only [Oper.upon] at h5 ⊢ <;> first | exact h5 | (obtain ⟨_, _, h5⟩ := h5; exact h5.elim)
        · rw [if_neg (by rw [hw]; decide)]
          obtain ⟨S', hf', h'⟩ := putK_sound (e := .v undef) h3 hf1
          exact ⟨hC, (planT_sound hg hs hk t m _ S' _ w inv' h' hf' hC).1 hB'⟩
      · exact (planT_sound hg hs hk o (m + 1) listed S a w inv h2 hf hC).2 m rfl hBo (fun j hj => hall j (by simp [PT.alts, hj])) i hi
    refine ⟨fun hB => ?_, fun m' hm hB hall => ?_⟩
    · simp only [planTB, Bool.false_or, Bool.and_eq_true, decide_eq_true_eq] at hB
      obtain ⟨⟨hr, hB1⟩, hB2⟩ := hB
      have hr2 : Region.ready md ops.toArray listed = (PT.fork k t o).alts := hr
      refine ⟨fun h0 => (by rw [hr] at h0; cases h0), fun i hi => ?_⟩
      exact key (by simpa using hB1) hB2 (fun j hj => by rw [hr2]; exact hj) i (by rw [hr2] at hi; exact hi)
    · simp only [planTB, Bool.true_or, Bool.true_and] at hB
      rw [Bool.and_eq_true] at hB
      have hmm : m' = m := by omega
      subst hmm
      exact key hB.1 hB.2 hall

/-- A region that draws, by a tree for its first n operations; the rest in the text's order. -/
theorem draw_tree (hg : c.g.Ok) {id : Nat} {ops : List Oper} {w : World} {Q : Post} (C : World → Prop) (n : Nat) (t : PT)
    (hB : (Region.noSelect ops.toArray && sinkOk .any ops.toArray n && planTB .any ops.toArray n t false n (Array.replicate ops.toArray.size false)) = true) (hC : C w.drew)
    (h : planT { c with named := 1000000 } ops C t S w.drew (fun S w => execL c ops (ops.drop n) S w (fun S w => Q .normal S w) (fun _ _ _ => False))) : AtDraw c id ops S w Q := by
  unfold AtDraw
  intro a hf
  simp only [Bool.and_eq_true] at hB
  obtain ⟨⟨hs, hsk⟩, hpl⟩ := hB
  have hk := sinkOk_spec hsk
  have hnle : n ≤ ops.length := by
    rcases hk with hk | hk
    · rw [hk]; simp
    · have := hk.1; simp at this; omega
  refine Code.wp_mono NoPan.imp (wp_region_any hg.mixed ?_)
  have inv0 : HeadInv .any ops.toArray n (Array.replicate ops.toArray.size false) :=
    ⟨by simp, fun j oj _ hl => (by rw [getD_replicate_false] at hl; cases hl), fun t _ ht => getD_in (by simpa using ht) (getD_replicate_false _ _)⟩
  have H := (planT_sound (c := { c with named := 1000000 }) hg (Q := Up c Q) hs hk t n _ S a _ inv0 h hf hC).1 hpl
  have hdl : (ops.drop n).length = ops.toArray.size - n := by simp
  have H2 := wpAny_of_G (Q := NoPan (Up c Q)) (g := ops.toArray.size - n) (fun listed' a' w' hL => by
    obtain ⟨hq, S', hf', hk'⟩ := hL
    have h2 := execL_sound (c := c) hg ops _ _ _ _ hk' hf'
    have := wpAny_of_seq (P := c.g.P) (md := .any) (ops := ops.toArray) (Q' := NoPan (Up c Q)) (ops.drop n) n listed' a' w' (fun j => by simp) (by rw [hdl]; exact hq) (wpList_mono' (fun e a w hq => by
      cases e with
      | normal => exact hq
      | _ => exact absurd hq (by rintro ⟨_, _, h⟩; exact h)) h2)
    rwa [hdl] at this) _ _ _ _ H
  rw [show n + (ops.toArray.size - n) = ops.toArray.size by simp; omega] at H2
  exact H2

end
end
end Go.Proofs.YtedopgkbajhanaaGreatDoor

namespace Go.Proofs.YtedopgkbajhanaaGreatDoor
section
open Go Go.RowKit

theorem pref_take (p s : List Nat) : p.isPrefixOf s = decide (p.length ≤ s.length ∧ s.take p.length = p) := by
  have h := (List.isPrefixOf_iff_prefix (l₁ := p) (l₂ := s)).trans List.prefix_iff_eq_take
  cases hb : p.isPrefixOf s with
  | true =>
    have h1 := h.1 hb
    have h2 := congrArg List.length h1
    rw [List.length_take] at h2
    exact (decide_eq_true ⟨by omega, h1.symm⟩).symm
  | false =>
    refine (decide_eq_false (fun hh => ?_)).symm
    rw [h.2 hh.2.symm] at hb; cases hb
theorem begins_fn (s p : List Nat) (w : World) (h8 : ∀ x ∈ s, x < 256) (hp8 : ∀ x ∈ p, x < 256) :
    Fn Tryz.prog 59 [.string (strOf s), .string (strOf p)] w (fun v w' => v = .bool (p.isPrefixOf s) ∧ w = w') := by
  refine fn_of_exec (c := { c59 with cuts := [] }) gx_ok Tryz.func59 rfl rfl rfl ?_
  have hs := strOf_size s
  have hp := strOf_size p
  rw [pref_take]
  refine wif_d (fun c1 => ?_) (fun c1 => ?_)
  · refine need_to (v' := .string (strOf (s.take p.length))) ⟨by omega, by omega, by omega⟩ (by rw [strOf_extract]; simp [hp]) ?_
    refine ⟨?_, rfl⟩
    rw [strOf_eq (fun x hx => h8 x (List.mem_of_mem_take hx)) hp8]
    congr 1
    exact decide_eq_decide.2 ⟨fun h => ⟨by omega, h⟩, fun h => h.2⟩
  · exact ⟨by rw [decide_eq_false (by omega)], rfl⟩

section
variable {nm : List (List Nat)} {F : List Nat} {o : BF}
end

theorem text_at {text s l : List Nat} {a j : Nat} (h : text.drop a = s ++ 10 :: l) (hj : j < s.length) : text[a + j]? = s[j]? := by
  rw [← List.getElem?_drop, h, List.getElem?_append_left hj]
theorem text_lf {text s l : List Nat} {a : Nat} (h : text.drop a = s ++ 10 :: l) : text[a + s.length]? = some 10 := by
  rw [← List.getElem?_drop, h, List.getElem?_append_right (Nat.le_refl _)]; simp

theorem ixV_rev_take {x : Nat} {st : List Nat} : (ixV (x :: st).reverse).take (st.length * 1) = ixV st.reverse := by
  unfold ixV
  rw [Nat.mul_one, List.reverse_cons, List.map_append, List.take_append_of_le_length (by simp), List.take_of_length_le (by simp)]
end
end Go.Proofs.YtedopgkbajhanaaGreatDoor

namespace Go.Proofs.YtedopgkbajhanaaGreatDoor
section
open Go Go.RowKit

theorem pre_self (p F : List Nat) : p.isPrefixOf (p ++ F) = true := List.isPrefixOf_iff_prefix.2 (List.prefix_append p F)
end
end Go.Proofs.YtedopgkbajhanaaGreatDoor

namespace Go.Proofs.YtedopgkbajhanaaGreatDoor
section
open Go Go.RowKit

def dvL (L : List DV) : List Value := L.flatMap DV.cells
theorem dvL_snoc (L : List DV) (x : DV) : dvL (L ++ [x]) = dvL L ++ x.cells := by simp [dvL]
/-- The sets so far, in a slice that grows. -/
structure RdI (w0 : World) (f : List Fz) (k : Nat) (L : List DV) (A : Option Addr) (c : Nat) (w : World) : Prop where
  e : Ext w0 w
  own : Own w w0.heap.size 42 2 A L.length c (dvL L)
  got : ∀ j, j < L.length → ∃ x t, L[j]? = some x ∧ RepF f t j ∧ SB w x.A x.n x.c x.nd ∧ Set1 k x.nd x.r (evF t) ∧ ∀ ad, x.A = some ad → 0 < x.n → ¬ rowS A ad.block ∧ w0.heap.size ≤ ad.block
theorem RdI.ext {w0 w w' : World} {f : List Fz} {k : Nat} {L : List DV} {A : Option Addr} {c : Nat} (h : RdI w0 f k L A c w) (h1 : Ext w w') : RdI w0 f k L A c w' :=
  ⟨h.e.trans h1, h.own.ext h1, fun j hj => by
    obtain ⟨x, t, a1, a2, a3, a4, a5⟩ := h.got j hj
    exact ⟨x, t, a1, a2, a3.ext h1, a4, a5⟩⟩
theorem SB.modr {S : Nat → Prop} {w w' : World} {A : Option Addr} {n c : Nat} {nd : List Br} (h : SB w A n c nd) (hm : Mod S w w') (hr : ∀ ad, A = some ad → 0 < n → ¬ S ad.block) : SB w' A n c nd :=
  ⟨h.1.modS hm (fun h0 i hi => by obtain ⟨ad, e, rfl⟩ := hi; exact hr ad e h0), h.2⟩
theorem RdI.put {w0 w w' : World} {f : List Fz} {k : Nat} {L : List DV} {A A' : Option Addr} {c c' : Nat} (h : RdI w0 f k L A c w) {x : DV} {t : Fm} (ht : RepF f t L.length) (hx : SB w x.A x.n x.c x.nd) (hS : Set1 k x.nd x.r (evF t)) (hr : ∀ ad, x.A = some ad → 0 < x.n → ¬ rowS A ad.block ∧ w0.heap.size ≤ ad.block)
    (hm : Mod (rowS A) w w') (ho : Own w' w0.heap.size 42 2 A' (L.length + 1) c' (dvL L ++ x.cells)) (hv : Moved w A A') : RdI w0 f k (L ++ [x]) A' c' w' := by
  have el : (L ++ [x]).length = L.length + 1 := by simp
  have apart : ∀ (y : DV), SB w y.A y.n y.c y.nd → (∀ ad, y.A = some ad → 0 < y.n → ¬ rowS A ad.block ∧ w0.heap.size ≤ ad.block) → ∀ ad, y.A = some ad → 0 < y.n → ¬ rowS A' ad.block ∧ w0.heap.size ≤ ad.block := fun y hy hn ad e h0 => ⟨fun hr => by
    rcases hv.rows _ hr with h1 | h1
    · exact (hn ad e h0).1 h1
    · have := SB.lt hy ad e h0; omega, (hn ad e h0).2⟩
  refine ⟨hm.ext h.e (fun i hi => (h.own.rows i hi).1), by rw [el, dvL_snoc]; exact ho, fun j hj => ?_⟩
  by_cases hjl : j < L.length
  · obtain ⟨y, u, a1, a2, a3, a4, a5⟩ := h.got j hjl
    exact ⟨y, u, by rw [List.getElem?_append_left hjl]; exact a1, a2, a3.modr hm (fun ad e h0 => (a5 ad e h0).1), a4, apart y a3 a5⟩
  · have hjj : j = L.length := by omega
    subst hjj
    exact ⟨x, t, by simp, ht, hx.modr hm (fun ad e h0 => (hr ad e h0).1), hS, apart x hx hr⟩

theorem rdiagram_fn (F : Option Addr) (n cF : Nat) (f : List Fz) (k : Nat) (hk : k ≤ 12) (w : World) (h : SF w F n cF f) (hv : FV f) (hvk : varsOk k f) :
    Fn Tryz.prog 124 [.slice F n cF] w (fun v w' => ∃ A m c nd r, v = .tuple #[dgV A m c r, .int .i64 0] ∧ Ext w w' ∧ SB w' A m c nd ∧ Set1 k nd r (evF (treeOf f)) ∧ ∀ ad, A = some ad → 0 < m → w.heap.size ≤ ad.block) := by
  have hn := h.2
  have hvl := hv.1
  have hv0 := hv.2.1
  refine fn_of_exec (c := { c124 with cuts := [] }) gx_ok Tryz.func124 rfl rfl rfl ?_
  refine new (fun w1 hE1 hz1 hB1 => ?_)
  refine call (rcheck_fn F n cF f w1 (h.ext hE1)) ?_
  rintro _ w2 ⟨rfl, hE2⟩
  refine wif_nef (chkF_ok hv) ?_
  have hE02 := hE1.trans hE2
  have hz2 : w1.heap.size ≤ w2.heap.size := hE2.size
  refine loop gx_ok [4, 5] (fun s : List DV × Option Addr × Nat => [.slice s.2.1 s.1.length s.2.2, .int .i64 s.1.length]) (fun s w' => RdI w2 f k s.1 s.2.1 s.2.2 w' ∧ s.1.length ≤ n) (fun s _ => n - s.1.length) ([], none, 0) rfl ⟨⟨Ext.refl _, Own.nil _ _ _ _, fun j hj => absurd hj (by simp)⟩, Nat.zero_le _⟩ ?_
  rintro ⟨L, A, c⟩ w4 ⟨hI, hs⟩
  simp only at hI hs
  have hE4 : Ext w w4 := hE02.trans hI.e
  have hrows := hI.own.rows
  have hz4 := hI.e.size
  refine wif_d (fun h1 => ?_) (fun h1 => ?_)
  · have hsn : L.length < n := by simp only at h1; omega
    refine index_sls fz_len (h.ext hE4) rfl hsn (fun p x hx hc => ?_)
    refine loadN_at (vs := x.cells) rfl hc ?_
    refine new (fun w5 hE5 hz5 hB5 => ?_)
    refine storeN_blk0 hB5 rfl (sc rfl) (fun w6 hg6 hz6 hB6 => ?_)
    have hE46 : Ext w4 w6 := newBox hE5 hB5 hg6
    obtain ⟨t, ht⟩ := hv.rep (i := L.length) (by omega)
    have hlL : L.length ≤ 512 := by omega
    have c0 : ∀ b : Bool, Set1 k [] (if b then 1 else 0) (fun _ => b) := const_set k
    -- the constant that every turn begins with
    have turn : ∀ (b : Bool), (x.o == 1) = b → True := fun _ _ => trivial
    refine load_blk0 hB6 rfl ?_
    refine call (rconst_fn (x.o == 1) w6) ?_
    rintro _ w7 ⟨rfl, hE7⟩
    refine new (fun w8 hE8 hz8 hB8 => ?_)
    refine storeN_blk0 hB8 rfl (sc rfl) (fun w9 hg9 hz9 hB9 => ?_)
    have hE79 : Ext w7 w9 := newBox hE8 hB8 hg9
    have hE69 := hE7.trans hE79
    have hI9 := (hI.ext hE46).ext hE69
    have hB69 := hB6.ext hE69
    have hz46 := hE46.size
    have hz67 := hE7.size
    have hz79 := hE79.size
    have hsz9 : w7.heap.size < w9.heap.size := by omega
    have hnone : ∀ ad : Addr, (none : Option Addr) = some ad → 0 < 0 → ¬ rowS A ad.block ∧ w2.heap.size ≤ ad.block := fun ad e => by cases e
    refine load_blk0 hB69 rfl ?_
    cases t with
    | c b =>
      cases b with
      | false =>
        have hxx : x = ⟨0, 0, 0, 0⟩ := Option.some.inj (hx.symm.trans ht)
        subst hxx
        refine wif_eqf (show ¬ (0 : Int) = 2 by decide) ?_
        refine wif_eqf (show ¬ (0 : Int) = 3 by decide) ?_
        refine wif_eqf (show ¬ (0 : Int) = 4 by decide) ?_
        refine wif_eqf (show ¬ (0 : Int) = 5 by decide) ?_
        have cb : Set1 k [] 0 (fun _ => false) := c0 false
        refine wif_nef rfl ?_
        refine loadN_blk0 hB9 rfl ?_
        refine at_buildN gx_ok [(⟨none, 0, 0, [], 0⟩ : DV).cells] rfl rfl rfl rfl rfl ⟨rfl, rfl, ⟨⟩⟩ rfl (fun cs h => by simp only [List.mem_singleton] at h; subst h; rfl) rfl (by decide) (by decide) ?_
        intro w20 hE20 hz20 hB20
        have hI20 := hI9.ext hE20
        have hs20 : Sl w20 2 (some ⟨w9.heap.size, 0, none⟩) 1 1 (⟨none, 0, 0, [], 0⟩ : DV).cells := Sl.own (sz := 2) (n := 1) hB20 (Nat.le_refl _) (by decide) (by simp [DV.cells])
        refine at_app (sz := 2) (n := L.length) gx_ok rfl rfl rfl rfl rfl (by decide) rfl rfl ⟨_, rfl⟩ rfl rfl hI20.own hs20 (by intro u hu; simp [DV.cells] at hu; rcases hu with rfl | rfl <;> rfl) (by unfold maxLen; omega) (by show _ * 32 ≤ _; omega) (hI20.e.size) ?_
        intro A' c' w21 hm21 ho21 hv21
        have hI21 := hI20.put ht (x := ⟨none, 0, 0, [], 0⟩) (SlS.nil _) cb hnone hm21 ho21 hv21
        refine norm_i64_to ((L.length + 1 : Nat) : Int) (by show ((L.length : Nat) : Int) + 1 = _; omega) (by omega) ?_
        exact ⟨(L ++ [⟨none, 0, 0, [], 0⟩], A', c'), by simp only [List.length_append, List.length_cons, List.length_nil]; rfl, ⟨hI21, by show (L ++ [_]).length ≤ n; simp only [List.length_append, List.length_cons, List.length_nil]; omega⟩, by show n - (L ++ [_]).length < n - L.length; simp only [List.length_append, List.length_cons, List.length_nil]; omega⟩
      | true =>
        have hxx : x = ⟨1, 0, 0, 0⟩ := Option.some.inj (hx.symm.trans ht)
        subst hxx
        refine wif_eqf (show ¬ (1 : Int) = 2 by decide) ?_
        refine wif_eqf (show ¬ (1 : Int) = 3 by decide) ?_
        refine wif_eqf (show ¬ (1 : Int) = 4 by decide) ?_
        refine wif_eqf (show ¬ (1 : Int) = 5 by decide) ?_
        have cb : Set1 k [] 1 (fun _ => true) := c0 true
        refine wif_nef rfl ?_
        refine loadN_blk0 hB9 rfl ?_
        refine at_buildN gx_ok [(⟨none, 0, 0, [], 1⟩ : DV).cells] rfl rfl rfl rfl rfl ⟨rfl, rfl, ⟨⟩⟩ rfl (fun cs h => by simp only [List.mem_singleton] at h; subst h; rfl) rfl (by decide) (by decide) ?_
        intro w20 hE20 hz20 hB20
        have hI20 := hI9.ext hE20
        have hs20 : Sl w20 2 (some ⟨w9.heap.size, 0, none⟩) 1 1 (⟨none, 0, 0, [], 1⟩ : DV).cells := Sl.own (sz := 2) (n := 1) hB20 (Nat.le_refl _) (by decide) (by simp [DV.cells])
        refine at_app (sz := 2) (n := L.length) gx_ok rfl rfl rfl rfl rfl (by decide) rfl rfl ⟨_, rfl⟩ rfl rfl hI20.own hs20 (by intro u hu; simp [DV.cells] at hu; rcases hu with rfl | rfl <;> rfl) (by unfold maxLen; omega) (by show _ * 32 ≤ _; omega) (hI20.e.size) ?_
        intro A' c' w21 hm21 ho21 hv21
        have hI21 := hI20.put ht (x := ⟨none, 0, 0, [], 1⟩) (SlS.nil _) cb hnone hm21 ho21 hv21
        refine norm_i64_to ((L.length + 1 : Nat) : Int) (by show ((L.length : Nat) : Int) + 1 = _; omega) (by omega) ?_
        exact ⟨(L ++ [⟨none, 0, 0, [], 1⟩], A', c'), by simp only [List.length_append, List.length_cons, List.length_nil]; rfl, ⟨hI21, by show (L ++ [_]).length ≤ n; simp only [List.length_append, List.length_cons, List.length_nil]; omega⟩, by show n - (L ++ [_]).length < n - L.length; simp only [List.length_append, List.length_cons, List.length_nil]; omega⟩
    | v q =>
      have hxx : x = ⟨2, (q : Nat), 0, 0⟩ := Option.some.inj (hx.symm.trans ht)
      subst hxx
      have hq : (q : Int) < k := hvk _ (List.mem_of_getElem? hx) rfl
      refine wif_eqt rfl ?_
      refine load_blk hB69 rfl ?_
      refine call (rvar_fn (q : Nat) w9 (by omega) (by omega)) ?_
      rintro _ w10 ⟨PA, pn, pc, rfl, hE10, hP10', hR10⟩
      have hP10 : SB w10 PA pn pc [⟨(q : Nat), 0, 1⟩] := hP10'
      have hSv : Set1 k [⟨(q : Nat), 0, 1⟩] 2 (evF (.v q)) := var_set (by omega) (by omega)
      refine storeN_blk0 (hB9.ext hE10) rfl (sc rfl) (fun w11 hg11 hz11 hB11 => ?_)
      have hM11 : Mod (· = w7.heap.size) w10 w11 := Mod.of_grown hg11 rfl
      have hE911 : Ext w6 w11 := hM11.ext (hE69.trans hE10) (fun i hi => by omega)
      have hI11 := (hI.ext hE46).ext hE911
      have hz10 := hE10.size
      have hP11 := hP10.modr hM11 (fun ad e h0 hh => by have := hR10 ad.block ⟨ad, e, rfl⟩; omega)
      have hrow11 : ∀ ae, PA = some ae → 0 < pn → ¬ rowS A ae.block ∧ w2.heap.size ≤ ae.block := fun ae e _ => ⟨fun hh => by
        have h1 := hR10 ae.block ⟨ae, e, rfl⟩
        have h2 := (hrows _ hh).2
        omega, by have h1 := hR10 ae.block ⟨ae, e, rfl⟩; omega⟩
      refine wif_nef rfl ?_
      refine loadN_blk0 hB11 rfl ?_
      refine at_buildN gx_ok [(⟨PA, pn, pc, [⟨(q : Nat), 0, 1⟩], 2⟩ : DV).cells] rfl rfl rfl rfl rfl ⟨rfl, rfl, ⟨⟩⟩ rfl (fun cs h => by simp only [List.mem_singleton] at h; subst h; rfl) rfl (by decide) (by decide) ?_
      intro w20 hE20 hz20 hB20
      have hI20 := hI11.ext hE20
      have hs20 : Sl w20 2 (some ⟨w11.heap.size, 0, none⟩) 1 1 (⟨PA, pn, pc, [⟨(q : Nat), 0, 1⟩], 2⟩ : DV).cells := Sl.own (sz := 2) (n := 1) hB20 (Nat.le_refl _) (by decide) (by simp [DV.cells])
      refine at_app (sz := 2) (n := L.length) gx_ok rfl rfl rfl rfl rfl (by decide) rfl rfl ⟨_, rfl⟩ rfl rfl hI20.own hs20 (by intro u hu; simp [DV.cells] at hu; rcases hu with rfl | rfl <;> rfl) (by unfold maxLen; omega) (by show _ * 32 ≤ _; omega) (hI20.e.size) ?_
      intro A' c' w21 hm21 ho21 hv21
      have hI21 := hI20.put ht (x := ⟨PA, pn, pc, [⟨(q : Nat), 0, 1⟩], 2⟩) (hP11.ext hE20) hSv hrow11 hm21 ho21 hv21
      refine norm_i64_to ((L.length + 1 : Nat) : Int) (by show ((L.length : Nat) : Int) + 1 = _; omega) (by omega) ?_
      exact ⟨(L ++ [⟨PA, pn, pc, [⟨(q : Nat), 0, 1⟩], 2⟩], A', c'), by simp only [List.length_append, List.length_cons, List.length_nil]; rfl, ⟨hI21, by show (L ++ [_]).length ≤ n; simp only [List.length_append, List.length_cons, List.length_nil]; omega⟩, by show n - (L ++ [_]).length < n - L.length; simp only [List.length_append, List.length_cons, List.length_nil]; omega⟩
    | not a =>
      obtain ⟨j, hj, hxj, hra⟩ := ht
      have hxx : x = ⟨3, 0, (j : Nat), 0⟩ := Option.some.inj (hx.symm.trans hxj)
      subst hxx
      obtain ⟨y, u, hy, hu, hyS, hyM, hyr⟩ := hI9.got j hj
      obtain rfl : u = a := RepF.det hu hra
      have ht : RepF f (.not u) L.length := ⟨j, hj, hxj, hra⟩
      refine wif_eqf (show ¬ (3 : Int) = 2 by decide) ?_
      refine wif_eqt rfl ?_
      refine load_blk hB69 rfl ?_
      refine index_sls dv_len (l := L) (j := j) ⟨hI9.own.sl, rfl⟩ rfl hj (fun p2 y2 hy2 hc2 => ?_)
      have hyy : y2 = y := Option.some.inj (hy2.symm.trans hy)
      subst hyy
      refine loadN_at (vs := y2.cells) rfl hc2 ?_
      refine call (rnot_fn hk y2.A y2.n y2.c w9 hyS hyM) ?_
      rintro _ w10 ⟨PA, pn, pc, D1, D2, rfl, hE10, hP10, hSv0, hR10⟩
      have hSv : Set1 k D1 D2 (evF (.not u)) := hSv0
      refine storeN_blk0 (hB9.ext hE10) rfl (sc rfl) (fun w11 hg11 hz11 hB11 => ?_)
      have hM11 : Mod (· = w7.heap.size) w10 w11 := Mod.of_grown hg11 rfl
      have hE911 : Ext w6 w11 := hM11.ext (hE69.trans hE10) (fun i hi => by omega)
      have hI11 := (hI.ext hE46).ext hE911
      have hz10 := hE10.size
      have hP11 := hP10.modr hM11 (fun ad e h0 hh => by have := hR10 ad.block ⟨ad, e, rfl⟩; omega)
      have hrow11 : ∀ ae, PA = some ae → 0 < pn → ¬ rowS A ae.block ∧ w2.heap.size ≤ ae.block := fun ae e _ => ⟨fun hh => by
        have h1 := hR10 ae.block ⟨ae, e, rfl⟩
        have h2 := (hrows _ hh).2
        omega, by have h1 := hR10 ae.block ⟨ae, e, rfl⟩; omega⟩
      refine wif_nef rfl ?_
      refine loadN_blk0 hB11 rfl ?_
      refine at_buildN gx_ok [(⟨PA, pn, pc, D1, D2⟩ : DV).cells] rfl rfl rfl rfl rfl ⟨rfl, rfl, ⟨⟩⟩ rfl (fun cs h => by simp only [List.mem_singleton] at h; subst h; rfl) rfl (by decide) (by decide) ?_
      intro w20 hE20 hz20 hB20
      have hI20 := hI11.ext hE20
      have hs20 : Sl w20 2 (some ⟨w11.heap.size, 0, none⟩) 1 1 (⟨PA, pn, pc, D1, D2⟩ : DV).cells := Sl.own (sz := 2) (n := 1) hB20 (Nat.le_refl _) (by decide) (by simp [DV.cells])
      refine at_app (sz := 2) (n := L.length) gx_ok rfl rfl rfl rfl rfl (by decide) rfl rfl ⟨_, rfl⟩ rfl rfl hI20.own hs20 (by intro u hu; simp [DV.cells] at hu; rcases hu with rfl | rfl <;> rfl) (by unfold maxLen; omega) (by show _ * 32 ≤ _; omega) (hI20.e.size) ?_
      intro A' c' w21 hm21 ho21 hv21
      have hI21 := hI20.put ht (x := ⟨PA, pn, pc, D1, D2⟩) (hP11.ext hE20) hSv hrow11 hm21 ho21 hv21
      refine norm_i64_to ((L.length + 1 : Nat) : Int) (by show ((L.length : Nat) : Int) + 1 = _; omega) (by omega) ?_
      exact ⟨(L ++ [⟨PA, pn, pc, D1, D2⟩], A', c'), by simp only [List.length_append, List.length_cons, List.length_nil]; rfl, ⟨hI21, by show (L ++ [_]).length ≤ n; simp only [List.length_append, List.length_cons, List.length_nil]; omega⟩, by show n - (L ++ [_]).length < n - L.length; simp only [List.length_append, List.length_cons, List.length_nil]; omega⟩
    | and a b =>
      obtain ⟨j, l, hj, hl, hxj, hra, hrb⟩ := ht
      have hxx : x = ⟨4, 0, (j : Nat), (l : Nat)⟩ := Option.some.inj (hx.symm.trans hxj)
      subst hxx
      obtain ⟨y, u, hy, hu, hyS, hyM, hyr⟩ := hI9.got j hj
      obtain rfl : u = a := RepF.det hu hra
      obtain ⟨z, u', hz, hu', hzS, hzM, hzr⟩ := hI9.got l hl
      obtain rfl : u' = b := RepF.det hu' hrb
      have ht : RepF f (.and u u') L.length := ⟨j, l, hj, hl, hxj, hra, hrb⟩
      obtain ⟨ad, hAe, hcl⟩ := hI9.own.sl.at_ (by omega)
      subst hAe
      have hadb : ad.block < w4.heap.size := (hrows ad.block ⟨ad, rfl, rfl⟩).2
      refine wif_eqf (show ¬ (4 : Int) = 2 by decide) ?_
      refine wif_eqf (show ¬ (4 : Int) = 3 by decide) ?_
      refine wif_eqt rfl ?_
      refine draw_plan gx_ok (Mod (· = w7.heap.size) w9) 16 [(true, 0), (true, 1), (true, 2), (true, 3), (true, 4), (true, 5), (true, 6), (true, 7), (true, 8), (true, 9), (false, 10), (true, 11), (true, 12), (true, 13), (false, 14), (true, 15)] (by kernel_rfl) (Mod.of_ext _ (Ext.drew w9)) ?_
      have hn6 : ¬ w4.heap.size = w7.heap.size := by omega
      refine qload (v := .int .i64 (j : Nat)) (fun w' hw' => by rw [(hB69.mod hw' hn6).cell]; rfl) ?_
      refine index_n (j := j) hj ?_
      refine qloadN (vs := y.cells) rfl (fun w' hw' i v hi => hw'.cell (by rw [add_add]; exact hcl _ _ (flat_get dv_len _ _ _ _ _ hy hi)) (by rw [block_add, block_add]; omega)) ?_
      refine qload (v := .int .i64 (l : Nat)) (fun w' hw' => by rw [(hB69.mod hw' hn6).cell]; rfl) ?_
      refine index_n (j := l) hl ?_
      refine qloadN (vs := z.cells) rfl (fun w' hw' i v hi => hw'.cell (by rw [add_add]; exact hcl _ _ (flat_get dv_len _ _ _ _ _ hz hi)) (by rw [block_add, block_add]; omega)) ?_
      refine call (rand_fn hk y.A y.n y.c z.A z.n z.c _ (hyS.ext (Ext.drew w9)) (hzS.ext (Ext.drew w9)) hyM hzM) ?_
      rintro _ w10 ⟨PA, pn, pc, D1, D2, rfl, hE10', hP10, hSv0, hR10'⟩
      have hE10 : Ext w9 w10 := (Ext.drew w9).trans hE10'
      have hzd := (Ext.drew w9).size
      have hR10 : ∀ i, rowS PA i → w9.heap.size ≤ i := fun i hi => by have := hR10' i hi; omega
      have hSv : Set1 k D1 D2 (evF (.and u u')) := hSv0.congr (fun e => by simp [opB, evF])
      refine ⟨Mod.of_ext _ hE10, ?_⟩
      refine storeN_blk0 (hB9.ext hE10) rfl (sc rfl) (fun w11 hg11 hz11 hB11 => ?_)
      have hM11 : Mod (· = w7.heap.size) w10 w11 := Mod.of_grown hg11 rfl
      have hE911 : Ext w6 w11 := hM11.ext (hE69.trans hE10) (fun i hi => by omega)
      have hI11 := (hI.ext hE46).ext hE911
      refine ⟨(Mod.of_ext (· = w7.heap.size) hE10).trans hM11 (fun i hi => .inl hi), ?_⟩
      have hz10 := hE10.size
      have hP11 := hP10.modr hM11 (fun ad e h0 hh => by have := hR10 ad.block ⟨ad, e, rfl⟩; omega)
      have hrow11 : ∀ ae, PA = some ae → 0 < pn → ¬ rowS (some ad) ae.block ∧ w2.heap.size ≤ ae.block := fun ae e _ => ⟨fun hh => by
        have h1 := hR10 ae.block ⟨ae, e, rfl⟩
        have h2 := (hrows _ hh).2
        omega, by have h1 := hR10 ae.block ⟨ae, e, rfl⟩; omega⟩
      refine wif_nef rfl ?_
      refine loadN_blk0 hB11 rfl ?_
      refine at_buildN gx_ok [(⟨PA, pn, pc, D1, D2⟩ : DV).cells] rfl rfl rfl rfl rfl ⟨rfl, rfl, ⟨⟩⟩ rfl (fun cs h => by simp only [List.mem_singleton] at h; subst h; rfl) rfl (by decide) (by decide) ?_
      intro w20 hE20 hz20 hB20
      have hI20 := hI11.ext hE20
      have hs20 : Sl w20 2 (some ⟨w11.heap.size, 0, none⟩) 1 1 (⟨PA, pn, pc, D1, D2⟩ : DV).cells := Sl.own (sz := 2) (n := 1) hB20 (Nat.le_refl _) (by decide) (by simp [DV.cells])
      refine at_app (sz := 2) (n := L.length) gx_ok rfl rfl rfl rfl rfl (by decide) rfl rfl ⟨_, rfl⟩ rfl rfl hI20.own hs20 (by intro u hu; simp [DV.cells] at hu; rcases hu with rfl | rfl <;> rfl) (by unfold maxLen; omega) (by show _ * 32 ≤ _; omega) (hI20.e.size) ?_
      intro A' c' w21 hm21 ho21 hv21
      have hI21 := hI20.put ht (x := ⟨PA, pn, pc, D1, D2⟩) (hP11.ext hE20) hSv hrow11 hm21 ho21 hv21
      refine norm_i64_to ((L.length + 1 : Nat) : Int) (by show ((L.length : Nat) : Int) + 1 = _; omega) (by omega) ?_
      exact ⟨(L ++ [⟨PA, pn, pc, D1, D2⟩], A', c'), by simp only [List.length_append, List.length_cons, List.length_nil]; rfl, ⟨hI21, by show (L ++ [_]).length ≤ n; simp only [List.length_append, List.length_cons, List.length_nil]; omega⟩, by show n - (L ++ [_]).length < n - L.length; simp only [List.length_append, List.length_cons, List.length_nil]; omega⟩
    | or a b =>
      obtain ⟨j, l, hj, hl, hxj, hra, hrb⟩ := ht
      have hxx : x = ⟨5, 0, (j : Nat), (l : Nat)⟩ := Option.some.inj (hx.symm.trans hxj)
      subst hxx
      obtain ⟨y, u, hy, hu, hyS, hyM, hyr⟩ := hI9.got j hj
      obtain rfl : u = a := RepF.det hu hra
      obtain ⟨z, u', hz, hu', hzS, hzM, hzr⟩ := hI9.got l hl
      obtain rfl : u' = b := RepF.det hu' hrb
      have ht : RepF f (.or u u') L.length := ⟨j, l, hj, hl, hxj, hra, hrb⟩
      obtain ⟨ad, hAe, hcl⟩ := hI9.own.sl.at_ (by omega)
      subst hAe
      have hadb : ad.block < w4.heap.size := (hrows ad.block ⟨ad, rfl, rfl⟩).2
      refine wif_eqf (show ¬ (5 : Int) = 2 by decide) ?_
      refine wif_eqf (show ¬ (5 : Int) = 3 by decide) ?_
      refine wif_eqf (show ¬ (5 : Int) = 4 by decide) ?_
      refine wif_eqt rfl ?_
      refine draw_plan gx_ok (Mod (· = w7.heap.size) w9) 16 [(true, 0), (true, 1), (true, 2), (true, 3), (true, 4), (true, 5), (true, 6), (true, 7), (true, 8), (true, 9), (false, 10), (true, 11), (true, 12), (true, 13), (false, 14), (true, 15)] (by kernel_rfl) (Mod.of_ext _ (Ext.drew w9)) ?_
      have hn6 : ¬ w4.heap.size = w7.heap.size := by omega
      refine qload (v := .int .i64 (j : Nat)) (fun w' hw' => by rw [(hB69.mod hw' hn6).cell]; rfl) ?_
      refine index_n (j := j) hj ?_
      refine qloadN (vs := y.cells) rfl (fun w' hw' i v hi => hw'.cell (by rw [add_add]; exact hcl _ _ (flat_get dv_len _ _ _ _ _ hy hi)) (by rw [block_add, block_add]; omega)) ?_
      refine qload (v := .int .i64 (l : Nat)) (fun w' hw' => by rw [(hB69.mod hw' hn6).cell]; rfl) ?_
      refine index_n (j := l) hl ?_
      refine qloadN (vs := z.cells) rfl (fun w' hw' i v hi => hw'.cell (by rw [add_add]; exact hcl _ _ (flat_get dv_len _ _ _ _ _ hz hi)) (by rw [block_add, block_add]; omega)) ?_
      refine call (ror_fn hk y.A y.n y.c z.A z.n z.c _ (hyS.ext (Ext.drew w9)) (hzS.ext (Ext.drew w9)) hyM hzM) ?_
      rintro _ w10 ⟨PA, pn, pc, D1, D2, rfl, hE10', hP10, hSv0, hR10'⟩
      have hE10 : Ext w9 w10 := (Ext.drew w9).trans hE10'
      have hzd := (Ext.drew w9).size
      have hR10 : ∀ i, rowS PA i → w9.heap.size ≤ i := fun i hi => by have := hR10' i hi; omega
      have hSv : Set1 k D1 D2 (evF (.or u u')) := hSv0.congr (fun e => by simp [opB, evF])
      refine ⟨Mod.of_ext _ hE10, ?_⟩
      refine storeN_blk0 (hB9.ext hE10) rfl (sc rfl) (fun w11 hg11 hz11 hB11 => ?_)
      have hM11 : Mod (· = w7.heap.size) w10 w11 := Mod.of_grown hg11 rfl
      have hE911 : Ext w6 w11 := hM11.ext (hE69.trans hE10) (fun i hi => by omega)
      have hI11 := (hI.ext hE46).ext hE911
      refine ⟨(Mod.of_ext (· = w7.heap.size) hE10).trans hM11 (fun i hi => .inl hi), ?_⟩
      have hz10 := hE10.size
      have hP11 := hP10.modr hM11 (fun ad e h0 hh => by have := hR10 ad.block ⟨ad, e, rfl⟩; omega)
      have hrow11 : ∀ ae, PA = some ae → 0 < pn → ¬ rowS (some ad) ae.block ∧ w2.heap.size ≤ ae.block := fun ae e _ => ⟨fun hh => by
        have h1 := hR10 ae.block ⟨ae, e, rfl⟩
        have h2 := (hrows _ hh).2
        omega, by have h1 := hR10 ae.block ⟨ae, e, rfl⟩; omega⟩
      refine wif_nef rfl ?_
      refine loadN_blk0 hB11 rfl ?_
      refine at_buildN gx_ok [(⟨PA, pn, pc, D1, D2⟩ : DV).cells] rfl rfl rfl rfl rfl ⟨rfl, rfl, ⟨⟩⟩ rfl (fun cs h => by simp only [List.mem_singleton] at h; subst h; rfl) rfl (by decide) (by decide) ?_
      intro w20 hE20 hz20 hB20
      have hI20 := hI11.ext hE20
      have hs20 : Sl w20 2 (some ⟨w11.heap.size, 0, none⟩) 1 1 (⟨PA, pn, pc, D1, D2⟩ : DV).cells := Sl.own (sz := 2) (n := 1) hB20 (Nat.le_refl _) (by decide) (by simp [DV.cells])
      refine at_app (sz := 2) (n := L.length) gx_ok rfl rfl rfl rfl rfl (by decide) rfl rfl ⟨_, rfl⟩ rfl rfl hI20.own hs20 (by intro u hu; simp [DV.cells] at hu; rcases hu with rfl | rfl <;> rfl) (by unfold maxLen; omega) (by show _ * 32 ≤ _; omega) (hI20.e.size) ?_
      intro A' c' w21 hm21 ho21 hv21
      have hI21 := hI20.put ht (x := ⟨PA, pn, pc, D1, D2⟩) (hP11.ext hE20) hSv hrow11 hm21 ho21 hv21
      refine norm_i64_to ((L.length + 1 : Nat) : Int) (by show ((L.length : Nat) : Int) + 1 = _; omega) (by omega) ?_
      exact ⟨(L ++ [⟨PA, pn, pc, D1, D2⟩], A', c'), by simp only [List.length_append, List.length_cons, List.length_nil]; rfl, ⟨hI21, by show (L ++ [_]).length ≤ n; simp only [List.length_append, List.length_cons, List.length_nil]; omega⟩, by show n - (L ++ [_]).length < n - L.length; simp only [List.length_append, List.length_cons, List.length_nil]; omega⟩
  · have hsn : L.length = n := by simp only at h1; omega
    obtain ⟨y, u, hy, hu, hyS, hyM, hyr⟩ := hI.got (L.length - 1) (by omega)
    have htr := treeOf_eq (f := f) (t := u) (by rw [show f.length - 1 = L.length - 1 by omega]; exact hu)
    refine norm_i64_to ((L.length - 1 : Nat) : Int) (by show ((L.length : Nat) : Int) - 1 = _; omega) (by omega) ?_
    refine index_sls dv_len (l := L) (j := L.length - 1) ⟨hI.own.sl, rfl⟩ rfl (by omega) (fun p2 y2 hy2 hc2 => ?_)
    have hyy : y2 = y := Option.some.inj (hy2.symm.trans hy)
    subst hyy
    refine loadN_at (vs := y2.cells) rfl hc2 ?_
    have hB4 := (hB1.ext hE2).ext hI.e
    refine storeN_blk0 hB4 rfl (sc rfl) (fun w5 hg5 hz5 hB5 => ?_)
    have hM5 : Mod (· = w.heap.size) w4 w5 := Mod.of_grown hg5 rfl
    refine loadN_blk0 hB5 rfl ?_
    exact ⟨y2.A, y2.n, y2.c, y2.nd, y2.r, rfl, hM5.ext hE4 (fun i hi => by omega), hyS.modr hM5 (fun ad e h0 hh => by have := (hyr ad e h0).2; omega), by rw [htr]; exact hyM, fun ad e h0 => by have := (hyr ad e h0).2; have := hE02.size; omega⟩
end
end Go.Proofs.YtedopgkbajhanaaGreatDoor

namespace Go.Proofs.YtedopgkbajhanaaGreatDoor
section
open Go Go.RowKit

structure QP where
  r : Nat
  NA : Option Addr
  nn : Nat
  nc : Nat
  nm : List (List Nat)
  FA : Option Addr
  nf : Nat
  cf : Nat
  fs : List (List Nat × List Nat)
structure QPok (w0 : World) (p : QP) : Prop where
  nms : Sl w0 1 p.NA p.nn p.nc (strsV p.nm)
  nmb : NamesOk p.nm
  nmk : p.nm.length ≤ 12
  fls : SlS fileC 2 w0 p.FA p.nf p.cf p.fs
  flb : ∀ x ∈ p.fs, FileOk x
  fl6 : p.fs.length ≤ 256
  nd : (p.fs.map (·.1)).Nodup
structure QM where
  OA : Option Addr
  oc : Nat
  DA : Option Addr
  dc : Nat
  L : List DV
  T : Nat → Prop
structure QV where
  d : Nat
  rd : List Nat
  g : Gs
  b : Pl
abbrev qdC (p : QP) (m : QM) (v : QV) : List Value := [.slice p.NA p.nn p.nc, .slice p.FA p.nf p.cf, .int .i64 v.d, .slice m.DA v.rd.length m.dc, .string (strOf v.g.tx), .slice m.OA v.g.sg.length m.oc, .bool v.g.fr, .int .i64 v.b.e, .int .i64 v.b.f, .int .i64 v.b.l]
def QS (p : QP) (m : QM) : Nat → Prop := fun k => k = p.r ∨ rowS m.OA k ∨ rowS m.DA k
def TQ (p : QP) (m : QM) : Nat → Prop := fun k => QS p m k ∨ m.T k
structure Qr (w0 w : World) (base : Nat) (p : QP) (m : QM) (v : QV) : Prop where
  e0 : Ext w0 w
  lor : w0.heap.size ≤ p.r
  rb : p.r < base
  top : base ≤ w.heap.size
  blk : Blk w p.r 97 (qdC p m v)
  rdo : Own w base 3 1 m.DA v.rd.length m.dc (ixV v.rd.reverse)
  out : Own w base 45 6 m.OA v.g.sg.length m.oc (sgV v.g.sg m.L)
  len : m.L.length = v.g.sg.length
  dgs : ∀ (j : Nat) (s : Sg) (x : DV), v.g.sg[j]? = some s → m.L[j]? = some x → DgO w (TQ p m) p.nm.length x s.o
  tl : v.g.tx.length ≤ 1048576
  sl : v.g.sg.length ≤ 65536
  b8 : ∀ x ∈ v.g.tx, x < 256
  nf : v.g.fr = false → v.g.sg ≠ [] ∨ v.rd = []
  tt : ∀ i, m.T i → i < w.heap.size
  dl : v.d ≤ 65
  rl : v.rd.length ≤ 65 + 65
section
variable {w0 w w' : World} {base : Nat} {p : QP} {m : QM} {v : QV}
theorem Qr.lo (h : Qr w0 w base p m v) : ∀ i, QS p m i → w0.heap.size ≤ i := fun i hi => by
  have := h.lor; have := h.rb
  rcases hi with rfl | hi | hi
  · assumption
  · have := (h.out.rows i hi).1; omega
  · have := (h.rdo.rows i hi).1; omega
theorem Qr.hi (h : Qr w0 w base p m v) : ∀ i, QS p m i → i < w.heap.size := fun i hi => by
  have := h.rb; have := h.top
  rcases hi with rfl | hi | hi
  · omega
  · exact (h.out.rows i hi).2
  · exact (h.rdo.rows i hi).2
theorem Qr.hiT (h : Qr w0 w base p m v) : ∀ i, TQ p m i → i < w.heap.size := fun i hi => hi.elim (h.hi i) (h.tt i)
theorem Qr.ext (h : Qr w0 w base p m v) (k : Ext w w') : Qr w0 w' base p m v :=
  ⟨h.e0.trans k, h.lor, h.rb, Nat.le_trans h.top k.size, h.blk.ext k, h.rdo.ext k, h.out.ext k, h.len, fun j s x h1 h2 => (h.dgs j s x h1 h2).ext k, h.tl, h.sl, h.b8, h.nf, fun i hi => Nat.lt_of_lt_of_le (h.tt i hi) k.size, h.dl, h.rl⟩
theorem QS.moved {m' : QM} (h1 : Moved w m.OA m'.OA) (h2 : Moved w m.DA m'.DA) : ∀ k, QS p m' k → QS p m k ∨ w.heap.size ≤ k := by
  rintro k (rfl | hk | hk)
  · exact .inl (.inl rfl)
  · rcases h1.rows k hk with h | h
    · exact .inl (.inr (.inl h))
    · exact .inr h
  · rcases h2.rows k hk with h | h
    · exact .inl (.inr (.inr h))
    · exact .inr h
theorem TQ.moved {m' : QM} (hT : m'.T = m.T) (h1 : Moved w m.OA m'.OA) (h2 : Moved w m.DA m'.DA) : ∀ k, TQ p m' k → TQ p m k ∨ w.heap.size ≤ k := by
  rintro k (hk | hk)
  · rcases QS.moved (p := p) h1 h2 k hk with h | h
    · exact .inl (.inl h)
    · exact .inr h
  · exact .inl (.inr (by rw [← hT]; exact hk))
theorem Qr.nrow (h : Qr w0 w base p m v) : ¬ rowS m.OA p.r ∧ ¬ rowS m.DA p.r := by
  have := h.rb
  exact ⟨fun hi => by have := (h.out.rows _ hi).1; omega, fun hi => by have := (h.rdo.rows _ hi).1; omega⟩
/-- A field of the reader is written. -/
theorem Qr.put (h : Qr w0 w base p m v) {v' : QV} (hm : Mod (· = p.r) w w') (hB : Blk w' p.r 97 (qdC p m v')) (h1 : v'.g.tx = v.g.tx) (h2 : v'.g.sg = v.g.sg) (h3 : v'.rd = v.rd) (h4 : v'.g.fr = false → v'.g.sg ≠ [] ∨ v'.rd = []) (h5 : v'.d ≤ 65) : Qr w0 w' base p m v' := by
  have hE := hm.ext h.e0 (fun i hi => by subst hi; exact h.lor)
  refine ⟨hE, h.lor, h.rb, Nat.le_trans h.top hm.size, hB, ?_, ?_, by rw [h2]; exact h.len, fun j s x hs hx => ?_, by rw [h1]; exact h.tl, by rw [h2]; exact h.sl, by rw [h1]; exact h.b8, h4, fun i hi => Nat.lt_of_lt_of_le (h.tt i hi) hm.size, h5, by rw [h3]; exact h.rl⟩
  · rw [h3]; exact h.rdo.mod hm (fun i hi e => by subst e; exact h.nrow.2 hi)
  · rw [h2]; exact h.out.mod hm (fun i hi e => by subst e; exact h.nrow.1 hi)
  · rw [h2] at hs; exact (h.dgs j s x hs hx).keep hm (fun i hi => .inl (.inl (.inl hi)))
/-- Something else than the reader is written; what counts as such changes. -/
theorem Qr.modT {U T' : Nat → Prop} (h : Qr w0 w base p m v) (hm : Mod U w w') (hU : ∀ i, U i → m.T i) (hoff : ∀ i, U i → ¬ QS p m i) (hlo : ∀ i, U i → w0.heap.size ≤ i) (hT : ∀ i, T' i → m.T i ∨ w.heap.size ≤ i) (hlt : ∀ i, T' i → i < w'.heap.size) :
    Qr w0 w' base p { m with T := T' } v :=
  ⟨hm.ext h.e0 hlo, h.lor, h.rb, Nat.le_trans h.top hm.size, h.blk.mod hm (fun hu => hoff _ hu (.inl rfl)), h.rdo.mod hm (fun i hi hu => hoff _ hu (.inr (.inr hi))), h.out.mod hm (fun i hi hu => hoff _ hu (.inr (.inl hi))), h.len,
    fun j s x h1 h2 => (h.dgs j s x h1 h2).step (hm.mono (fun i hi => .inl (.inr (hU i hi)))) (fun i hi => hi.elim (fun hr => .inl (.inl hr)) (fun ht => (hT i ht).elim (fun h => .inl (.inr h)) .inr)),
    h.tl, h.sl, h.b8, h.nf, hlt, h.dl, h.rl⟩
end
/-- The reader has gone on. -/
def QTo (w0 w : World) (base : Nat) (p : QP) (m : QM) (v : QV) (w' : World) : Prop := ∃ m', m'.T = m.T ∧ Qr w0 w' base p m' v ∧ Mod (QS p m) w w' ∧ Moved w m.OA m'.OA ∧ Moved w m.DA m'.DA

/-- The first error stays. -/
def bad1 (b q : Pl) : Pl := if b.e = 0 then q else b
def badR {α : Type} (b : Pl) (f l : Int) : Except Int α → Pl
  | .ok _ => b
  | .error e => bad1 b ⟨e, f, l⟩
theorem load_blk2 {w : World} {g t : Nat} {cs : List Value} {j i : Nat} {v : Value} {K : Value → Prop} (h : Blk w g t cs) (hv : cs[j + i]? = some v) (k : K v) : Load w (((⟨g, 0, none⟩ : Addr).add j).add i) K := by
  rw [add_add]; exact load_blk h hv k
/-- A set whose branches lie in new memory. -/
def FrD (w : World) (x : DV) : Prop := ∀ ad, x.A = some ad → 0 < x.n → w.heap.size ≤ ad.block
section
variable {w0 : World} {base : Nat} {p : QP} {m : QM} {v : QV}
theorem rfail_fn (e f l : Int) (w : World) (h : Qr w0 w base p m v) :
    Fn Tryz.prog 92 [.pointer (some ⟨p.r, 0, none⟩), .int .i64 e, .int .i64 f, .int .i64 l] w (fun _ w' => Qr w0 w' base p m { v with b := bad1 v.b ⟨e, f, l⟩ } ∧ Mod (· = p.r) w w') := by
  refine fn_of_exec (c := { c92 with cuts := [] }) gx_ok Tryz.func92 rfl rfl rfl ?_
  refine load_blk2 h.blk rfl ?_
  refine wif_eq (fun c1 => ?_) (fun c1 => ?_)
  · refine storeN_blk h.blk (show 7 + 3 ≤ 10 by decide) (sc rfl) (fun w1 hg1 _ hB1 => ?_)
    have hm1 : Mod (· = p.r) w w1 := Mod.of_grown hg1 rfl
    have e1 : bad1 v.b ⟨e, f, l⟩ = ⟨e, f, l⟩ := if_pos c1
    rw [e1]
    exact ⟨h.put hm1 hB1 rfl rfl rfl h.nf h.dl, hm1⟩
  · have e1 : bad1 v.b ⟨e, f, l⟩ = v.b := if_neg c1
    rw [e1]
    exact ⟨h, Mod.refl _ _⟩

theorem rset_fn (s : List Nat) (f l : Int) (w : World) (hP : QPok w0 p) (h : Qr w0 w base p m v) (h8 : ∀ x ∈ s, x < 256) (hl : s.length ≤ 1000000000000) :
    Fn Tryz.prog 86 [.pointer (some ⟨p.r, 0, none⟩), .string (strOf s), .int .i64 f, .int .i64 l] w (fun u w' => ∃ (x : DV) (o : BF), u = dgV x.A x.n x.c x.r ∧ Qr w0 w' base p m { v with b := badR v.b f l (setE p.nm s) } ∧ Mod (· = p.r) w w' ∧ SB w' x.A x.n x.c x.nd ∧ Set1 p.nm.length x.nd x.r o ∧ FrD w x ∧ ∀ o', setE p.nm s = .ok o' → o = o') := by
  refine fn_of_exec (c := { c86 with cuts := [] }) gx_ok Tryz.func86 rfl rfl rfl ?_
  refine new (fun w1 hE1 hz1 hB1 => ?_)
  have h1 := h.ext hE1
  refine load_blk0 h1.blk rfl ?_
  refine call (rparse_fn p.nm p.NA p.nn p.nc s w1 (hP.nms.ext h1.e0) hP.nmb h8 hl) ?_
  rw [parse_T]
  have hse : setE p.nm s = match parseT p.nm s with
    | .ok t => .ok (evF t)
    | .error e => .error (if e = 2 then 2 else 71) := rfl
  have bad : ∀ e : Int, setE p.nm s = .error e → ∀ w2, Qr w0 w2 base p m { v with b := bad1 v.b ⟨e, f, l⟩ } → Mod (· = p.r) w w2 → Blk w2 w.heap.size 42 [.slice none 0 0, .int .i64 0] → ∃ (x : DV) (o : BF), dgV none 0 0 0 = dgV x.A x.n x.c x.r ∧ Qr w0 w2 base p m { v with b := badR v.b f l (setE p.nm s) } ∧ Mod (· = p.r) w w2 ∧ SB w2 x.A x.n x.c x.nd ∧ Set1 p.nm.length x.nd x.r o ∧ FrD w x ∧ ∀ o', setE p.nm s = .ok o' → o = o' := fun e he w2 h2 hm2 _ => by
    rw [he]
    exact ⟨⟨none, 0, 0, [], 0⟩, _, rfl, h2, hm2, SlS.nil w2, const_set _ false, (fun ad e => by cases e), fun o' ho => by cases ho⟩
  have npr : ¬ w.heap.size = p.r := fun e => by have := h.rb; have := h.top; omega
  cases hpt : parseT p.nm s with
  | ok t =>
    rw [hpt] at hse
    obtain ⟨k1, k2, k3⟩ := parseT_ok hpt
    rintro _ w2 ⟨G, mg, cG, rfl, hE2, hG⟩
    have hk := hP.nmk
    refine wif_eqf (show ¬ (0 : Int) = 2 by decide) ?_
    refine wif_nef rfl ?_
    refine call (rdiagram_fn G mg cG _ p.nm.length hk w2 hG (post_FV (k2.mono (by omega)) k3) (post_vars t _ 0 k2)) ?_
    rintro _ w3 ⟨D, md, cD, nd, r, rfl, hE3, hD, hS, hR⟩
    rw [treeOf_post] at hS
    refine new (fun w4 hE4 hz4 hB4 => ?_)
    refine storeN_blk0 hB4 rfl (sc rfl) (fun w5 hg5 _ hB5 => ?_)
    have hE35 : Ext w3 w5 := newBox hE4 hB4 hg5
    refine loadN_blk0 hB5 rfl ?_
    have hE15 := (hE2.trans hE3).trans hE35
    refine storeN_blk0 (hB1.ext hE15) rfl (sc rfl) (fun w6 hg6 _ hB6 => ?_)
    have hM6 : Mod (· = w.heap.size) w5 w6 := Mod.of_grown hg6 rfl
    refine loadN_blk0 hB6 rfl ?_
    have hE06 : Ext w w6 := hM6.ext (hE1.trans hE15) (fun i hi => by omega)
    rw [hse]
    have hz12 := hE2.size
    have hz01 := hE1.size
    exact ⟨⟨D, md, cD, nd, r⟩, _, rfl, h.ext hE06, Mod.of_ext _ hE06, SB.modo (hD.ext hE35) hM6 (fun ad e h0 hh => by have := hR ad e h0; omega), hS, fun ad e h0 => by have := hR ad e h0; omega, fun o' ho => by cases ho; rfl⟩
  | error e =>
    rw [hpt] at hse
    rintro _ w2 ⟨G, mg, cG, rfl, hE2, hG⟩
    have hE12 := hE1.trans hE2
    have h2 := h.ext hE12
    have hB2 := hB1.ext hE2
    have fin : ∀ (e2 : Int) w3, setE p.nm s = .error e2 → Qr w0 w3 base p m { v with b := bad1 v.b ⟨e2, f, l⟩ } → Mod (· = p.r) w2 w3 → ∀ w4, w3.grownBy w4 (some w.heap.size) → Blk w4 w.heap.size 42 [.slice none 0 0, .int .i64 0] → ∃ (x : DV) (o : BF), dgV none 0 0 0 = dgV x.A x.n x.c x.r ∧ Qr w0 w4 base p m { v with b := badR v.b f l (setE p.nm s) } ∧ Mod (· = p.r) w w4 ∧ SB w4 x.A x.n x.c x.nd ∧ Set1 p.nm.length x.nd x.r o ∧ FrD w x ∧ ∀ o', setE p.nm s = .ok o' → o = o' := fun e2 w3 he h3 hm3 w4 hg4 hB4 => by
      have hM4 : Mod (· = w.heap.size) w3 w4 := Mod.of_grown hg4 rfl
      have hm04 : Mod (· = p.r) w w4 := ((Mod.of_ext (· = p.r) hE12).trans hm3 (fun i hi => .inl hi)).trans hM4 (fun i hi => .inr (by omega))
      have hz := hm3.size
      have hnq : ∀ i, i = w.heap.size → ¬ QS p m i := fun i hi hq => by have := h.hi i hq; omega
      have hnt : ¬ m.T w.heap.size := fun hh => by have := h.tt _ hh; omega
      refine bad e2 he w4 ?_ hm04 hB4
      have hEE : Ext w0 w4 := hM4.ext h3.e0 (fun i hi => by have := h.e0.size; omega)
      exact ⟨hEE, h3.lor, h3.rb, Nat.le_trans h3.top hM4.size, h3.blk.mod hM4 (fun e => npr e.symm), h3.rdo.mod hM4 (fun i hi e => hnq i e (.inr (.inr hi))), h3.out.mod hM4 (fun i hi e => hnq i e (.inr (.inl hi))), h3.len,
        fun j s x q1 q2 => (h3.dgs j s x q1 q2).sb.modo hM4 (fun ad ea h0 hh => by
          have := SB.lt (h.dgs j s x q1 q2).sb ad ea h0
          omega) |> fun hsb => ⟨hsb, (h3.dgs j s x q1 q2).st, (h3.dgs j s x q1 q2).off⟩, h3.tl, h3.sl, h3.b8, h3.nf, fun i hi => Nat.lt_of_lt_of_le (h3.tt i hi) hM4.size, h3.dl, h3.rl⟩
    have hBm : ∀ w3, Mod (· = p.r) w2 w3 → Blk w3 w.heap.size 42 [.slice none 0 0, .int .i64 0] := fun w3 hm3 => hB2.mod hm3 npr
    rcases parseT_err hpt with rfl | rfl | rfl | rfl
    · refine wif_eqf (by decide) ?_
      refine wif_net (by decide) ?_
      refine call (rfail_fn 71 f l w2 h2) ?_
      rintro _ w3 ⟨h3, hm3⟩
      refine storeN_blk0 (hBm w3 hm3) rfl (sc rfl) (fun w4 hg4 _ hB4 => ?_)
      refine loadN_blk0 hB4 rfl ?_
      exact fin 71 w3 hse h3 hm3 w4 hg4 hB4
    · refine wif_eqt rfl ?_
      refine call (rfail_fn 2 f l w2 h2) ?_
      rintro _ w3 ⟨h3, hm3⟩
      refine storeN_blk0 (hBm w3 hm3) rfl (sc rfl) (fun w4 hg4 _ hB4 => ?_)
      refine loadN_blk0 hB4 rfl ?_
      exact fin 2 w3 hse h3 hm3 w4 hg4 hB4
    · refine wif_eqf (by decide) ?_
      refine wif_net (by decide) ?_
      refine call (rfail_fn 71 f l w2 h2) ?_
      rintro _ w3 ⟨h3, hm3⟩
      refine storeN_blk0 (hBm w3 hm3) rfl (sc rfl) (fun w4 hg4 _ hB4 => ?_)
      refine loadN_blk0 hB4 rfl ?_
      exact fin 71 w3 hse h3 hm3 w4 hg4 hB4
    · refine wif_eqf (by decide) ?_
      refine wif_net (by decide) ?_
      refine call (rfail_fn 71 f l w2 h2) ?_
      rintro _ w3 ⟨h3, hm3⟩
      refine storeN_blk0 (hBm w3 hm3) rfl (sc rfl) (fun w4 hg4 _ hB4 => ?_)
      refine loadN_blk0 hB4 rfl ?_
      exact fin 71 w3 hse h3 hm3 w4 hg4 hB4

theorem rdeeper_fn (f l : Int) (w : World) (h : Qr w0 w base p m v) (hd : v.d ≤ 64) :
    Fn Tryz.prog 87 [.pointer (some ⟨p.r, 0, none⟩), .int .i64 f, .int .i64 l] w (fun _ w' => Qr w0 w' base p m { v with d := v.d + 1, b := if v.d = 64 then bad1 v.b ⟨2, f, l⟩ else v.b } ∧ Mod (· = p.r) w w') := by
  refine fn_of_exec (c := { c87 with cuts := [] }) gx_ok Tryz.func87 rfl rfl rfl ?_
  refine load_blk h.blk rfl ?_
  refine wif_d (fun c1 => ?_) (fun c1 => ?_)
  · rw [if_pos (by omega)]
    refine call (rfail_fn 2 f l w h) ?_
    rintro _ w1 ⟨h1, hm1⟩
    refine load_blk h1.blk rfl ?_
    refine norm_i64_to ((v.d + 1 : Nat) : Int) (by show ((v.d : Nat) : Int) + 1 = _; omega) (by omega) ?_
    refine store_mod h1.blk (show 2 < 10 by decide) (fun w2 hM2 hB2 => ?_)
    exact ⟨h1.put hM2 hB2 rfl rfl rfl h1.nf (by show v.d + 1 ≤ 65; omega), hm1.trans hM2 (fun i hi => .inl hi)⟩
  · rw [if_neg (by omega)]
    refine load_blk h.blk rfl ?_
    refine norm_i64_to ((v.d + 1 : Nat) : Int) (by show ((v.d : Nat) : Int) + 1 = _; omega) (by omega) ?_
    refine store_mod h.blk (show 2 < 10 by decide) (fun w2 hM2 hB2 => ?_)
    exact ⟨h.put hM2 hB2 rfl rfl rfl h.nf (by show v.d + 1 ≤ 65; omega), hM2⟩

theorem rnumber_fn (s : List Nat) (w : World) (hP : QPok w0 p) (h : Qr w0 w base p m v) (h8 : ∀ x ∈ s, x < 256) :
    Fn Tryz.prog 50 [.pointer (some ⟨p.r, 0, none⟩), .string (strOf s)] w (fun u w' => u = .int .i64 (match ixN (p.fs.map (·.1)) s with | some n => (n : Int) | none => -1) ∧ w = w') := by
  have hfs := hP.fls.2
  have h256 := hP.fl6
  refine fn_of_exec (c := { c50 with cuts := [] }) gx_ok Tryz.func50 rfl rfl rfl ?_
  refine loop gx_ok [5] (fun i : Nat => [.int .i64 i]) (fun i w' => w = w' ∧ i ≤ p.fs.length ∧ s ∉ (p.fs.map (·.1)).take i) (fun i _ => p.fs.length - i) 0 rfl ⟨rfl, Nat.zero_le _, by simp⟩ ?_
  rintro i _ ⟨rfl, hi, hno⟩
  refine load_blk h.blk rfl ?_
  refine wif_d (fun c1 => ?_) (fun c1 => ?_)
  · have hil : i < p.fs.length := by omega
    have hx : p.fs[i]? = some p.fs[i] := List.getElem?_eq_getElem hil
    refine load_blk h.blk rfl ?_
    refine index_sls file_len (hP.fls.ext h.e0) rfl (by omega) (fun pp x hxx hc => ?_)
    obtain rfl : p.fs[i] = x := Option.some.inj (hx.symm.trans hxx)
    refine load (by have := hc 0 _ rfl; simpa [Addr.add] using this) ?_
    have hfok := hP.flb _ (List.getElem_mem hil)
    refine wif (fun d1 => ?_) (fun d1 => ?_)
    · rw [strOf_eq hfok.n8 h8] at d1
      have d1 := of_decide_eq_true d1
      have := ixR_at (p.fs.map (·.1)) i 0 none s hP.nd (by rw [List.getElem?_map, hx, ← d1]; rfl)
      rw [Nat.zero_add] at this
      have e : ixN (p.fs.map (·.1)) s = some i := this
      rw [e]
      exact ⟨rfl, rfl⟩
    · rw [strOf_eq hfok.n8 h8] at d1
      have d1 := of_decide_eq_false d1
      refine norm_i64_to ((i + 1 : Nat) : Int) (by show ((i : Nat) : Int) + 1 = _; omega) (by omega) ?_
      refine ⟨i + 1, rfl, ⟨rfl, by omega, ?_⟩, by show p.fs.length - (i + 1) < p.fs.length - i; omega⟩
      rw [List.take_add_one, List.getElem?_map, hx]
      simp only [Option.map_some, Option.toList_some, List.mem_append, List.mem_singleton, not_or]
      exact ⟨hno, fun e => d1 e.symm⟩
  · have hil : i = p.fs.length := by omega
    rw [hil, List.take_of_length_le (by simp)] at hno
    have e : ixN (p.fs.map (·.1)) s = none := ixR_no s _ 0 none hno
    rw [e]
    exact ⟨rfl, rfl⟩

theorem ropen_fn (n : Nat) (w : World) (h : Qr w0 w base p m v) :
    Fn Tryz.prog 127 [.pointer (some ⟨p.r, 0, none⟩), .int .i64 n] w (fun u w' => u = .bool (decide (n ∈ v.rd)) ∧ w = w') := by
  have hrl := h.rl
  refine fn_of_exec (c := { c127 with cuts := [] }) gx_ok Tryz.func127 rfl rfl rfl ?_
  refine loop gx_ok [5] (fun i : Nat => [.int .i64 i]) (fun i w' => w = w' ∧ i ≤ v.rd.length ∧ n ∉ v.rd.reverse.take i) (fun i _ => v.rd.length - i) 0 rfl ⟨rfl, Nat.zero_le _, by simp⟩ ?_
  rintro i _ ⟨rfl, hi, hno⟩
  refine load_blk h.blk rfl ?_
  refine wif_d (fun c1 => ?_) (fun c1 => ?_)
  · have hil : i < v.rd.length := by omega
    have hx : v.rd.reverse[i]? = some (v.rd.reverse[i]'(by simpa using hil)) := List.getElem?_eq_getElem _
    generalize v.rd.reverse[i]'(by simpa using hil) = y at hx
    refine load_blk h.blk rfl ?_
    refine index_sl h.rdo.sl hil (fun ad u hA hu hcell => ?_)
    rw [ixV_get hx] at hu
    cases hu
    refine load hcell ?_
    refine wif_eq (fun d1 => ?_) (fun d1 => ?_)
    · refine ⟨?_, rfl⟩
      have hy : y ∈ v.rd := by have := List.mem_of_getElem? hx; simpa using this
      rw [decide_eq_true (by rw [show n = y by omega]; exact hy)]
    · refine norm_i64_to ((i + 1 : Nat) : Int) (by show ((i : Nat) : Int) + 1 = _; omega) (by omega) ?_
      refine ⟨i + 1, rfl, ⟨rfl, by omega, ?_⟩, by show v.rd.length - (i + 1) < v.rd.length - i; omega⟩
      rw [List.take_add_one, hx]
      simp only [Option.toList_some, List.mem_append, List.mem_singleton, not_or]
      exact ⟨hno, fun e => d1 (by omega)⟩
  · have hil : i = v.rd.length := by omega
    rw [hil, List.take_of_length_le (by simp)] at hno
    exact ⟨by rw [decide_eq_false (by simpa using hno)], rfl⟩
end
end
end Go.Proofs.YtedopgkbajhanaaGreatDoor

namespace Go.Proofs.YtedopgkbajhanaaGreatDoor
section
open Go Go.RowKit

section
variable {w0 : World} {base : Nat} {p : QP}
/-- A segment was appended, and the reader's slice is set. -/
theorem Qr.app {m : QM} {v v' : QV} {w w1 w2 : World} (h : Qr w0 w base p m v) (s : Sg) (x : DV) {A' : Option Addr} {c' : Nat} (hm1 : Mod (rowS m.OA) w w1) (ho : Own w1 base 45 6 A' (v.g.sg.length + 1) c' (sgV v.g.sg m.L ++ sgC (s, x))) (hv : Moved w m.OA A') (hm2 : Mod (· = p.r) w1 w2)
    (hx : DgO w (TQ p m) p.nm.length x s.o) (hl : v.g.sg.length < 65536) (e1 : v'.g.tx = v.g.tx) (e2 : v'.g.sg = v.g.sg ++ [s]) (e3 : v'.rd = v.rd) (e4 : v'.d ≤ 65) (hB : Blk w2 p.r 97 (qdC p { m with OA := A', oc := c', L := m.L ++ [x] } v')) : Qr w0 w2 base p { m with OA := A', oc := c', L := m.L ++ [x] } v' := by
  have hrs := TQ.moved (p := p) (m := m) (m' := { m with OA := A', oc := c', L := m.L ++ [x] }) rfl hv (Moved.refl w m.DA)
  have hmm : Mod (QS p m) w w2 := (hm1.mono (S' := QS p m) (fun i hi => .inl (.inr (.inl hi)))).trans hm2 (fun i hi => .inl (.inl hi))
  have hpr : ∀ i, rowS A' i → ¬ i = p.r := fun i hi e => by subst e; have := (ho.rows _ hi).1; have := h.rb; omega
  have hsz := h.top
  have hz1 := hm1.size
  have hz2 := hm2.size
  refine ⟨hmm.ext h.e0 h.lo, h.lor, h.rb, by omega, hB, ?_, ?_, ?_, ?_, by rw [e1]; exact h.tl, ?_, by rw [e1]; exact h.b8, fun _ => .inl (by rw [e2]; simp), fun i hi => Nat.lt_of_lt_of_le (h.tt i hi) (by omega), e4, by rw [e3]; exact h.rl⟩
  · rw [e3]
    exact (h.rdo.mod hm1 (fun i hi hj => h.rdo.apart h.out (by decide) hi hj)).mod hm2 (fun i hi e => by subst e; exact h.nrow.2 hi)
  · rw [e2]
    have := ho.mod hm2 hpr
    rw [sgV_snoc h.len, List.length_append]; exact this
  · rw [e2]; show (m.L ++ [x]).length = _; rw [List.length_append, List.length_append, h.len]; rfl
  · rw [e2]
    intro j s1 x1 hs1 hx1
    have hx1 : (m.L ++ [x])[j]? = some x1 := hx1
    rcases app_cases hs1 with ⟨hj, hs1⟩ | ⟨hj, hs1⟩
    · rw [List.getElem?_append_left (by rw [h.len]; exact hj)] at hx1
      exact (h.dgs j s1 x1 hs1 hx1).step (hmm.mono (fun i hi => .inl (.inl hi))) hrs
    · rw [List.getElem?_append_right (by rw [h.len]; exact hj), h.len] at hx1
      obtain ⟨h0, rfl⟩ := one_cases hs1
      obtain ⟨_, rfl⟩ := one_cases hx1
      exact hx.step (hmm.mono (fun i hi => .inl (.inl hi))) hrs
  · rw [e2, List.length_append]; simp; omega

/-- What is known when a line of text was added. -/
def TxQ (w0 : World) (base : Nat) (p : QP) (m : QM) (v : QV) (s : List Nat) (fl at_ : Nat) (ln : Int) (o : BF) (w w' : World) : Prop := match addG s fl at_ o v.g with
  | some g' => QTo w0 w base p m { v with g := g' } w'
  | none => Qr w0 w' base p m { v with b := bad1 v.b ⟨2, fl, ln⟩ } ∧ Mod (· = p.r) w w'
set_option maxHeartbeats 1600000 in
theorem rtext_fn (m : QM) (v : QV) (s : List Nat) (fl at_ : Nat) (ln : Int) (k : DV) (o : BF) (w : World) (h : Qr w0 w base p m v) (hk : DgO w (TQ p m) p.nm.length k o) (h8 : ∀ x ∈ s, x < 256) (hsl : s.length ≤ 1048577) (hrdn : v.rd ≠ []) :
    Fn Tryz.prog 85 [.pointer (some ⟨p.r, 0, none⟩), .string (strOf s), dgV k.A k.n k.c k.r, .int .i64 fl, .int .i64 at_, .int .i64 ln] w (fun _ w' => TxQ w0 base p m v s fl at_ ln o w w') := by
  have hss := strOf_size s
  have htl := h.tl
  have hsl' := h.sl
  have htx := strOf_size v.g.tx
  refine fn_of_exec (c := { c85 with cuts := [2, 4] }) gx_ok Tryz.func85 rfl rfl rfl ?_
  refine new (fun w1 hE1 hz1 hB1 => ?_)
  have h1 := h.ext hE1
  have hk1 := hk.ext hE1
  refine load_blk2 h1.blk rfl ?_
  have err : addG s fl at_ o v.g = none → ∀ w2, Qr w0 w2 base p m { v with b := bad1 v.b ⟨2, fl, ln⟩ } → Mod (· = p.r) w1 w2 → TxQ w0 base p m v s fl at_ ln o w w2 := fun he w2 h2 hm2 => by
    unfold TxQ
    rw [he]
    exact ⟨h2, (Mod.of_ext (· = p.r) hE1).trans hm2 (fun i hi => .inl hi)⟩
  refine cut0In [] gx_ok (fun w2 => w1 = w2 ∧ ¬ (1048576 < v.g.tx.length + s.length ∨ (v.g.fr = true ∧ v.g.sg.length = 65536))) ?_ ?_
  · refine load_blk2 h1.blk rfl ?_
    refine norm_i64_to ((v.g.tx.length + s.length : Nat) : Int) (by rw [hss, htx]; omega) (by omega) ?_
    refine wif_d (fun c1 => ?_) (fun c1 => ?_)
    · refine call (rfail_fn 2 fl ln w1 h1) ?_
      rintro _ w2 ⟨h2, hm2⟩
      exact err (addG_none (.inl (by omega))) w2 h2 hm2
    refine load_blk h1.blk rfl ?_
    refine wif (fun f1 => ?_) (fun f1 => ?_)
    · refine wif_d (fun c2 => ?_) (fun c2 => ?_)
      · refine call (rfail_fn 2 fl ln w1 h1) ?_
        rintro _ w2 ⟨h2, hm2⟩
        exact err (addG_none (.inr ⟨f1, by omega⟩)) w2 h2 hm2
      · exact ⟨rfl, rfl, by omega⟩
    · exact ⟨rfl, rfl, by rw [f1]; intro hh; rcases hh with hh | ⟨hh, _⟩; omega; cases hh⟩
  rintro _ ⟨rfl, hbig⟩
  have hadd := addG_some (s := s) (fl := fl) (at_ := at_) (k := o) (g := v.g) hbig
  refine cutIn [] gx_ok [12] (fun n : Nat => [.int .i64 n]) (fun n w2 => QTo w0 w1 base p m { v with g := ⟨v.g.tx, if v.g.fr then v.g.sg ++ [⟨v.g.tx.length, 0, fl, at_, o⟩] else v.g.sg, v.g.fr⟩ } w2 ∧ n = (if v.g.fr then v.g.sg ++ [(⟨v.g.tx.length, 0, fl, at_, o⟩ : Sg)] else v.g.sg).length) ?_ ?_
  · refine load_blk h1.blk rfl ?_
    refine wif (fun f1 => ?_) (fun f1 => ?_)
    · have f1 : v.g.fr = true := f1
      have hsg : v.g.sg.length < 65536 := by
        rcases Nat.lt_or_ge v.g.sg.length 65536 with hh | hh
        · exact hh
        · exact absurd (Or.inr ⟨f1, by omega⟩) hbig
      have nrow := h1.nrow
      have nbox : ¬ rowS m.OA w.heap.size := fun hi => by have := (h.out.rows _ hi).2; omega
      refine draw_plan gx_ok (Mod (rowS m.OA) w1) 18 [(true, 0), (true, 1), (true, 2), (true, 3), (true, 4), (true, 5), (true, 6), (true, 7), (true, 8), (true, 9), (true, 10), (true, 11), (true, 12), (true, 13), (true, 14), (true, 15), (false, 16), (false, 17)] (by kernel_rfl) (Mod.of_ext _ (Ext.drew w1)) ?_
      have hd := Ext.drew w1
      refine qload (v := .slice m.OA v.g.sg.length m.oc) (fun w' hw' => by rw [add_add, (h1.blk.mod hw' nrow.1).cell]; rfl) ?_
      refine qload (v := .string (strOf v.g.tx)) (fun w' hw' => by rw [add_add, (h1.blk.mod hw' nrow.1).cell]; rfl) ?_
      refine qloadN (vs := k.cells) rfl (fun w' hw' j u hj => by rw [(hB1.mod hw' nbox).cell]; exact hj) ?_
      refine at_buildN gx_ok [[.int .i64 ((strOf v.g.tx).size : Nat), .int .i64 0, .int .i64 fl, .int .i64 at_, .slice k.A k.n k.c, .int .i64 k.r]] rfl rfl rfl rfl rfl ⟨rfl, rfl, ⟨⟩⟩ rfl (fun cs hh => by simp only [List.mem_singleton] at hh; subst hh; rfl) rfl (by decide) (by decide) ?_
      intro w3 hE3 hz3 hB3
      rw [htx] at hB3
      have hE13 := hd.trans hE3
      refine ⟨Mod.of_ext _ hE13, ?_⟩
      have h3 := h1.ext hE13
      have hs3 : Sl w3 6 (some ⟨w1.drew.heap.size, 0, none⟩) 1 1 (sgC (⟨v.g.tx.length, 0, fl, at_, o⟩, k)) := Sl.own (sz := 6) (n := 1) hB3 (Nat.le_refl _) (by decide) (by simp [sgC])
      refine at_app gx_ok rfl rfl rfl rfl rfl (by decide) rfl rfl ⟨_, rfl⟩ rfl rfl h3.out hs3 (sgC_scalar _) (by unfold maxLen; omega) (by show (v.g.sg.length + 1) * 64 ≤ _; omega) h3.top ?_
      intro A' c' w4 hm4 hown4 hmv4
      refine ⟨(Mod.of_ext (rowS m.OA) hE13).trans hm4 (fun i hi => .inl hi), ?_⟩
      show Store w4 (((⟨p.r, 0, none⟩ : Addr).add 4).add 1) _ _
      rw [add_add]
      refine store_mod (h3.blk.mod hm4 nrow.1) (show 5 < 10 by decide) (fun w5 hm5 hB5 => ?_)
      refine norm_i64_to ((v.g.sg.length + 1 : Nat) : Int) (by show ((v.g.sg.length : Nat) : Int) + 1 = _; omega) (by omega) ?_
      have hx3 : DgO w3 (TQ p m) p.nm.length k (⟨v.g.tx.length, 0, fl, at_, o⟩ : Sg).o := hk1.ext hE13
      rw [f1, if_pos rfl]
      refine ⟨v.g.sg.length + 1, rfl, ⟨{ m with OA := A', oc := c', L := m.L ++ [k] }, rfl, h3.app ⟨v.g.tx.length, 0, fl, at_, o⟩ k hm4 hown4 hmv4 hm5 hx3 hsg rfl rfl rfl h.dl ?_, ?_, hmv4.back hE13.size, Moved.refl _ _⟩, by simp⟩
      · have e : (v.g.sg ++ [(⟨v.g.tx.length, 0, fl, at_, o⟩ : Sg)]).length = v.g.sg.length + 1 := by simp
        show Blk w5 p.r 97 [.slice p.NA p.nn p.nc, .slice p.FA p.nf p.cf, .int .i64 v.d, .slice m.DA v.rd.length m.dc, .string (strOf v.g.tx), .slice A' (v.g.sg ++ [(⟨v.g.tx.length, 0, fl, at_, o⟩ : Sg)]).length c', .bool true, .int .i64 v.b.e, .int .i64 v.b.f, .int .i64 v.b.l]
        have hB5' : Blk w5 p.r 97 [.slice p.NA p.nn p.nc, .slice p.FA p.nf p.cf, .int .i64 v.d, .slice m.DA v.rd.length m.dc, .string (strOf v.g.tx), .slice A' (v.g.sg.length + 1) c', .bool v.g.fr, .int .i64 v.b.e, .int .i64 v.b.f, .int .i64 v.b.l] := hB5
        rw [e, ← f1]; exact hB5'
      · exact ((Mod.of_ext (QS p m) hE13).trans hm4 (fun i hi => .inl (.inr (.inl hi)))).trans hm5 (fun i hi => .inl (.inl hi))
    · have f1 : v.g.fr = false := f1
      have e : (⟨v.g.tx, if v.g.fr then v.g.sg ++ [⟨v.g.tx.length, 0, fl, at_, o⟩] else v.g.sg, v.g.fr⟩ : Gs) = v.g := by
        obtain ⟨d, rd, ⟨tx, sg, fr⟩, b⟩ := v
        simp only at f1
        subst f1
        rfl
      rw [e]
      exact ⟨v.g.sg.length, rfl, ⟨m, rfl, h1, Mod.refl _ _, Moved.refl _ _, Moved.refl _ _⟩, by rw [f1]; rfl⟩
  rintro n w2 ⟨⟨m2, hT2, h2, hm2, hv2, hu2⟩, hn⟩
  have hne : (if v.g.fr then v.g.sg ++ [(⟨v.g.tx.length, 0, fl, at_, o⟩ : Sg)] else v.g.sg) ≠ [] := by
    cases hf : v.g.fr with
    | true => rw [if_pos rfl]; simp
    | false => rw [if_neg (by decide)]; exact (h.nf hf).resolve_right hrdn
  generalize hsg2 : (if v.g.fr then v.g.sg ++ [(⟨v.g.tx.length, 0, fl, at_, o⟩ : Sg)] else v.g.sg) = sg2 at *
  have hl2 := h2.sl
  simp only at hl2
  subst hn
  obtain ⟨l', s0, L', x0, e1, e2, e3⟩ := last_split (l := sg2) h2.len hne
  have hn0 : 0 < sg2.length := List.length_pos_iff.2 hne
  obtain ⟨oa, hoa, _⟩ := h2.out.sl.at_ hn0
  have hoa : m2.OA = some oa := hoa
  refine store_mod h2.blk (show 6 < 10 by decide) (fun w3 hm3 hB3 => ?_)
  refine load_blk2 hB3 rfl ?_
  refine need_to (v' := .string (strOf (v.g.tx ++ s))) (by rw [hss, htx]; unfold maxLen; omega) (congrArg Value.string (strOf_append _ _)) ?_
  show Store w3 (((⟨p.r, 0, none⟩ : Addr).add 4).add 0) _ _
  rw [add_add]
  refine store_mod hB3 (show 4 < 10 by decide) (fun w4 hm4 hB4 => ?_)
  have hm24 : Mod (· = p.r) w2 w4 := hm3.trans hm4 (fun i hi => .inl hi)
  have nrow2 := h2.nrow
  have hout4 := h2.out.mod hm24 (fun i hi e => by subst e; exact nrow2.1 hi)
  have hd := Ext.drew w4
  have hB4' := hB4.ext hd
  have hst := strOf_size (v.g.tx ++ s)
  refine draw_tail gx_ok 15 (by kernel_rfl) ?_
  refine qload (v := .slice m2.OA sg2.length m2.oc) (fun w' hw' => by subst hw'; rw [add_add, hB4'.cell]; rfl) ?_
  refine norm_i64_to ((sg2.length - 1 : Nat) : Int) (by omega) (by omega) ?_
  refine qload (v := .string (strOf (v.g.tx ++ s))) (fun w' hw' => by subst hw'; rw [add_add, hB4'.cell]; rfl) ?_
  rw [hoa]
  refine index_n (j := sg2.length - 1) (by show sg2.length - 1 < sg2.length; omega) ?_
  have hout4' := hout4.ext hd
  rw [hoa] at hout4'
  have hle : sg2.length = l'.length + 1 := by rw [e1]; simp
  show Store _ ((oa.add ((sg2.length - 1) * 6)).add 1) _ _
  rw [add_add]
  refine store_ownN hout4' hn0 (by show (sg2.length - 1) * 6 + 1 < sg2.length * 6; omega) (fun w5 hm5 hout5 => ?_)
  rw [hst, List.length_append] at hout5
  have hcell : (sgV sg2 m2.L).set ((sg2.length - 1) * 6 + 1) (.int .i64 ((v.g.tx.length + s.length : Nat) : Int)) = sgV (setTo (v.g.tx.length + s.length) sg2) m2.L := by
    have e : (l' ++ [s0]).length - 1 = l'.length := by simp
    rw [e1, e2, setTo_snoc, e, sgV_setTo e3]
  rw [hcell] at hout5
  have hsl2 : (setTo (v.g.tx.length + s.length) sg2).length = sg2.length := by rw [e1, setTo_snoc]; simp
  have hm45 : Mod (rowS m2.OA) w4 w5 := by rw [hoa]; exact (Mod.of_ext _ hd).trans hm5 (fun i hi => .inl hi)
  have hall : Mod (QS p m2) w2 w5 := (hm24.mono (S' := QS p m2) (fun i hi => .inl (.inl hi))).trans hm45 (fun i hi => .inl (.inr (.inl hi)))
  have hz4 := hm24.size
  have hz5 := hm45.size
  have htop2 := h2.top
  unfold TxQ
  rw [hadd]
  refine ⟨m2, hT2, ⟨hall.ext h2.e0 h2.lo, h2.lor, h2.rb, by omega, ?_, ?_, ?_, ?_, ?_, ?_, ?_, ?_, fun _ => ?_, fun i hi => Nat.lt_of_lt_of_le (h2.tt i hi) (by omega), h2.dl, h2.rl⟩, ?_, ?_, ?_⟩
  all_goals try simp only
  · show Blk w5 p.r 97 [.slice p.NA p.nn p.nc, .slice p.FA p.nf p.cf, .int .i64 v.d, .slice m2.DA v.rd.length m2.dc, .string (strOf (v.g.tx ++ s)), .slice m2.OA (setTo (v.g.tx.length + s.length) sg2).length m2.oc, .bool false, .int .i64 v.b.e, .int .i64 v.b.f, .int .i64 v.b.l]
    rw [hsl2]
    exact hB4.mod hm45 nrow2.1
  · exact (h2.rdo.mod hm24 (fun i hi e => by subst e; exact nrow2.2 hi)).mod hm45 (fun i hi hj => h2.rdo.apart h2.out (by decide) hi hj)
  · rw [hsl2]; rw [← hoa] at hout5; exact hout5
  · rw [hsl2]; exact h2.len
  · intro j s1 x1 hs1 hx1
    have key : ∃ s2, sg2[j]? = some s2 ∧ s2.o = s1.o := by
      rw [e1, setTo_snoc] at hs1
      rw [e1]
      rcases app_cases hs1 with ⟨hj, hs1⟩ | ⟨hj, hs1⟩
      · exact ⟨s1, by rw [List.getElem?_append_left hj]; exact hs1, rfl⟩
      · obtain ⟨h0, rfl⟩ := one_cases hs1
        exact ⟨s0, by rw [List.getElem?_append_right hj, h0]; rfl, rfl⟩
    obtain ⟨s2, hs2, hse⟩ := key
    rw [← hse]
    exact (h2.dgs j s2 x1 hs2 hx1).keep (hall.mono (fun i hi => .inl (.inl hi))) (fun i hi => .inl hi)
  · rw [List.length_append]; omega
  · rw [hsl2]; exact hl2
  · exact b8_app h.b8 h8
  · exact .inl (by rw [← List.length_pos_iff, hsl2]; exact hn0)
  · exact (((Mod.of_ext (QS p m) hE1).trans hm2 (fun i hi => .inl hi)).trans hall (fun i hi => by
      rcases QS.moved (p := p) hv2 hu2 i hi with hh | hh
      · exact .inl hh
      · exact .inr (by have := hE1.size; omega)))
  · exact hv2.back hE1.size
  · exact hu2.back hE1.size
end
end
end Go.Proofs.YtedopgkbajhanaaGreatDoor

namespace Go.Proofs.YtedopgkbajhanaaGreatDoor
section
open Go Go.RowKit

/-- A box of the call's own is written. -/
theorem Qr.aside {w0 w w1 w2 : World} {base : Nat} {p : QP} {m : QM} {v0 v : QV} {g : Nat} (h0 : Qr w0 w base p m v0) (h : Qr w0 w1 base p m v) (e : v.g.sg = v0.g.sg) (hm : Mod (· = g) w1 w2) (hg : w.heap.size ≤ g) : Qr w0 w2 base p m v := by
  have hnq : ∀ i, i = g → ¬ QS p m i := fun i hi hq => by have := h0.hi i hq; omega
  refine ⟨hm.ext h.e0 (fun i hi => by have := h0.e0.size; omega), h.lor, h.rb, Nat.le_trans h.top hm.size, h.blk.mod hm (fun hh => hnq _ hh (.inl rfl)), h.rdo.mod hm (fun i hi e => hnq i e (.inr (.inr hi))), h.out.mod hm (fun i hi e => hnq i e (.inr (.inl hi))), h.len, fun j s x q1 q2 => ?_, h.tl, h.sl, h.b8, h.nf, fun i hi => Nat.lt_of_lt_of_le (h.tt i hi) hm.size, h.dl, h.rl⟩
  have hd := h.dgs j s x q1 q2
  rw [e] at q1
  refine ⟨hd.sb.modo hm (fun ad ea h1 hh => ?_), hd.st, hd.off⟩
  have := SB.lt (h0.dgs j s x q1 q2).sb ad ea h1
  omega
/-- The open sections behind a directive, in a row of their own, and the condition. -/
structure BrR (w0 : World) (base : Nat) (p : QP) (m : QM) (v' : QV) (w : World) (z : List SeV) (A : Option Addr) (c : Nat) (w' : World) : Prop where
  rr : Qr w0 w' base p m v'
  md : Mod (· = p.r) w w'
  ow : Own w' base 148 6 A z.length c (seV z)
  nw : ∀ i, rowS A i → w.heap.size ≤ i
section
variable {w0 : World} {base : Nat} {p : QP} {m : QM} {v : QV}
theorem rbranch_nil (s : List Nat) (A : Option Addr) (c : Nat) (fl : Nat) (ln : Int) (w : World) (h : Qr w0 w base p m v) :
    Fn Tryz.prog 91 [.pointer (some ⟨p.r, 0, none⟩), .string (strOf s), .slice A 0 c, .int .i64 fl, .int .i64 ln] w (fun u w' => u = .tuple #[.slice A 0 c, dgV none 0 0 0] ∧ Qr w0 w' base p m { v with b := bad1 v.b ⟨72, fl, ln⟩ } ∧ Mod (· = p.r) w w') := by
  refine fn_of_exec (c := { c91 with cuts := [] }) gx_ok Tryz.func91 rfl rfl rfl ?_
  refine new (fun w1 hE1 hz1 hB1 => ?_)
  have h1 := h.ext hE1
  refine wif_eqt rfl ?_
  refine call (rfail_fn 72 fl ln w1 h1) ?_
  rintro _ w2 ⟨h2, hm2⟩
  have npr : ¬ w.heap.size = p.r := fun e => by have := h.rb; have := h.top; omega
  refine storeN_blk0 (hB1.mod hm2 npr) rfl (sc rfl) (fun w3 hg3 _ hB3 => ?_)
  have hM3 : Mod (· = w.heap.size) w2 w3 := Mod.of_grown hg3 rfl
  refine loadN_blk0 hB3 rfl ?_
  exact ⟨rfl, h.aside h2 rfl hM3 (Nat.le_refl _), ((Mod.of_ext (· = p.r) hE1).trans hm2 (fun i hi => .inl hi)).trans hM3 (fun i hi => .inr (by omega))⟩

theorem rbranch_end  (z : List SeV) (x : SeV) (A : Option Addr) (c : Nat) (fl : Nat) (ln : Int) (w : World) (h : Qr w0 w base p m v) (how : Own w base 148 6 A (z.length + 1) c (seV z ++ x.cells)) (hzl : z.length ≤ 64) (hd : 1 ≤ v.d) :
    Fn Tryz.prog 91 [.pointer (some ⟨p.r, 0, none⟩), .string (strOf lEnd), .slice A (z.length + 1) c, .int .i64 fl, .int .i64 ln] w (fun u w' => ∃ A', A' = A ∧ u = .tuple #[.slice A z.length c, dgV x.x.A x.x.n x.x.c x.x.r] ∧ Qr w0 w' base p m { v with d := v.d - 1 } ∧ Mod (· = p.r) w w') := by
  refine fn_of_exec (c := { c91 with cuts := [] }) gx_ok Tryz.func91 rfl rfl rfl ?_
  have npr : ¬ w.heap.size = p.r := fun e => by have := h.rb; have := h.top; omega
  refine new (fun w1 hE1 hz1 hB1 => ?_)
  refine wif_eqf (by omega) ?_
  have how1 := how.ext hE1
  obtain ⟨oa, hoa, hcell⟩ := how1.sl.at_ (by omega : 0 < z.length + 1)
  have hpl := seV_len z
  refine norm_i64_to ((z.length : Nat) : Int) (by omega) (by omega) ?_
  rw [hoa]
  refine index_n (j := z.length) (by omega) ?_
  rw [show z.length * 6 = (seV z).length from hpl.symm]
  refine loadN_at (vs := x.cells) rfl (fun i u hi => ?_) ?_
  · rw [add_add]
    exact hcell _ u (pre_get hi)
  refine new (fun w2 hE2 hz2 hB2 => ?_)
  refine storeN_blk0 hB2 rfl (sc rfl) (fun w3 hg3 _ hB3 => ?_)
  have hE13 : Ext w1 w3 := newBox hE2 hB2 hg3
  have hz13 := hE13.size
  refine norm_i64_to ((z.length : Nat) : Int) (by omega) (by omega) ?_
  have hcl := how1.sl.le
  refine at_slice_h (h := z.length) gx_ok rfl rfl rfl rfl rfl rfl (by omega) ?_
  have h3 := (h.ext hE1).ext hE13
  have hB13 := hB1.ext hE13
  have how3 := how1.ext hE13
  refine wif_t rfl ?_
  refine load_blk h3.blk rfl ?_
  have hdl := h.dl
  refine norm_i64_to ((v.d - 1 : Nat) : Int) (by omega) (by omega) ?_
  refine store_mod h3.blk (show 2 < 10 by decide) (fun w4 hm4 hB4 => ?_)
  have h4 : Qr w0 w4 base p m { v with d := v.d - 1 } := h3.put hm4 hB4 rfl rfl rfl h3.nf (by show v.d - 1 ≤ 65; omega)
  have n1r : ¬ w1.heap.size = p.r := fun e => by have := h.rb; have := h.top; omega
  have hB34 := hB3.mod hm4 n1r
  have hB14 := hB13.mod hm4 npr
  have hd4 := Ext.drew w4
  refine draw_plan gx_ok (Mod (· = w.heap.size) w4) 5 [(true, 0), (true, 1), (true, 2), (true, 3), (false, 4)] (by kernel_rfl) (Mod.of_ext _ hd4) ?_
  refine qloadN (vs := x.x.cells) rfl (fun w' hw' j u hj => by
    rw [add_add, (hB34.mod hw' (by omega)).cell]
    match j, hj with
    | 0, hj => exact hj
    | 1, hj => exact hj) ?_
  refine storeN_blk0 (hB14.ext hd4) rfl (sc rfl) (fun w5 hg5 _ hB5 => ?_)
  have hM5 : Mod (· = w.heap.size) w4.drew w5 := Mod.of_grown hg5 rfl
  have hM45 : Mod (· = w.heap.size) w4 w5 := (Mod.of_ext _ hd4).trans hM5 (fun i hi => .inl hi)
  refine ⟨hM45, ?_⟩
  refine loadN_blk0 hB5 rfl ?_
  rw [← hoa]
  exact ⟨A, rfl, rfl, h.aside h4 rfl hM45 (Nat.le_refl _), (((Mod.of_ext (· = p.r) (hE1.trans hE13))).trans hm4 (fun i hi => .inl hi)).trans hM45 (fun i hi => .inr (by omega))⟩

theorem rbranch_dup (s : List Nat) (z : List SeV) (x : SeV) (A : Option Addr) (c : Nat) (fl : Nat) (ln : Int) (w : World) (h8 : ∀ b ∈ s, b < 256) (hs : s ≠ lEnd) (ht : x.s.ot = true) (h : Qr w0 w base p m v) (how : Own w base 148 6 A (z.length + 1) c (seV z ++ x.cells)) (hzl : z.length ≤ 64) :
    Fn Tryz.prog 91 [.pointer (some ⟨p.r, 0, none⟩), .string (strOf s), .slice A (z.length + 1) c, .int .i64 fl, .int .i64 ln] w (fun u w' => u = .tuple #[.slice A (z.length + 1) c, dgV none 0 0 0] ∧ Qr w0 w' base p m { v with b := bad1 v.b ⟨71, fl, ln⟩ } ∧ Mod (· = p.r) w w') := by
  refine fn_of_exec (c := { c91 with cuts := [] }) gx_ok Tryz.func91 rfl rfl rfl ?_
  have npr : ¬ w.heap.size = p.r := fun e => by have := h.rb; have := h.top; omega
  refine new (fun w1 hE1 hz1 hB1 => ?_)
  refine wif_eqf (by omega) ?_
  have how1 := how.ext hE1
  obtain ⟨oa, hoa, hcell⟩ := how1.sl.at_ (by omega : 0 < z.length + 1)
  have hpl := seV_len z
  refine norm_i64_to ((z.length : Nat) : Int) (by omega) (by omega) ?_
  rw [hoa]
  refine index_n (j := z.length) (by omega) ?_
  rw [show z.length * 6 = (seV z).length from hpl.symm]
  refine loadN_at (vs := x.cells) rfl (fun i u hi => ?_) ?_
  · rw [add_add]
    exact hcell _ u (pre_get hi)
  refine new (fun w2 hE2 hz2 hB2 => ?_)
  refine storeN_blk0 hB2 rfl (sc rfl) (fun w3 hg3 _ hB3 => ?_)
  have hE13 : Ext w1 w3 := newBox hE2 hB2 hg3
  have hz13 := hE13.size
  refine norm_i64_to ((z.length : Nat) : Int) (by omega) (by omega) ?_
  have hcl := how1.sl.le
  refine at_slice_h (h := z.length) gx_ok rfl rfl rfl rfl rfl rfl (by omega) ?_
  have h3 := (h.ext hE1).ext hE13
  have hB13 := hB1.ext hE13
  have how3 := how1.ext hE13
  refine wif_f (by show decide (strOf s = strOf lEnd) = false; rw [strOf_eq h8 (by decide)]; exact decide_eq_false hs) ?_
  refine load_blk hB3 rfl ?_
  refine wif_t ht ?_
  refine call (rfail_fn 71 fl ln w3 h3) ?_
  rintro _ w4 ⟨h4, hm4⟩
  refine storeN_blk0 (hB13.mod hm4 npr) rfl (sc rfl) (fun w5 hg5 _ hB5 => ?_)
  have hM5 : Mod (· = w.heap.size) w4 w5 := Mod.of_grown hg5 rfl
  refine loadN_blk0 hB5 rfl ?_
  rw [← hoa]
  exact ⟨rfl, h.aside h4 rfl hM5 (Nat.le_refl _), ((Mod.of_ext (· = p.r) (hE1.trans hE13)).trans hm4 (fun i hi => .inl hi)).trans hM5 (fun i hi => .inr (by omega))⟩

theorem rbranch_else  (z : List SeV) (x : SeV) (A : Option Addr) (c : Nat) (fl : Nat) (ln : Int) (w : World) (ht : x.s.ot = false) (h : Qr w0 w base p m v) (how : Own w base 148 6 A (z.length + 1) c (seV z ++ x.cells)) (hzl : z.length ≤ 64) :
    Fn Tryz.prog 91 [.pointer (some ⟨p.r, 0, none⟩), .string (strOf lElse), .slice A (z.length + 1) c, .int .i64 fl, .int .i64 ln] w (fun u w' => ∃ A' c', u = .tuple #[.slice A' (z.length + 1) c', dgV x.y.A x.y.n x.y.c x.y.r] ∧ BrR w0 base p m v w (z ++ [⟨{ x.s with ot := true }, x.x, x.y⟩]) A' c' w') := by
  refine fn_of_exec (c := { c91 with cuts := [] }) gx_ok Tryz.func91 rfl rfl rfl ?_
  have npr : ¬ w.heap.size = p.r := fun e => by have := h.rb; have := h.top; omega
  refine new (fun w1 hE1 hz1 hB1 => ?_)
  refine wif_eqf (by omega) ?_
  have how1 := how.ext hE1
  obtain ⟨oa, hoa, hcell⟩ := how1.sl.at_ (by omega : 0 < z.length + 1)
  have hpl := seV_len z
  refine norm_i64_to ((z.length : Nat) : Int) (by omega) (by omega) ?_
  rw [hoa]
  refine index_n (j := z.length) (by omega) ?_
  rw [show z.length * 6 = (seV z).length from hpl.symm]
  refine loadN_at (vs := x.cells) rfl (fun i u hi => ?_) ?_
  · rw [add_add]
    exact hcell _ u (pre_get hi)
  refine new (fun w2 hE2 hz2 hB2 => ?_)
  refine storeN_blk0 hB2 rfl (sc rfl) (fun w3 hg3 _ hB3 => ?_)
  have hE13 : Ext w1 w3 := newBox hE2 hB2 hg3
  have hz13 := hE13.size
  refine norm_i64_to ((z.length : Nat) : Int) (by omega) (by omega) ?_
  have hcl := how1.sl.le
  refine at_slice_h (h := z.length) gx_ok rfl rfl rfl rfl rfl rfl (by omega) ?_
  have h3 := (h.ext hE1).ext hE13
  have hB13 := hB1.ext hE13
  have how3 := how1.ext hE13
  refine wif_f rfl ?_
  refine load_blk hB3 rfl ?_
  refine wif_f ht ?_
  refine loadN_at (vs := x.y.cells) rfl (fun j u hj => by
    rw [add_add, hB3.cell]
    match j, hj with
    | 0, hj => exact hj
    | 1, hj => exact hj) ?_
  refine new (fun w4 hE4 hz4 hB4 => ?_)
  refine storeN_blk0 hB4 rfl (sc rfl) (fun w5 hg5 _ hB5 => ?_)
  have hE35 : Ext w3 w5 := newBox hE4 hB4 hg5
  refine wif_t rfl ?_
  refine store_mod (hB3.ext hE35) (show 4 < 6 by decide) (fun wA hmA hBA2 => ?_)
  have hE05 := (hE1.trans hE13).trans hE35
  have hE0A : Ext w wA := hmA.ext hE05 (fun i hi => by omega)
  have hz35 := hE35.size
  have hBA1 := (hB13.ext hE35).mod hmA (by omega)
  have hBA3 := hB5.mod hmA (by omega)
  have howA := how.ext hE0A
  let zn : SeV := ⟨{ x.s with ot := true }, x.x, x.y⟩
  let cd : DV := x.y
  have hBA2 : Blk wA w1.heap.size 148 zn.cells := hBA2
  have fin : ∀ (A2 : Option Addr) (c2 : Nat) (wE wF : World), Ext wA wE → Own wE wA.heap.size 148 6 A2 (z.length + 1) c2 (seV z ++ zn.cells) → Mod (· = w.heap.size) wE wF → ∃ A' c', (Value.tuple #[.slice A2 (z.length + 1) c2, dgV x.y.A x.y.n x.y.c x.y.r] : Value) = .tuple #[.slice A' (z.length + 1) c', dgV x.y.A x.y.n x.y.c x.y.r] ∧ BrR w0 base p m v w (z ++ [⟨{ x.s with ot := true }, x.x, x.y⟩]) A' c' wF := fun A2 c2 wE wF hEE r2 hMF => by
    have hz0A := hE0A.size
    have htop := h.top
    refine ⟨A2, c2, rfl, h.aside (h.ext (hE0A.trans hEE)) rfl hMF (Nat.le_refl _), (Mod.of_ext (· = p.r) (hE0A.trans hEE)).trans hMF (fun i hi => .inr (by omega)), ?_, fun i hi => by have := (r2.rows i hi).1; omega⟩
    rw [List.length_append, seV_snoc]
    exact (r2.mod hMF (fun i hi e => by have := (r2.rows i hi).1; have := hmA.size; omega)).up (by omega)
  have hdA := Ext.drew wA
  have hOut : Sl wA 6 (some oa) z.length c (seV z) := by
    have := (howA.take (k := z.length) (by omega)).sl
    rw [List.take_left' (by rw [hpl]), hoa] at this
    exact this
  refine draw_tree gx_ok (Ext wA) 8 (.quiet 1 (.quiet 3 (.quiet 6 (.fork 0 (.fork 2 (.fork 4 (.fork 5 (.quiet 7 .done) .skip) .skip) (.fork 4 (.fork 2 (.fork 5 (.quiet 7 .done) .skip) .skip) .skip)) (.fork 4 (.fork 0 (.fork 2 (.fork 5 (.quiet 7 .done) .skip) .skip) .skip) .skip))))) (by kernel_rfl) hdA ?_
  refine qloadN (vs := zn.cells) rfl (fun w' hw' j u hj => by rw [(hBA2.ext hw').cell]; exact hj) ?_
  refine qloadN (vs := cd.cells) rfl (fun w' hw' j u hj => by rw [(hBA3.ext hw').cell]; exact hj) ?_
  refine ⟨?_, ?_⟩
  · refine at_buildN gx_ok [] rfl rfl rfl rfl rfl ⟨⟩ rfl (fun cs hh => by cases hh) rfl (by decide) (by decide) ?_
    intro wB hEB hzB hBB
    have hEAB := hdA.trans hEB
    refine ⟨hEAB, ?_⟩
    have r0 : Own wB wA.heap.size 148 6 (some ⟨wA.drew.heap.size, 0, none⟩) 0 0 (seV []) := Own.empty hBB (hdA).size
    refine ⟨?_, ?_⟩
    · refine at_app (n := 0) gx_ok rfl rfl rfl rfl rfl (by decide) rfl rfl ⟨_, rfl⟩ rfl rfl (r0) (hOut.ext hEAB) (scalar_flat sev_scalar _) (by unfold maxLen; omega) (by show (0 + z.length) * 80 ≤ _; omega) (hEAB).size ?_
      intro A1 c1 wD hmD r1 hvD
      have hEAD : Ext wA wD := hmD.ext (hEAB) (fun i hi => (Own.rows (r0) i hi).1)
      refine ⟨hEAD, ?_⟩
      refine ⟨?_, trivial⟩
      refine at_buildN gx_ok [zn.cells] rfl rfl rfl rfl rfl ⟨rfl, rfl, ⟨⟩⟩ rfl (fun cs hh => by simp only [List.mem_singleton] at hh; subst hh; rfl) rfl (by decide) (by decide) ?_
      intro wC hEC hzC hBC
      have hEAC := hEAD.trans hEC
      refine ⟨hEAC, ?_⟩
      have hs1 : Sl wC 6 (some ⟨wD.heap.size, 0, none⟩) 1 1 zn.cells := Sl.own (sz := 6) (n := 1) hBC (Nat.le_refl _) (by decide) (by simp [SeV.cells])
      refine ⟨?_, trivial⟩
      refine at_app (n := 0 + z.length) gx_ok rfl rfl rfl rfl rfl (by decide) rfl rfl ⟨_, rfl⟩ rfl rfl (r1.ext hEC) hs1 (sev_scalar zn) (by unfold maxLen; omega) (by show (0 + z.length + 1) * 80 ≤ _; omega) (hEAC).size ?_
      intro A2 c2 wE hmE r2 hvE
      have hEAE : Ext wA wE := hmE.ext (hEAC) (fun i hi => (Own.rows (r1.ext hEC) i hi).1)
      refine ⟨hEAE, ?_⟩
      refine storeN_blk0 (hBA1.ext hEAE) rfl (sc rfl) (fun wF hgF _ hBF => ?_)
      have hMF : Mod (· = w.heap.size) wE wF := Mod.of_grown hgF rfl
      refine loadN_blk0 hBF rfl ?_
      rw [show 0 + z.length + 1 = z.length + 1 by omega] at r2 ⊢
      exact fin A2 c2 wE wF hEAE r2 hMF
    · refine ⟨?_, trivial⟩
      refine at_buildN gx_ok [zn.cells] rfl rfl rfl rfl rfl ⟨rfl, rfl, ⟨⟩⟩ rfl (fun cs hh => by simp only [List.mem_singleton] at hh; subst hh; rfl) rfl (by decide) (by decide) ?_
      intro wC hEC hzC hBC
      have hEAC := hEAB.trans hEC
      refine ⟨hEAC, ?_⟩
      have hs1 : Sl wC 6 (some ⟨wB.heap.size, 0, none⟩) 1 1 zn.cells := Sl.own (sz := 6) (n := 1) hBC (Nat.le_refl _) (by decide) (by simp [SeV.cells])
      refine ⟨?_, trivial⟩
      refine at_app (n := 0) gx_ok rfl rfl rfl rfl rfl (by decide) rfl rfl ⟨_, rfl⟩ rfl rfl (r0.ext (hEC)) (hOut.ext hEAC) (scalar_flat sev_scalar _) (by unfold maxLen; omega) (by show (0 + z.length) * 80 ≤ _; omega) (hEAC).size ?_
      intro A1 c1 wD hmD r1 hvD
      have hEAD : Ext wA wD := hmD.ext (hEAC) (fun i hi => (Own.rows (r0.ext (hEC)) i hi).1)
      refine ⟨hEAD, ?_⟩
      refine ⟨?_, trivial⟩
      refine at_app (n := 0 + z.length) gx_ok rfl rfl rfl rfl rfl (by decide) rfl rfl ⟨_, rfl⟩ rfl rfl (r1) (hs1.modS hmD (fun _ i hi hj => by obtain ⟨a1, q1, rfl⟩ := hi; obtain ⟨a2, q2, q3⟩ := hj; cases q1; cases q2; simp only at q3; omega)) (sev_scalar zn) (by unfold maxLen; omega) (by show (0 + z.length + 1) * 80 ≤ _; omega) (hEAD).size ?_
      intro A2 c2 wE hmE r2 hvE
      have hEAE : Ext wA wE := hmE.ext (hEAD) (fun i hi => (Own.rows (r1) i hi).1)
      refine ⟨hEAE, ?_⟩
      refine storeN_blk0 (hBA1.ext hEAE) rfl (sc rfl) (fun wF hgF _ hBF => ?_)
      have hMF : Mod (· = w.heap.size) wE wF := Mod.of_grown hgF rfl
      refine loadN_blk0 hBF rfl ?_
      rw [show 0 + z.length + 1 = z.length + 1 by omega] at r2 ⊢
      exact fin A2 c2 wE wF hEAE r2 hMF
  · refine ⟨?_, trivial⟩
    refine at_buildN gx_ok [zn.cells] rfl rfl rfl rfl rfl ⟨rfl, rfl, ⟨⟩⟩ rfl (fun cs hh => by simp only [List.mem_singleton] at hh; subst hh; rfl) rfl (by decide) (by decide) ?_
    intro wC hEC hzC hBC
    have hEAC := hdA.trans hEC
    refine ⟨hEAC, ?_⟩
    have hs1 : Sl wC 6 (some ⟨wA.drew.heap.size, 0, none⟩) 1 1 zn.cells := Sl.own (sz := 6) (n := 1) hBC (Nat.le_refl _) (by decide) (by simp [SeV.cells])
    refine ⟨?_, trivial⟩
    refine at_buildN gx_ok [] rfl rfl rfl rfl rfl ⟨⟩ rfl (fun cs hh => by cases hh) rfl (by decide) (by decide) ?_
    intro wB hEB hzB hBB
    have hEAB := hEAC.trans hEB
    refine ⟨hEAB, ?_⟩
    have r0 : Own wB wA.heap.size 148 6 (some ⟨wC.heap.size, 0, none⟩) 0 0 (seV []) := Own.empty hBB (hEAC).size
    refine ⟨?_, trivial⟩
    refine at_app (n := 0) gx_ok rfl rfl rfl rfl rfl (by decide) rfl rfl ⟨_, rfl⟩ rfl rfl (r0) (hOut.ext hEAB) (scalar_flat sev_scalar _) (by unfold maxLen; omega) (by show (0 + z.length) * 80 ≤ _; omega) (hEAB).size ?_
    intro A1 c1 wD hmD r1 hvD
    have hEAD : Ext wA wD := hmD.ext (hEAB) (fun i hi => (Own.rows (r0) i hi).1)
    refine ⟨hEAD, ?_⟩
    refine ⟨?_, trivial⟩
    refine at_app (n := 0 + z.length) gx_ok rfl rfl rfl rfl rfl (by decide) rfl rfl ⟨_, rfl⟩ rfl rfl (r1) ((hs1.ext hEB).modS hmD (fun _ i hi hj => by obtain ⟨a1, q1, rfl⟩ := hi; obtain ⟨a2, q2, q3⟩ := hj; cases q1; cases q2; simp only at q3; omega)) (sev_scalar zn) (by unfold maxLen; omega) (by show (0 + z.length + 1) * 80 ≤ _; omega) (hEAD).size ?_
    intro A2 c2 wE hmE r2 hvE
    have hEAE : Ext wA wE := hmE.ext (hEAD) (fun i hi => (Own.rows (r1) i hi).1)
    refine ⟨hEAE, ?_⟩
    refine storeN_blk0 (hBA1.ext hEAE) rfl (sc rfl) (fun wF hgF _ hBF => ?_)
    have hMF : Mod (· = w.heap.size) wE wF := Mod.of_grown hgF rfl
    refine loadN_blk0 hBF rfl ?_
    rw [show 0 + z.length + 1 = z.length + 1 by omega] at r2 ⊢
    exact fin A2 c2 wE wF hEAE r2 hMF

theorem rbranch_elif (F : List Nat) (z : List SeV) (x : SeV) (A : Option Addr) (c : Nat) (fl : Nat) (ln : Int) (w : World) (hP : QPok w0 p) (h8 : ∀ b ∈ F, b < 256) (hFl : F.length ≤ 1000000000) (ht : x.s.ot = false) (h : Qr w0 w base p m v) (how : Own w base 148 6 A (z.length + 1) c (seV z ++ x.cells)) (hzl : z.length ≤ 64) (hy : DgO w (TQ p m) p.nm.length x.y x.s.re) (hap : ∀ i, rowS A i → ¬ i = p.r) :
    Fn Tryz.prog 91 [.pointer (some ⟨p.r, 0, none⟩), .string (strOf (pElif ++ F)), .slice A (z.length + 1) c, .int .i64 fl, .int .i64 ln] w (fun u w' => ∃ (A' : Option Addr) (c' : Nat) (o : BF) (b d : DV), (∀ i, rowS A' i → (∀ ad, b.A = some ad → 0 < b.n → ad.block < i) ∧ ∀ ad, d.A = some ad → 0 < d.n → ad.block < i) ∧ u = .tuple #[.slice A' (z.length + 1) c', dgV b.A b.n b.c b.r] ∧ (∀ o', setE p.nm F = .ok o' → o = o') ∧ SB w' b.A b.n b.c b.nd ∧ Set1 p.nm.length b.nd b.r (bAnd x.s.re o) ∧ FrD w b ∧ SB w' d.A d.n d.c d.nd ∧ Set1 p.nm.length d.nd d.r (bSub x.s.re o) ∧ FrD w d ∧ BrR w0 base p m { v with b := badR v.b fl ln (setE p.nm F) } w (z ++ [⟨{ x.s with re := bSub x.s.re o }, x.x, d⟩]) A' c' w') := by
  refine fn_of_exec (c := { c91 with cuts := [] }) gx_ok Tryz.func91 rfl rfl rfl ?_
  have npr : ¬ w.heap.size = p.r := fun e => by have := h.rb; have := h.top; omega
  refine new (fun w1 hE1 hz1 hB1 => ?_)
  refine wif_eqf (by omega) ?_
  have how1 := how.ext hE1
  obtain ⟨oa, hoa, hcell⟩ := how1.sl.at_ (by omega : 0 < z.length + 1)
  have hpl := seV_len z
  refine norm_i64_to ((z.length : Nat) : Int) (by omega) (by omega) ?_
  rw [hoa]
  refine index_n (j := z.length) (by omega) ?_
  rw [show z.length * 6 = (seV z).length from hpl.symm]
  refine loadN_at (vs := x.cells) rfl (fun i u hi => ?_) ?_
  · rw [add_add]
    exact hcell _ u (pre_get hi)
  refine new (fun w2 hE2 hz2 hB2 => ?_)
  refine storeN_blk0 hB2 rfl (sc rfl) (fun w3 hg3 _ hB3 => ?_)
  have hE13 : Ext w1 w3 := newBox hE2 hB2 hg3
  have hz13 := hE13.size
  refine norm_i64_to ((z.length : Nat) : Int) (by omega) (by omega) ?_
  have hcl := how1.sl.le
  refine at_slice_h (h := z.length) gx_ok rfl rfl rfl rfl rfl rfl (by omega) ?_
  have h3 := (h.ext hE1).ext hE13
  have hB13 := hB1.ext hE13
  have how3 := how1.ext hE13
  have hs8 : ∀ b ∈ pElif ++ F, b < 256 := b8_app (by decide) h8
  have hsz := strOf_size (pElif ++ F)
  have hl6 : (pElif ++ F).length = 6 + F.length := by simp [pElif]; omega
  refine wif_f (by show decide (strOf (pElif ++ F) = strOf lEnd) = false; rw [strOf_eq hs8 (by decide)]; simp [pElif, lEnd]) ?_
  refine load_blk hB3 rfl ?_
  refine wif_f ht ?_
  refine loadN_at (vs := x.y.cells) rfl (fun j u hj => by
    rw [add_add, hB3.cell]
    match j, hj with
    | 0, hj => exact hj
    | 1, hj => exact hj) ?_
  refine new (fun w4 hE4 hz4 hB4 => ?_)
  refine storeN_blk0 hB4 rfl (sc rfl) (fun w5 hg5 _ hB5 => ?_)
  have hE35 : Ext w3 w5 := newBox hE4 hB4 hg5
  have hz35 := hE35.size
  have hE05 := (hE1.trans hE13).trans hE35
  refine wif_f (by show decide (strOf (pElif ++ F) = strOf lElse) = false; rw [strOf_eq hs8 (by decide)]; simp [pElif, lElse]) ?_
  refine need_to (v' := .string (strOf F)) ⟨by decide, by omega, by omega⟩ (by
    rw [strOf_extract, hsz]
    simp only [Int.toNat_natCast]
    rw [List.take_of_length_le (Nat.le_refl _)]
    rfl) ?_
  have h5 := h.ext hE05
  refine call (rset_fn F fl ln w5 hP h5 h8 (by omega)) ?_
  rintro _ w6 ⟨t, o, rfl, h6, hm6, ht6, hts, htr, hok⟩
  have hz6 := hm6.size
  refine new (fun w7 hE7 hz7 hB7 => ?_)
  refine storeN_blk0 hB7 rfl (sc rfl) (fun w8 hg8 _ hB8 => ?_)
  have hE68 : Ext w6 w8 := newBox hE7 hB7 hg8
  have hz68 := hE68.size
  have nr : ∀ i, w.heap.size ≤ i → ¬ i = p.r := fun i hi e => by have := h.rb; have := h.top; omega
  have hB38 := ((hB3.ext hE35).mod hm6 (nr _ (by omega))).ext hE68
  have hB58 := (hB5.mod hm6 (nr _ (by omega))).ext hE68
  have hB18 := ((hB13.ext hE35).mod hm6 npr).ext hE68
  have hm08 : Mod (· = p.r) w w8 := ((Mod.of_ext (· = p.r) hE05).trans hm6 (fun i hi => .inl hi)).trans (Mod.of_ext _ hE68) (fun i hi => .inl hi)
  have h8q := h6.ext hE68
  have hy8 : DgO w8 (TQ p m) p.nm.length x.y x.s.re := hy.keep hm08 (fun i hi => .inl (.inl (.inl hi)))
  have ht8 := ht6.ext hE68
  refine loadN_at (vs := x.y.cells) rfl (fun j u hj => by
    rw [add_add, hB38.cell]
    match j, hj with
    | 0, hj => exact hj
    | 1, hj => exact hj) ?_
  refine loadN_blk0 hB8 rfl ?_
  refine call (rinter_fn hP.nmk x.y.A x.y.n x.y.c t.A t.n t.c w8 hy8.sb ht8 hy8.st hts) ?_
  rintro _ w9 ⟨bA, bn, bc, bnd, br, rfl, hE9, hb9, hbs, hbr⟩
  have hz9 := hE9.size
  refine storeN_blk0 (hB58.ext hE9) rfl (sc rfl) (fun w10 hg10 _ hB10 => ?_)
  have hM10 : Mod (· = w3.heap.size) w9 w10 := Mod.of_grown hg10 rfl
  have hB310 := (hB38.ext hE9).mod hM10 (by omega)
  have hB810 := (hB8.ext hE9).mod hM10 (by omega)
  have hB110 := (hB18.ext hE9).mod hM10 (by omega)
  have hoff : ∀ ad, x.y.A = some ad → 0 < x.y.n → ad.block < w.heap.size := fun ad e h0 => SB.lt hy.sb ad e h0
  have hy10 : SB w10 x.y.A x.y.n x.y.c x.y.nd := SB.modo (hy8.sb.ext hE9) hM10 (fun ad e h0 hh => by have := hoff ad e h0; omega)
  have ht10 : SB w10 t.A t.n t.c t.nd := SB.modo (ht8.ext hE9) hM10 (fun ad e h0 hh => by have := htr ad e h0; omega)
  have hz10 := hM10.size
  refine loadN_at (vs := x.y.cells) rfl (fun j u hj => by
    rw [add_add, hB310.cell]
    match j, hj with
    | 0, hj => exact hj
    | 1, hj => exact hj) ?_
  refine loadN_blk0 hB810 rfl ?_
  refine call (rminus_fn hP.nmk x.y.A x.y.n x.y.c t.A t.n t.c w10 hy10 ht10 hy8.st hts) ?_
  rintro _ w11 ⟨dA, dn, dc, dnd, dr, rfl, hE11, hd11, hds, hdr⟩
  have hz11 := hE11.size
  refine storeN_blk (hB310.ext hE11) (show 2 + 2 ≤ 6 by decide) (sc rfl) (fun wA hgA _ hBA2 => ?_)
  have hMA : Mod (· = w1.heap.size) w11 wA := Mod.of_grown hgA rfl
  have hzA := hMA.size
  let d : DV := ⟨dA, dn, dc, dnd, dr⟩
  let zn : SeV := ⟨{ x.s with re := bSub x.s.re o }, x.x, d⟩
  let cd : DV := ⟨bA, bn, bc, bnd, br⟩
  have hBA2 : Blk wA w1.heap.size 148 zn.cells := hBA2
  have hBA1 := (hB110.ext hE11).mod hMA (by omega)
  have hBA3 : Blk wA w3.heap.size 42 cd.cells := (hB10.ext hE11).mod hMA (by omega)
  have hdA' : SB wA d.A d.n d.c d.nd := SB.modo (w := w11) hd11 hMA (fun ad e h0 hh => by have := hdr ad.block ⟨ad, e, rfl⟩; omega)
  have hbA' : SB wA cd.A cd.n cd.c cd.nd := SB.modo (w := w11) ((SB.modo (w := w9) hb9 hM10 (fun ad e h0 hh => by have := hbr ad.block ⟨ad, e, rfl⟩; omega)).ext hE11) hMA (fun ad e h0 hh => by have := hbr ad.block ⟨ad, e, rfl⟩; omega)
  have hq10 : Qr w0 w10 base p m { v with b := badR v.b fl ln (setE p.nm F) } := h.aside (h8q.ext hE9) rfl hM10 (by omega)
  have hqA : Qr w0 wA base p m { v with b := badR v.b fl ln (setE p.nm F) } := h.aside (hq10.ext hE11) rfl hMA (by omega)
  have hm0A : Mod (· = p.r) w wA := (((hm08.trans (Mod.of_ext (· = p.r) hE9) (fun i hi => .inl hi)).trans hM10 (fun i hi => .inr (by omega))).trans (Mod.of_ext (· = p.r) hE11) (fun i hi => .inl hi)).trans hMA (fun i hi => .inr (by omega))
  have howA := how.mod hm0A hap
  have fin : ∀ (A2 : Option Addr) (c2 : Nat) (wE wF : World), Ext wA wE → Own wE wA.heap.size 148 6 A2 (z.length + 1) c2 (seV z ++ zn.cells) → Mod (· = w.heap.size) wE wF → ∃ (A' : Option Addr) (c' : Nat) (o : BF) (b d : DV), (∀ i, rowS A' i → (∀ ad, b.A = some ad → 0 < b.n → ad.block < i) ∧ ∀ ad, d.A = some ad → 0 < d.n → ad.block < i) ∧ (Value.tuple #[.slice A2 (z.length + 1) c2, dgV bA bn bc br] : Value) = .tuple #[.slice A' (z.length + 1) c', dgV b.A b.n b.c b.r] ∧ (∀ o', setE p.nm F = .ok o' → o = o') ∧ SB wF b.A b.n b.c b.nd ∧ Set1 p.nm.length b.nd b.r (bAnd x.s.re o) ∧ FrD w b ∧ SB wF d.A d.n d.c d.nd ∧ Set1 p.nm.length d.nd d.r (bSub x.s.re o) ∧ FrD w d ∧ BrR w0 base p m { v with b := badR v.b fl ln (setE p.nm F) } w (z ++ [⟨{ x.s with re := bSub x.s.re o }, x.x, d⟩]) A' c' wF := fun A2 c2 wE wF hEE r2 hMF => by
    have htop := h.top
    refine ⟨A2, c2, o, cd, d, fun i hi => ⟨fun ad e h0 => by have := (r2.rows i hi).1; have := SB.lt hbA' ad e h0; omega, fun ad e h0 => by have := (r2.rows i hi).1; have := SB.lt hdA' ad e h0; omega⟩, rfl, hok, SB.modo (w := wE) (hbA'.ext hEE) hMF (fun ad e h0 hh => by have := hbr ad.block ⟨ad, e, rfl⟩; omega), hbs.congr (fun e => by simp [opB]), fun ad e h0 => by have := hbr ad.block ⟨ad, e, rfl⟩; omega, SB.modo (w := wE) (hdA'.ext hEE) hMF (fun ad e h0 hh => by have := hdr ad.block ⟨ad, e, rfl⟩; omega), hds, fun ad e h0 => by have := hdr ad.block ⟨ad, e, rfl⟩; omega, h.aside (hqA.ext hEE) rfl hMF (Nat.le_refl _), (hm0A.trans (Mod.of_ext (· = p.r) hEE) (fun i hi => .inl hi)).trans hMF (fun i hi => .inr (by omega)), ?_, fun i hi => by have := (r2.rows i hi).1; omega⟩
    rw [List.length_append, seV_snoc]
    exact (r2.mod hMF (fun i hi e => by have := (r2.rows i hi).1; omega)).up (by omega)
  have hdA := Ext.drew wA
  have hOut : Sl wA 6 (some oa) z.length c (seV z) := by
    have := (howA.take (k := z.length) (by omega)).sl
    rw [List.take_left' (by rw [hpl]), hoa] at this
    exact this
  refine draw_tree gx_ok (Ext wA) 8 (.quiet 1 (.quiet 3 (.quiet 6 (.fork 0 (.fork 2 (.fork 4 (.fork 5 (.quiet 7 .done) .skip) .skip) (.fork 4 (.fork 2 (.fork 5 (.quiet 7 .done) .skip) .skip) .skip)) (.fork 4 (.fork 0 (.fork 2 (.fork 5 (.quiet 7 .done) .skip) .skip) .skip) .skip))))) (by kernel_rfl) hdA ?_
  refine qloadN (vs := zn.cells) rfl (fun w' hw' j u hj => by rw [(hBA2.ext hw').cell]; exact hj) ?_
  refine qloadN (vs := cd.cells) rfl (fun w' hw' j u hj => by rw [(hBA3.ext hw').cell]; exact hj) ?_
  refine ⟨?_, ?_⟩
  · refine at_buildN gx_ok [] rfl rfl rfl rfl rfl ⟨⟩ rfl (fun cs hh => by cases hh) rfl (by decide) (by decide) ?_
    intro wB hEB hzB hBB
    have hEAB := hdA.trans hEB
    refine ⟨hEAB, ?_⟩
    have r0 : Own wB wA.heap.size 148 6 (some ⟨wA.drew.heap.size, 0, none⟩) 0 0 (seV []) := Own.empty hBB (hdA).size
    refine ⟨?_, ?_⟩
    · refine at_app (n := 0) gx_ok rfl rfl rfl rfl rfl (by decide) rfl rfl ⟨_, rfl⟩ rfl rfl (r0) (hOut.ext hEAB) (scalar_flat sev_scalar _) (by unfold maxLen; omega) (by show (0 + z.length) * 80 ≤ _; omega) (hEAB).size ?_
      intro A1 c1 wD hmD r1 hvD
      have hEAD : Ext wA wD := hmD.ext (hEAB) (fun i hi => (Own.rows (r0) i hi).1)
      refine ⟨hEAD, ?_⟩
      refine ⟨?_, trivial⟩
      refine at_buildN gx_ok [zn.cells] rfl rfl rfl rfl rfl ⟨rfl, rfl, ⟨⟩⟩ rfl (fun cs hh => by simp only [List.mem_singleton] at hh; subst hh; rfl) rfl (by decide) (by decide) ?_
      intro wC hEC hzC hBC
      have hEAC := hEAD.trans hEC
      refine ⟨hEAC, ?_⟩
      have hs1 : Sl wC 6 (some ⟨wD.heap.size, 0, none⟩) 1 1 zn.cells := Sl.own (sz := 6) (n := 1) hBC (Nat.le_refl _) (by decide) (by simp [SeV.cells])
      refine ⟨?_, trivial⟩
      refine at_app (n := 0 + z.length) gx_ok rfl rfl rfl rfl rfl (by decide) rfl rfl ⟨_, rfl⟩ rfl rfl (r1.ext hEC) hs1 (sev_scalar zn) (by unfold maxLen; omega) (by show (0 + z.length + 1) * 80 ≤ _; omega) (hEAC).size ?_
      intro A2 c2 wE hmE r2 hvE
      have hEAE : Ext wA wE := hmE.ext (hEAC) (fun i hi => (Own.rows (r1.ext hEC) i hi).1)
      refine ⟨hEAE, ?_⟩
      refine storeN_blk0 (hBA1.ext hEAE) rfl (sc rfl) (fun wF hgF _ hBF => ?_)
      have hMF : Mod (· = w.heap.size) wE wF := Mod.of_grown hgF rfl
      refine loadN_blk0 hBF rfl ?_
      rw [show 0 + z.length + 1 = z.length + 1 by omega] at r2 ⊢
      exact fin A2 c2 wE wF hEAE r2 hMF
    · refine ⟨?_, trivial⟩
      refine at_buildN gx_ok [zn.cells] rfl rfl rfl rfl rfl ⟨rfl, rfl, ⟨⟩⟩ rfl (fun cs hh => by simp only [List.mem_singleton] at hh; subst hh; rfl) rfl (by decide) (by decide) ?_
      intro wC hEC hzC hBC
      have hEAC := hEAB.trans hEC
      refine ⟨hEAC, ?_⟩
      have hs1 : Sl wC 6 (some ⟨wB.heap.size, 0, none⟩) 1 1 zn.cells := Sl.own (sz := 6) (n := 1) hBC (Nat.le_refl _) (by decide) (by simp [SeV.cells])
      refine ⟨?_, trivial⟩
      refine at_app (n := 0) gx_ok rfl rfl rfl rfl rfl (by decide) rfl rfl ⟨_, rfl⟩ rfl rfl (r0.ext (hEC)) (hOut.ext hEAC) (scalar_flat sev_scalar _) (by unfold maxLen; omega) (by show (0 + z.length) * 80 ≤ _; omega) (hEAC).size ?_
      intro A1 c1 wD hmD r1 hvD
      have hEAD : Ext wA wD := hmD.ext (hEAC) (fun i hi => (Own.rows (r0.ext (hEC)) i hi).1)
      refine ⟨hEAD, ?_⟩
      refine ⟨?_, trivial⟩
      refine at_app (n := 0 + z.length) gx_ok rfl rfl rfl rfl rfl (by decide) rfl rfl ⟨_, rfl⟩ rfl rfl (r1) (hs1.modS hmD (fun _ i hi hj => by obtain ⟨a1, q1, rfl⟩ := hi; obtain ⟨a2, q2, q3⟩ := hj; cases q1; cases q2; simp only at q3; omega)) (sev_scalar zn) (by unfold maxLen; omega) (by show (0 + z.length + 1) * 80 ≤ _; omega) (hEAD).size ?_
      intro A2 c2 wE hmE r2 hvE
      have hEAE : Ext wA wE := hmE.ext (hEAD) (fun i hi => (Own.rows (r1) i hi).1)
      refine ⟨hEAE, ?_⟩
      refine storeN_blk0 (hBA1.ext hEAE) rfl (sc rfl) (fun wF hgF _ hBF => ?_)
      have hMF : Mod (· = w.heap.size) wE wF := Mod.of_grown hgF rfl
      refine loadN_blk0 hBF rfl ?_
      rw [show 0 + z.length + 1 = z.length + 1 by omega] at r2 ⊢
      exact fin A2 c2 wE wF hEAE r2 hMF
  · refine ⟨?_, trivial⟩
    refine at_buildN gx_ok [zn.cells] rfl rfl rfl rfl rfl ⟨rfl, rfl, ⟨⟩⟩ rfl (fun cs hh => by simp only [List.mem_singleton] at hh; subst hh; rfl) rfl (by decide) (by decide) ?_
    intro wC hEC hzC hBC
    have hEAC := hdA.trans hEC
    refine ⟨hEAC, ?_⟩
    have hs1 : Sl wC 6 (some ⟨wA.drew.heap.size, 0, none⟩) 1 1 zn.cells := Sl.own (sz := 6) (n := 1) hBC (Nat.le_refl _) (by decide) (by simp [SeV.cells])
    refine ⟨?_, trivial⟩
    refine at_buildN gx_ok [] rfl rfl rfl rfl rfl ⟨⟩ rfl (fun cs hh => by cases hh) rfl (by decide) (by decide) ?_
    intro wB hEB hzB hBB
    have hEAB := hEAC.trans hEB
    refine ⟨hEAB, ?_⟩
    have r0 : Own wB wA.heap.size 148 6 (some ⟨wC.heap.size, 0, none⟩) 0 0 (seV []) := Own.empty hBB (hEAC).size
    refine ⟨?_, trivial⟩
    refine at_app (n := 0) gx_ok rfl rfl rfl rfl rfl (by decide) rfl rfl ⟨_, rfl⟩ rfl rfl (r0) (hOut.ext hEAB) (scalar_flat sev_scalar _) (by unfold maxLen; omega) (by show (0 + z.length) * 80 ≤ _; omega) (hEAB).size ?_
    intro A1 c1 wD hmD r1 hvD
    have hEAD : Ext wA wD := hmD.ext (hEAB) (fun i hi => (Own.rows (r0) i hi).1)
    refine ⟨hEAD, ?_⟩
    refine ⟨?_, trivial⟩
    refine at_app (n := 0 + z.length) gx_ok rfl rfl rfl rfl rfl (by decide) rfl rfl ⟨_, rfl⟩ rfl rfl (r1) ((hs1.ext hEB).modS hmD (fun _ i hi hj => by obtain ⟨a1, q1, rfl⟩ := hi; obtain ⟨a2, q2, q3⟩ := hj; cases q1; cases q2; simp only at q3; omega)) (sev_scalar zn) (by unfold maxLen; omega) (by show (0 + z.length + 1) * 80 ≤ _; omega) (hEAD).size ?_
    intro A2 c2 wE hmE r2 hvE
    have hEAE : Ext wA wE := hmE.ext (hEAD) (fun i hi => (Own.rows (r1) i hi).1)
    refine ⟨hEAE, ?_⟩
    refine storeN_blk0 (hBA1.ext hEAE) rfl (sc rfl) (fun wF hgF _ hBF => ?_)
    have hMF : Mod (· = w.heap.size) wE wF := Mod.of_grown hgF rfl
    refine loadN_blk0 hBF rfl ?_
    rw [show 0 + z.length + 1 = z.length + 1 by omega] at r2 ⊢
    exact fin A2 c2 wE wF hEAE r2 hMF
end
end
end Go.Proofs.YtedopgkbajhanaaGreatDoor

namespace Go.Proofs.YtedopgkbajhanaaGreatDoor
section
open Go Go.RowKit

def isDir (s : List Nat) : Bool := match dirOf s with
  | .txt => false
  | _ => true
theorem rdirective_fn (s : List Nat) (w : World) (h8 : ∀ b ∈ s, b < 256) : Fn Tryz.prog 84 [.string (strOf s)] w (fun v w' => v = .bool (isDir s) ∧ w = w') := by
  refine fn_of_exec (c := { c84 with cuts := [] }) gx_ok Tryz.func84 rfl rfl rfl ?_
  have d1 := strOf_eq h8 (show ∀ b ∈ lElse, b < 256 by decide)
  have d2 := strOf_eq h8 (show ∀ b ∈ lEnd, b < 256 by decide)
  refine call (begins_fn s pIf w h8 (by decide)) ?_
  rintro _ _ ⟨rfl, rfl⟩
  have e : isDir s = (pIf.isPrefixOf s || pInc.isPrefixOf s || pElif.isPrefixOf s || decide (s = lElse) || decide (s = lEnd)) := by
    unfold isDir dirOf
    cases h1 : pIf.isPrefixOf s <;> cases h2 : pInc.isPrefixOf s <;> cases h3 : pElif.isPrefixOf s <;> by_cases h4 : s = lElse <;> by_cases h5 : s = lEnd <;> simp [h4, h5, show ¬ lEnd = lElse by decide]
  rw [e]
  refine wif (fun h1 => ?_) (fun h1 => ?_)
  · rw [h1]; exact ⟨rfl, rfl⟩
  refine call (begins_fn s pElif w h8 (by decide)) ?_
  rintro _ _ ⟨rfl, rfl⟩
  refine wif (fun h2 => ?_) (fun h2 => ?_)
  · rw [h1, h2]; exact ⟨by simp, rfl⟩
  refine call (begins_fn s pInc w h8 (by decide)) ?_
  rintro _ _ ⟨rfl, rfl⟩
  refine wif (fun h3 => ?_) (fun h3 => ?_)
  · rw [h1, h2, h3]; exact ⟨by simp, rfl⟩
  refine wif (fun h4 => ?_) (fun h4 => ?_)
  · have h4 : decide (strOf s = strOf lElse) = true := h4
    rw [d1] at h4
    rw [h1, h2, h3, h4]; exact ⟨by simp, rfl⟩
  have h4 : decide (strOf s = strOf lElse) = false := h4
  rw [d1] at h4
  rw [h1, h2, h3, h4]
  refine ⟨?_, rfl⟩
  show Value.bool (decide (strOf s = strOf lEnd)) = _
  rw [d2]; simp

/-- What an include reads. -/
def qincF (p : QP) (f n : Nat) (rd : List Nat) : IncF := fun r ln d k g => match incE (ixN (p.fs.map (·.1))) (n :: rd) r with
  | .error e => .error ⟨e, n, ln⟩
  | .ok m => if d = 64 then .error ⟨2, n, ln⟩ else rdF p.nm p.fs f (n :: rd) (d + 1) m k g
/-- How the reader has gone on: with what was read, or with the first error. -/
def QGo (w0 : World) (base : Nat) (p : QP) (m : QM) (v : QV) (R : Except Pl Gs) (w w' : World) : Prop := ∃ (m' : QM) (v' : QV), m'.T = m.T ∧ Qr w0 w' base p m' v' ∧ Mod (QS p m) w w' ∧ Moved w m.OA m'.OA ∧ Moved w m.DA m'.DA ∧ v'.rd = v.rd ∧ match R with
  | .ok g' => v' = { v with g := g' }
  | .error q => v'.b = q ∧ q.e ≠ 0 ∧ v.d ≤ v'.d
def QFile (w0 : World) (base : Nat) (p : QP) (f : Nat) : Prop := ∀ (m : QM) (v : QV) (n : Nat) (k : DV) (o : BF) (w : World), Qr w0 w base p m v → DgO w (TQ p m) p.nm.length k o → n < p.fs.length → n ∉ v.rd → v.d ≤ 64 → 65 ≤ f + v.d → v.b.e = 0 → v.rd.length ≤ v.d →
  Fn Tryz.prog 51 [.pointer (some ⟨p.r, 0, none⟩), .int .i64 n, dgV k.A k.n k.c k.r] w (fun _ w' => QGo w0 base p m v (rdF p.nm p.fs f v.rd v.d n o v.g) w w')
theorem count_mid {s nm : List Nat} (h : s = 34 :: (nm ++ [34])) : s.count 34 = nm.count 34 + 2 := by
  subst h; simp [List.count_cons, List.count_append]
theorem mid_of {s : List Nat} (h1 : ¬ s.length < 2) (h2 : s.head? = some 34) (h3 : s.getLast? = some 34) : s = 34 :: ((s.drop 1).take (s.length - 2) ++ [34]) := by
  cases s with
  | nil => cases h2
  | cons a s =>
    have : a = 34 := by simpa using h2
    subst this
    rcases List.eq_nil_or_concat s with rfl | ⟨l, b, rfl⟩
    · simp at h1
    · have hb : b = 34 := by
        rw [show (34 :: l.concat b).getLast? = some b by simp [List.getLast?_cons]] at h3
        exact Option.some.inj h3
      subst hb
      simp
set_option maxHeartbeats 1600000 in
theorem rinclude_fn {w0 : World} {base : Nat} {p : QP} {f : Nat} (ih : QFile w0 base p f) (m : QM) (v : QV) (n : Nat) (rd : List Nat) (s : List Nat) (ln : Nat) (k : DV) (o : BF) (w : World) (hP : QPok w0 p) (h : Qr w0 w base p m v) (hk : DgO w (TQ p m) p.nm.length k o) (h8 : ∀ b ∈ s, b < 256) (hsl : s.length ≤ 1000000000) (hrd : v.rd = n :: rd) (hd : v.d ≤ 64) (hf : 64 ≤ f + v.d) (hb : v.b.e = 0) (hlr : v.rd.length ≤ v.d + 1) :
    Fn Tryz.prog 90 [.pointer (some ⟨p.r, 0, none⟩), .string (strOf s), dgV k.A k.n k.c k.r, .int .i64 n, .int .i64 ln] w (fun _ w' => QGo w0 base p m v (qincF p f n rd s ln v.d o v.g) w w') := by
  have hsz := strOf_size s
  have hby := bytesOf_strOf h8
  refine fn_of_exec (c := { c90 with cuts := [] }) gx_ok Tryz.func90 rfl rfl rfl ?_
  refine new (fun w1 hE1 hz1 hB1 => ?_)
  have h1 := h.ext hE1
  -- an error at this line
  have err : ∀ (e : Int), e ≠ 0 → qincF p f n rd s ln v.d o v.g = .error ⟨e, n, ln⟩ → ∀ w2, Qr w0 w2 base p m { v with b := bad1 v.b ⟨e, (n : Int), (ln : Int)⟩ } → Mod (· = p.r) w1 w2 → QGo w0 base p m v (qincF p f n rd s ln v.d o v.g) w w2 := fun e he hq w2 h2 hm2 => by
    rw [hq]
    exact ⟨m, _, rfl, h2, ((Mod.of_ext (QS p m) hE1).trans (hm2.mono (S' := QS p m) (fun i hi => .inl (.inl hi))) (fun i hi => .inl hi)), Moved.refl _ _, Moved.refl _ _, rfl, by show bad1 v.b ⟨e, n, ln⟩ = _; exact if_pos hb, he, Nat.le_refl _⟩
  have err71 : (s.length < 2 ∨ s.head? ≠ some 34 ∨ s.getLast? ≠ some 34 ∨ s.count 34 ≠ 2) → qincF p f n rd s ln v.d o v.g = .error ⟨71, n, ln⟩ := fun hh => by
    unfold qincF; rw [incE_no hh]
  refine wif_d (fun c1 => ?_) (fun c1 => ?_)
  · refine call (rfail_fn 71 n ln w1 h1) ?_
    rintro _ w2 ⟨h2, hm2⟩
    exact err 71 (by decide) (err71 (.inl (by omega))) w2 h2 hm2
  have hs : ¬ s.length < 2 := by omega
  refine sindex' (j := 0) (by omega) (fun x hx hxl => ?_)
  rw [hby] at hx
  have hhead : s.head? = some x := by rw [List.head?_eq_getElem?]; exact hx
  refine wif_ne (fun c2 => ?_) (fun c2 => ?_)
  · refine call (rfail_fn 71 n ln w1 h1) ?_
    rintro _ w2 ⟨h2, hm2⟩
    exact err 71 (by decide) (err71 (.inr (.inl (by rw [hhead]; intro e; cases e; exact c2 rfl)))) w2 h2 hm2
  have hx34 : x = 34 := by omega
  refine norm_i64_to ((s.length - 1 : Nat) : Int) (by rw [hsz]; omega) (by omega) ?_
  refine sindex' (j := s.length - 1) (by omega) (fun y hy hyl => ?_)
  rw [hby] at hy
  have hlast : s.getLast? = some y := by rw [List.getLast?_eq_getElem?]; exact hy
  refine wif_ne (fun c3 => ?_) (fun c3 => ?_)
  · refine call (rfail_fn 71 n ln w1 h1) ?_
    rintro _ w2 ⟨h2, hm2⟩
    exact err 71 (by decide) (err71 (.inr (.inr (.inl (by rw [hlast]; intro e; cases e; exact c3 rfl))))) w2 h2 hm2
  have hy34 : y = 34 := by omega
  subst hx34; subst hy34
  have hmid := mid_of hs hhead hlast
  have hcm := count_mid hmid
  refine norm_i64_to ((s.length - 1 : Nat) : Int) (by rw [hsz]; omega) (by omega) ?_
  refine need_to (v' := .string (strOf ((s.drop 1).take (s.length - 2)))) ⟨by decide, by omega, by omega⟩ (by
    rw [strOf_extract]
    simp only [Int.toNat_natCast, Int.toNat_one]
    rw [List.drop_take]
    congr 3) ?_
  have hn8 : ∀ b ∈ (s.drop 1).take (s.length - 2), b < 256 := fun b hb => h8 b (List.mem_of_mem_drop (List.mem_of_mem_take hb))
  have hnl : ((s.drop 1).take (s.length - 2)).length ≤ s.length := by rw [List.length_take]; omega
  have hinc : (s.drop 1).take (s.length - 2) = (s.drop 1).take (s.length - 2) := rfl
  have hie : ∀ q, incE q (n :: rd) s = if s.length < 2 ∨ s.head? ≠ some 34 ∨ s.getLast? ≠ some 34 ∨ s.count 34 ≠ 2 then .error 71 else match q ((s.drop 1).take (s.length - 2)) with
    | none => .error 73
    | some n' => if n' ∈ n :: rd then .error 73 else .ok n' := fun q => incE_eq q _ _
  generalize hnm : (s.drop 1).take (s.length - 2) = nm at *
  have hns := strOf_size nm
  have hnb := bytesOf_strOf hn8
  refine loop gx_ok [11] (fun i : Nat => [.int .i64 i]) (fun i w' => w1 = w' ∧ i ≤ nm.length ∧ 34 ∉ nm.take i) (fun i _ => nm.length - i) 0 rfl ⟨rfl, Nat.zero_le _, by simp⟩ ?_
  rintro i _ ⟨rfl, hi, hno⟩
  refine wif_d (fun c4 => ?_) (fun c4 => ?_)
  · have hil : i < nm.length := by omega
    refine sindex' (j := i) (by omega) (fun b hbx _ => ?_)
    rw [hnb] at hbx
    refine wif_eq (fun c5 => ?_) (fun c5 => ?_)
    · refine call (rfail_fn 71 n ln w1 h1) ?_
      rintro _ w2 ⟨h2, hm2⟩
      refine err 71 (by decide) (err71 (.inr (.inr (.inr ?_)))) w2 h2 hm2
      have : 34 ∈ nm := by
        have := List.mem_of_getElem? hbx
        rwa [show b = 34 by omega] at this
      have := List.count_pos_iff.2 this
      omega
    · refine norm_i64_to ((i + 1 : Nat) : Int) (by show ((i : Nat) : Int) + 1 = _; omega) (by omega) ?_
      refine ⟨i + 1, rfl, ⟨rfl, by omega, ?_⟩, by show nm.length - (i + 1) < nm.length - i; omega⟩
      rw [List.take_add_one, hbx]
      simp only [Option.toList_some, List.mem_append, List.mem_singleton, not_or]
      exact ⟨hno, fun e => c5 (by omega)⟩
  have hil : i = nm.length := by omega
  rw [hil, List.take_length] at hno
  have hc0 : nm.count 34 = 0 := List.count_eq_zero.2 hno
  have hcond : ¬ (s.length < 2 ∨ s.head? ≠ some 34 ∨ s.getLast? ≠ some 34 ∨ s.count 34 ≠ 2) := by
    rintro (hh | hh | hh | hh)
    · exact hs hh
    · exact hh hhead
    · exact hh hlast
    · omega
  have hie2 := hie (ixN (p.fs.map (·.1)))
  rw [if_neg hcond] at hie2
  refine call (rnumber_fn nm w1 hP h1 hn8) ?_
  rintro _ _ ⟨rfl, rfl⟩
  have hqu : qincF p f n rd s ln v.d o v.g = match incE (ixN (p.fs.map (·.1))) (n :: rd) s with
    | .error e => .error ⟨e, n, ((ln : Nat) : Int)⟩
    | .ok m => if v.d = 64 then .error ⟨2, n, ((ln : Nat) : Int)⟩ else rdF p.nm p.fs f (n :: rd) (v.d + 1) m o v.g := rfl
  cases hix : ixN (p.fs.map (·.1)) nm with
  | none =>
    rw [hix] at hie2
    refine wif_dt (show (-1 : Int) < 0 by decide) ?_
    refine call (rfail_fn 73 n ln w1 h1) ?_
    rintro _ w2 ⟨h2, hm2⟩
    exact err 73 (by decide) (by rw [hqu, hie2]) w2 h2 hm2
  | some n' =>
    rw [hix] at hie2
    simp only at hie2
    refine wif_df (show ¬ ((n' : Nat) : Int) < 0 by omega) ?_
    refine call (ropen_fn n' w1 h1) ?_
    rintro _ _ ⟨rfl, rfl⟩
    rw [hrd]
    by_cases hmem : n' ∈ n :: rd
    · rw [if_pos hmem] at hie2
      refine wif_dt hmem ?_
      refine call (rfail_fn 73 n ln w1 h1) ?_
      rintro _ w2 ⟨h2, hm2⟩
      exact err 73 (by decide) (by rw [hqu, hie2]) w2 h2 hm2
    · rw [if_neg hmem] at hie2
      rw [hie2] at hqu
      simp only at hqu
      refine wif_df hmem ?_
      have hn' : n' < p.fs.length := by have := ixN_lt hix; simpa using this
      refine call (rdeeper_fn n ln w1 h1 hd) ?_
      rintro _ w2 ⟨h2, hm2⟩
      have hdl2 := h2.dl
      by_cases h64 : v.d = 64
      · rw [if_pos h64] at hqu h2
        have hb2 : bad1 v.b ⟨2, (n : Int), (ln : Int)⟩ = ⟨2, n, ln⟩ := if_pos hb
        rw [hb2] at h2
        refine load_blk2 h2.blk rfl ?_
        refine wif_eqf (show ¬ (2 : Int) = 0 by decide) ?_
        refine load_blk h2.blk rfl ?_
        refine norm_i64_to ((v.d : Nat) : Int) (by show ((v.d + 1 : Nat) : Int) - 1 = _; omega) (by omega) ?_
        refine store_mod h2.blk (show 2 < 10 by decide) (fun w3 hM3 hB3 => ?_)
        have h3 : Qr w0 w3 base p m { v with b := ⟨2, n, ln⟩ } := h2.put hM3 hB3 rfl rfl rfl h2.nf h.dl
        exact err 2 (by decide) hqu w3 (by rw [hb2]; exact h3) (hm2.trans hM3 (fun i hi => .inl hi))
      · rw [if_neg h64] at hqu h2
        refine load_blk2 h2.blk rfl ?_
        refine wif_eqt hb ?_
        have npr : ¬ w.heap.size = p.r := fun e => by have := h.rb; have := h.top; omega
        refine loadN_blk0 (hB1.mod hm2 npr) rfl ?_
        have hk2 : DgO w2 (TQ p m) p.nm.length k o := (hk.ext hE1).keep hm2 (fun i hi => .inl (.inl (.inl hi)))
        refine call (ih m { v with d := v.d + 1 } n' k o w2 h2 hk2 hn' (by show n' ∉ v.rd; rw [hrd]; exact hmem) (by show v.d + 1 ≤ 64; omega) (by show 65 ≤ f + (v.d + 1); omega) hb (by show v.rd.length ≤ v.d + 1; exact hlr)) ?_
        rintro _ w3 ⟨m', v', hT', h3, hm3, hv3, hu3, hr3, hres⟩
        have hres : match rdF p.nm p.fs f v.rd (v.d + 1) n' o v.g with
          | .ok g' => v' = { { v with d := v.d + 1 } with g := g' }
          | .error q => v'.b = q ∧ q.e ≠ 0 ∧ v.d + 1 ≤ v'.d := hres
        rw [hrd] at hres
        have hdv : v.d + 1 ≤ v'.d := by
          cases hR : rdF p.nm p.fs f (n :: rd) (v.d + 1) n' o v.g with
          | ok g' => rw [hR] at hres; rw [hres]; exact Nat.le_refl _
          | error q => rw [hR] at hres; exact hres.2.2
        have hdl3 := h3.dl
        refine load_blk h3.blk rfl ?_
        refine norm_i64_to ((v'.d - 1 : Nat) : Int) (by omega) (by omega) ?_
        refine store_mod h3.blk (show 2 < 10 by decide) (fun w4 hM4 hB4 => ?_)
        have h4 : Qr w0 w4 base p m' { v' with d := v'.d - 1 } := h3.put hM4 hB4 rfl rfl rfl h3.nf (by show v'.d - 1 ≤ 65; omega)
        have hz12 := hm2.size
        have hz1' := hE1.size
        have hmm : Mod (QS p m) w w3 := ((Mod.of_ext (QS p m) hE1).trans (hm2.mono (S' := QS p m) (fun i hi => .inl (.inl hi))) (fun i hi => .inl hi)).trans hm3 (fun i hi => .inl hi)
        refine ⟨m', { v' with d := v'.d - 1 }, hT', h4, hmm.trans hM4 (fun i hi => .inl (.inl hi)), hv3.back (by omega), hu3.back (by omega), hr3, ?_⟩
        rw [hqu]
        cases hR : rdF p.nm p.fs f (n :: rd) (v.d + 1) n' o v.g with
        | ok g' =>
          rw [hR] at hres
          simp only at hres ⊢
          rw [hres]
          simp only [Nat.add_sub_cancel, hrd]
        | error q =>
          rw [hR] at hres
          simp only at hres ⊢
          exact ⟨hres.1, hres.2.1, by show v.d ≤ v'.d - 1; omega⟩

/-! ### file -/
theorem Qr.pop {w0 w w1 : World} {base : Nat} {p : QP} {m : QM} {v : QV} (h : Qr w0 w base p m v) {n : Nat} {rd : List Nat} (hrd : v.rd = n :: rd) (hm : Mod (· = p.r) w w1) {g' : Gs} (h1 : g'.tx = v.g.tx) (h2 : g'.sg = v.g.sg) (hf : g'.fr = true)
    (hB : Blk w1 p.r 97 (qdC p m { v with rd := rd, g := g' })) : Qr w0 w1 base p m { v with rd := rd, g := g' } := by
  have hE := hm.ext h.e0 (fun i hi => by subst hi; exact h.lor)
  refine ⟨hE, h.lor, h.rb, Nat.le_trans h.top hm.size, hB, ?_, ?_, by show m.L.length = g'.sg.length; rw [h2]; exact h.len, fun j s x hs hx => ?_, by show g'.tx.length ≤ _; rw [h1]; exact h.tl, by show g'.sg.length ≤ _; rw [h2]; exact h.sl, by show ∀ x ∈ g'.tx, _; rw [h1]; exact h.b8, fun e => by (have e : g'.fr = false := e; rw [hf] at e; cases e), fun i hi => Nat.lt_of_lt_of_le (h.tt i hi) hm.size, h.dl, by have := h.rl; rw [hrd, List.length_cons] at this; show rd.length ≤ _; omega⟩
  · have := (h.rdo.take (k := rd.length) (by rw [hrd]; simp)).mod hm (fun i hi e => by subst e; exact h.nrow.2 hi)
    have e : (ixV v.rd.reverse).take (rd.length * 1) = ixV rd.reverse := by rw [hrd]; exact ixV_rev_take
    rw [e] at this
    exact this
  · show Own w1 base 45 6 m.OA g'.sg.length m.oc (sgV g'.sg m.L)
    rw [h2]; exact h.out.mod hm (fun i hi e => by subst e; exact h.nrow.1 hi)
  · have hs : g'.sg[j]? = some s := hs
    rw [h2] at hs; exact (h.dgs j s x hs hx).keep hm (fun i hi => .inl (.inl (.inl hi)))
/-- The state at the head of a line. -/
structure LQ where
  k : DV
  o : BF
  z : List SeV
  m : QM
  v : QV
  ln : Nat
  at_ : Nat
  ls : List (List Nat)
  A : Option Addr
  c : Nat
abbrev sqT : TypeId := 148
def WrQ (p : QP) (m : QM) (A : Option Addr) (bk : Nat) : Nat → Prop := fun i => QS p m i ∨ rowS A i ∨ i = bk
/-- All is well so far, or there was an error. -/
def StQ (p : QP) (v : QV) (n : Nat) (inc : IncF) (res : Except Pl Gs) (s : LQ) : Prop :=
  (s.v.b = v.b ∧ s.v.d = v.d + s.z.length ∧ s.v.d ≤ 64 ∧ rdL p.nm n v.d inc s.ls s.ln s.at_ s.o (s.z.reverse.map (·.s)) s.v.g = res) ∨ (s.v.b.e ≠ 0 ∧ res = .error s.v.b ∧ v.d ≤ s.v.d)
structure FqI (w0 w : World) (base : Nat) (p : QP) (m : QM) (v : QV) (n bk : Nat) (text : List Nat) (inc : IncF) (res : Except Pl Gs) (s : LQ) (w' : World) : Prop where
  rr : Qr w0 w' base p s.m s.v
  rdv : s.v.rd = n :: v.rd
  tt : s.m.T = fun i => m.T i ∨ rowS s.A i ∨ i = bk
  kb : Blk w' bk 42 s.k.cells
  kd : DgO w' (TQ p s.m) p.nm.length s.k s.o
  ow : Own w' base sqT 6 s.A s.z.length s.c (seV s.z)
  zx : ∀ z ∈ s.z, DgO w' (TQ p s.m) p.nm.length z.x z.s.ou
  zy : ∀ z ∈ s.z, DgO w' (TQ p s.m) p.nm.length z.y z.s.re
  dr : text.drop s.at_ = unl s.ls
  al : s.at_ + (unl s.ls).length = text.length
  li : Lines s.ls
  mw : Mod (QS p m) w w'
  ma : Moved w m.OA s.m.OA
  mb : Moved w m.DA s.m.DA
  nw : ∀ i, rowS s.A i → w.heap.size ≤ i
  dl : s.z.length ≤ 65
  lb : s.ln + s.ls.length ≤ 1048576
  st : StQ p v n inc res s
section
variable {w0 w w' w'' : World} {base : Nat} {p : QP} {m : QM} {v : QV} {n bk : Nat} {text : List Nat} {inc : IncF} {res : Except Pl Gs} {s s' : LQ}
theorem FqI.sub (h : FqI w0 w base p m v n bk text inc res s w') : ∀ i, WrQ p s.m s.A bk i → TQ p s.m i := fun i hi => by
  rcases hi with hi | hi | hi
  · exact .inl hi
  · exact .inr (by rw [h.tt]; exact .inr (.inl hi))
  · exact .inr (by rw [h.tt]; exact .inr (.inr hi))
/-- What counts as written later was so before, or is new. -/
theorem FqI.back (h : FqI w0 w base p m v n bk text inc res s w') (tt : s'.m.T = fun i => m.T i ∨ rowS s'.A i ∨ i = bk) (hA : Moved w' s.A s'.A) (hO : Moved w' s.m.OA s'.m.OA) (hB : Moved w' s.m.DA s'.m.DA) : ∀ i, TQ p s'.m i → TQ p s.m i ∨ w'.heap.size ≤ i := fun i hi => by
  rcases hi with hi | hi
  · rcases QS.moved (p := p) hO hB i hi with h1 | h1
    · exact .inl (.inl h1)
    · exact .inr h1
  · rw [tt] at hi
    rcases hi with hi | hi | hi
    · exact .inl (.inr (by rw [h.tt]; exact .inl hi))
    · rcases hA.rows i hi with h1 | h1
      · exact .inl (.inr (by rw [h.tt]; exact .inr (.inl h1)))
      · exact .inr h1
    · exact .inl (.inr (by rw [h.tt]; exact .inr (.inr hi)))
theorem FqI.kp (h : FqI w0 w base p m v n bk text inc res s w') (hm : Mod (WrQ p s.m s.A bk) w' w'') (tt : s'.m.T = fun i => m.T i ∨ rowS s'.A i ∨ i = bk) (hA : Moved w' s.A s'.A) (hO : Moved w' s.m.OA s'.m.OA) (hB : Moved w' s.m.DA s'.m.DA) {x : DV} {o : BF} (hx : DgO w' (TQ p s.m) p.nm.length x o) : DgO w'' (TQ p s'.m) p.nm.length x o :=
  hx.step (hm.mono (fun i hi => .inl (h.sub i hi))) (h.back tt hA hO hB)
/-- A set that is new. -/
theorem FqI.new (h : FqI w0 w base p m v n bk text inc res s w') {w1 : World} (hz : w'.heap.size ≤ w1.heap.size) (tt : s'.m.T = fun i => m.T i ∨ rowS s'.A i ∨ i = bk) {x : DV} {o : BF} (hA : ∀ i, rowS s'.A i → rowS s.A i ∨ ∀ ad, x.A = some ad → 0 < x.n → ad.block ≠ i) (hsb : SB w'' x.A x.n x.c x.nd) (hst : Set1 p.nm.length x.nd x.r o) (hf : FrD w1 x)
    (hq : ∀ i, QS p s'.m i → i < w1.heap.size) : DgO w'' (TQ p s'.m) p.nm.length x o := by
  refine ⟨hsb, hst, fun ad e h0 hh => ?_⟩
  have hb := hf ad e h0
  have hold := h.rr.hiT
  rcases hh with hh | hh
  · have := hq _ hh; omega
  · rw [tt] at hh
    rcases hh with hh | hh | hh
    · have := hold _ (.inr (by rw [h.tt]; exact .inl hh)); omega
    · rcases hA _ hh with h1 | h1
      · have := hold _ (.inr (by rw [h.tt]; exact .inr (.inl h1))); omega
      · exact h1 ad e h0 rfl
    · have := hold _ (.inr (by rw [h.tt]; exact .inr (.inr hh))); omega
theorem FqI.mw' (h : FqI w0 w base p m v n bk text inc res s w') (hbk : w.heap.size ≤ bk) (hm : Mod (WrQ p s.m s.A bk) w' w'') : Mod (QS p m) w w'' :=
  h.mw.trans hm (fun i hi => by
    rcases hi with hi | hi | hi
    · exact QS.moved (p := p) h.ma h.mb i hi
    · exact .inr (h.nw i hi)
    · exact .inr (by omega))
theorem FqI.go (h : FqI w0 w base p m v n bk text inc res s w') (hbk : w.heap.size ≤ bk) (hm : Mod (WrQ p s.m s.A bk) w' w'') (rr : Qr w0 w'' base p s'.m s'.v) (rdv : s'.v.rd = n :: v.rd) (tt : s'.m.T = fun i => m.T i ∨ rowS s'.A i ∨ i = bk) (hA : ∀ i, rowS s'.A i → w.heap.size ≤ i) (hO : Moved w' s.m.OA s'.m.OA) (hB : Moved w' s.m.DA s'.m.DA)
    (kb : Blk w'' bk 42 s'.k.cells) (kd : DgO w'' (TQ p s'.m) p.nm.length s'.k s'.o) (ow : Own w'' base sqT 6 s'.A s'.z.length s'.c (seV s'.z)) (zx : ∀ z ∈ s'.z, DgO w'' (TQ p s'.m) p.nm.length z.x z.s.ou) (zy : ∀ z ∈ s'.z, DgO w'' (TQ p s'.m) p.nm.length z.y z.s.re)
    {l : List Nat} (hls : s.ls = l :: s'.ls) (hat : s'.at_ = s.at_ + l.length + 1) (dl : s'.z.length ≤ 65) (hln : s'.ln = s.ln + 1) (st : StQ p v n inc res s') : FqI w0 w base p m v n bk text inc res s' w'' := by
  have hdr := h.dr
  have hal := h.al
  have hlb := h.lb
  have hli := h.li
  rw [hls, unl_cons] at hdr hal
  rw [hls] at hlb hli
  have hz := h.mw.size
  refine ⟨rr, rdv, tt, kb, kd, ow, zx, zy, ?_, ?_, fun t ht => hli t (by simp [ht]), h.mw' hbk hm, h.ma.trans hO hz, h.mb.trans hB hz, hA, dl, ?_, st⟩
  · rw [hat, show s.at_ + l.length + 1 = s.at_ + (l.length + 1) by omega, ← List.drop_drop, hdr, ← List.drop_drop, List.drop_left' rfl]; rfl
  · rw [hat]; simp only [List.length_append, List.length_cons] at hal; omega
  · rw [hln]; simp only [List.length_cons] at hlb; omega
end
end
end Go.Proofs.YtedopgkbajhanaaGreatDoor
