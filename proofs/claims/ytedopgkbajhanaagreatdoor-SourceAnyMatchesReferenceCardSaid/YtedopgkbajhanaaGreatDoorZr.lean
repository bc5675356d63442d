/-
  The reference's operations on sets over few conditions; tables.
  Conditions: none.
-/
import Derived.Test.YtedopgkbajhanaaGreatDoorZp
import Derived.Test.YtedopgkbajhanaaGreatDoorRc2
namespace Go.Proofs.YtedopgkbajhanaaGreatDoor
open Go Go.RowKit

/-- A set as a result. -/
def DgS (w : World) (k : Nat) (o : (Nat → Bool) → Bool) (v : Value) (w' : World) : Prop := ∃ A n c nd r, v = dgV A n c r ∧ Ext w w' ∧ SB w' A n c nd ∧ Set1 k nd r o ∧ ∀ i, rowS A i → w.heap.size ≤ i
def DgSE (w : World) (k : Nat) (o : (Nat → Bool) → Bool) (v : Value) (w' : World) : Prop := ∃ A n c nd r, v = .tuple #[dgV A n c r, .int .i64 0] ∧ Ext w w' ∧ SB w' A n c nd ∧ Set1 k nd r o ∧ ∀ i, rowS A i → w.heap.size ≤ i
theorem DgS.mk {k : Nat} {o o' : (Nat → Bool) → Bool} {w : World} {v : Value} {w' : World} (h : DgS w k o v w') (e : ∀ x, o x = o' x) : DgS w k o' v w' := by
  obtain ⟨A, n, c, nd, r, h1, h2, h3, h4, h5⟩ := h
  exact ⟨A, n, c, nd, r, h1, h2, h3, h4.congr e, h5⟩

theorem rconst_fn (b : Bool) (w : World) : Fn Tryz.prog 40 [.bool b] w (fun v w' => v = dgV none 0 0 (if b then 1 else 0) ∧ Ext w w') := by
  refine fn_of_exec (c := { c40 with cuts := [] }) gx_ok Tryz.func40 rfl rfl rfl ?_
  refine new (fun w1 hE1 hz1 hB1 => ?_)
  cases b with
  | true =>
    refine wif_t rfl ?_
    refine storeN_blk0 hB1 rfl (sc rfl) (fun w3 hg3 _ hB3 => ?_)
    refine loadN_blk0 hB3 rfl ?_
    exact ⟨rfl, newBox hE1 hB1 hg3⟩
  | false =>
    refine wif_f rfl ?_
    refine storeN_blk0 hB1 rfl (sc rfl) (fun w3 hg3 _ hB3 => ?_)
    refine loadN_blk0 hB3 rfl ?_
    exact ⟨rfl, newBox hE1 hB1 hg3⟩

section
variable {k : Nat} (hk : k ≤ 12)
include hk
theorem rcomb_set {a b : List Br} {ra rb : Int} {o o' : (Nat → Bool) → Bool} (A : Option Addr) (n c : Nat) (B : Option Addr) (m d : Nat) (op : Int) (ho : op ≠ 3) (w : World) (h : SB w A n c a) (h' : SB w B m d b) (s : Set1 k a ra o) (s' : Set1 k b rb o') :
    Fn Tryz.prog 126 [dgV A n c ra, dgV B m d rb, .int .i64 op] w (DgS w k (fun e => opB op (o e) (o' e))) := by
  have l1 := s.len hk
  have l2 := s'.len hk
  have hal := h.2
  have hbl := h'.2
  have hb2 := at2D_bnd s.vd s'.vd op
  have hmul : (a.length + 2) * (b.length + 2) ≤ 4098 * 4098 := Nat.mul_le_mul (by omega) (by omega)
  refine (rcombine_fn A n c a ra B m d b rb op w h h' s.vd.dok s'.vd.dok s.vd.2.1 (by have := s.vd.2.2.1; omega) s'.vd.2.1 (by have := s'.vd.2.2.1; omega) (by omega) (by omega) (by omega) (by omega) ho).mono ?_
  rintro v w' ⟨OA, q, oc, rfl, hE, hO, hR⟩
  exact ⟨OA, q, oc, _, _, rfl, hE, hO, comb_set s s' op, hR⟩

theorem runion_fn {a b : List Br} {ra rb : Int} {o o' : (Nat → Bool) → Bool} (A : Option Addr) (n c : Nat) (B : Option Addr) (m d : Nat) (w : World) (h : SB w A n c a) (h' : SB w B m d b) (s : Set1 k a ra o) (s' : Set1 k b rb o') :
    Fn Tryz.prog 106 [dgV A n c ra, dgV B m d rb] w (DgS w k (fun e => opB 1 (o e) (o' e))) := by
  refine fn_of_exec (c := { c106 with cuts := [] }) gx_ok Tryz.func106 rfl rfl rfl ?_
  refine new (fun w1 hE1 hz1 hB1 => ?_)
  refine new (fun w2 hE2 hz2 hB2 => ?_)
  refine new (fun w3 hE3 hz3 hB3 => ?_)
  have hE03 := (hE1.trans hE2).trans hE3
  refine loadN_blk0 ((hB1.ext hE2).ext hE3) rfl ?_
  refine loadN_blk0 (hB2.ext hE3) rfl ?_
  refine call (rcomb_set hk A n c B m d 1 (by decide) w3 (h.ext hE03) (h'.ext hE03) s s') ?_
  rintro _ w4 ⟨PA, q, pc, nd, r, rfl, hE4, hP4, hS4, hR4⟩
  refine storeN_blk0 (hB3.ext hE4) rfl (sc rfl) (fun w5 hg5 _ hB5 => ?_)
  have hM5 : Mod (· = w2.heap.size) w4 w5 := Mod.of_grown hg5 rfl
  refine loadN_blk0 hB5 rfl ?_
  exact ⟨PA, q, pc, nd, r, rfl, hM5.ext (hE03.trans hE4) (fun i hi => by omega), hP4.mod hM5 (fun i hi e => by have := hR4 i hi; omega), hS4, fun i hi => by have := hR4 i hi; omega⟩
theorem rinter_fn {a b : List Br} {ra rb : Int} {o o' : (Nat → Bool) → Bool} (A : Option Addr) (n c : Nat) (B : Option Addr) (m d : Nat) (w : World) (h : SB w A n c a) (h' : SB w B m d b) (s : Set1 k a ra o) (s' : Set1 k b rb o') :
    Fn Tryz.prog 89 [dgV A n c ra, dgV B m d rb] w (DgS w k (fun e => opB 0 (o e) (o' e))) := by
  refine fn_of_exec (c := { c89 with cuts := [] }) gx_ok Tryz.func89 rfl rfl rfl ?_
  refine new (fun w1 hE1 hz1 hB1 => ?_)
  refine new (fun w2 hE2 hz2 hB2 => ?_)
  refine new (fun w3 hE3 hz3 hB3 => ?_)
  have hE03 := (hE1.trans hE2).trans hE3
  refine loadN_blk0 ((hB1.ext hE2).ext hE3) rfl ?_
  refine loadN_blk0 (hB2.ext hE3) rfl ?_
  refine call (rcomb_set hk A n c B m d 0 (by decide) w3 (h.ext hE03) (h'.ext hE03) s s') ?_
  rintro _ w4 ⟨PA, q, pc, nd, r, rfl, hE4, hP4, hS4, hR4⟩
  refine storeN_blk0 (hB3.ext hE4) rfl (sc rfl) (fun w5 hg5 _ hB5 => ?_)
  have hM5 : Mod (· = w2.heap.size) w4 w5 := Mod.of_grown hg5 rfl
  refine loadN_blk0 hB5 rfl ?_
  exact ⟨PA, q, pc, nd, r, rfl, hM5.ext (hE03.trans hE4) (fun i hi => by omega), hP4.mod hM5 (fun i hi e => by have := hR4 i hi; omega), hS4, fun i hi => by have := hR4 i hi; omega⟩
theorem rcompl_fn {a : List Br} {ra : Int} {o : (Nat → Bool) → Bool} (A : Option Addr) (n c : Nat) (w : World) (h : SB w A n c a) (s : Set1 k a ra o) :
    Fn Tryz.prog 125 [dgV A n c ra] w (DgS w k (fun e => !o e)) := by
  refine fn_of_exec (c := { c125 with cuts := [] }) gx_ok Tryz.func125 rfl rfl rfl ?_
  refine new (fun w1 hE1 hz1 hB1 => ?_)
  refine new (fun w2 hE2 hz2 hB2 => ?_)
  have hE02 := hE1.trans hE2
  have hB12 := hB1.ext hE2
  refine draw_plan gx_ok (Ext w2) 3 [(true, 0), (false, 1), (false, 2)] (by kernel_rfl) (Ext.drew w2) ?_
  refine qloadN (vs := [.slice A n c, .int .i64 ra]) rfl (fun w' hw' j v hj => by have := (hB12.ext hw').cell j; rw [this]; exact hj) ?_
  refine call (rconst_fn true _) ?_
  rintro _ w3 ⟨rfl, hE3⟩
  have hE23 := (Ext.drew w2).trans hE3
  refine ⟨hE23, ?_⟩
  have s1 : Set1 k [] 1 (fun _ => true) := const_set k true
  refine call (rcomb_set hk A n c none 0 0 2 (by decide) w3 (h.ext (hE02.trans hE23)) (SlS.nil _) s s1) ?_
  rintro _ w4 ⟨PA, q, pc, nd, r, rfl, hE4, hP4, hS4, hR4⟩
  have hE24 := hE23.trans hE4
  refine ⟨hE24, ?_⟩
  have hz := (hE02.trans hE23).size
  refine storeN_blk0 (hB2.ext hE24) rfl (sc rfl) (fun w5 hg5 _ hB5 => ?_)
  have hM5 : Mod (· = w1.heap.size) w4 w5 := Mod.of_grown hg5 rfl
  refine loadN_blk0 hB5 rfl ?_
  have hz2' := hE23.size
  exact ⟨PA, q, pc, nd, r, rfl, hM5.ext (hE02.trans hE24) (fun i hi => by omega), hP4.mod hM5 (fun i hi e => by have := hR4 i hi; omega), hS4.congr (fun e => by cases o e <;> rfl), fun i hi => by have := hR4 i hi; omega⟩
theorem rminus_fn {a b : List Br} {ra rb : Int} {o o' : (Nat → Bool) → Bool} (A : Option Addr) (n c : Nat) (B : Option Addr) (m d : Nat) (w : World) (h : SB w A n c a) (h' : SB w B m d b) (s : Set1 k a ra o) (s' : Set1 k b rb o') :
    Fn Tryz.prog 88 [dgV A n c ra, dgV B m d rb] w (DgS w k (fun e => o e && !o' e)) := by
  refine fn_of_exec (c := { c88 with cuts := [] }) gx_ok Tryz.func88 rfl rfl rfl ?_
  refine new (fun w1 hE1 hz1 hB1 => ?_)
  refine new (fun w2 hE2 hz2 hB2 => ?_)
  refine new (fun w3 hE3 hz3 hB3 => ?_)
  have hE03 := (hE1.trans hE2).trans hE3
  have hB13 := (hB1.ext hE2).ext hE3
  have hB23 := hB2.ext hE3
  refine draw_plan gx_ok (Ext w3) 4 [(true, 0), (true, 1), (false, 2), (false, 3)] (by kernel_rfl) (Ext.drew w3) ?_
  refine qloadN (vs := [.slice A n c, .int .i64 ra]) rfl (fun w' hw' j v hj => by have := (hB13.ext hw').cell j; rw [this]; exact hj) ?_
  refine qloadN (vs := [.slice B m d, .int .i64 rb]) rfl (fun w' hw' j v hj => by have := (hB23.ext hw').cell j; rw [this]; exact hj) ?_
  refine call (rcompl_fn hk B m d _ (h'.ext (hE03.trans (Ext.drew w3))) s') ?_
  rintro _ w4 ⟨QA, q1, qc, nd1, r1, rfl, hE4, hQ4, hT4, _⟩
  have hE34 := (Ext.drew w3).trans hE4
  refine ⟨hE34, ?_⟩
  refine call (rinter_fn hk A n c QA q1 qc w4 (h.ext (hE03.trans hE34)) hQ4 s hT4) ?_
  rintro _ w5 ⟨PA, q, pc, nd, r, rfl, hE5, hP5, hS5, hR5⟩
  have hE35 := hE34.trans hE5
  refine ⟨hE35, ?_⟩
  have hz3' := hE34.size
  refine storeN_blk0 (hB3.ext hE35) rfl (sc rfl) (fun w6 hg6 _ hB6 => ?_)
  have hM6 : Mod (· = w2.heap.size) w5 w6 := Mod.of_grown hg6 rfl
  refine loadN_blk0 hB6 rfl ?_
  exact ⟨PA, q, pc, nd, r, rfl, hM6.ext (hE03.trans hE35) (fun i hi => by omega), hP5.mod hM6 (fun i hi e => by have := hR5 i hi; omega), hS5.congr (fun e => by simp [opB]), fun i hi => by have := hR5 i hi; omega⟩
theorem rnot_fn {a : List Br} {ra : Int} {o : (Nat → Bool) → Bool} (A : Option Addr) (n c : Nat) (w : World) (h : SB w A n c a) (s : Set1 k a ra o) :
    Fn Tryz.prog 157 [dgV A n c ra] w (DgSE w k (fun e => !o e)) := by
  refine fn_of_exec (c := { c157 with cuts := [] }) gx_ok Tryz.func157 rfl rfl rfl ?_
  refine new (fun w1 hE1 hz1 hB1 => ?_)
  refine new (fun w2 hE2 hz2 hB2 => ?_)
  have hE02 := hE1.trans hE2
  have hB12 := hB1.ext hE2
  refine loadN_blk0 hB12 rfl ?_
  refine call (rcheck2_fn A n c a ra w2 (h.ext hE02)) ?_
  rintro _ w3 ⟨rfl, hE3⟩
  refine wif_nef (s.chk hk) ?_
  have hE03 := hE02.trans hE3
  refine loadN_blk0 (hB12.ext hE3) rfl ?_
  refine call (rcompl_fn hk A n c w3 (h.ext hE03) s) ?_
  rintro _ w4 ⟨QA, q1, qc, nd1, r1, rfl, hE4, hQ4, hT4, hR4⟩
  have hE24 := hE3.trans hE4
  have hl := hT4.len hk
  refine call (rlimited_fn QA q1 qc nd1 r1 w2 w4 hQ4 (fun i hi => by have := hR4 i hi; have := hE3.size; omega) hE24) ?_
  rw [show limD (nd1, r1) = ((nd1, r1), 0) from if_neg (by show ¬ 4096 < nd1.length; omega)]
  rintro _ w5 ⟨PA, q, pc, rfl, hE5, hP5, hR5⟩
  refine storeN_blk0 (hB2.ext hE5) rfl (sc rfl) (fun w6 hg6 _ hB6 => ?_)
  have hM6 : Mod (· = w1.heap.size) w5 w6 := Mod.of_grown hg6 rfl
  refine loadN_blk0 hB6 rfl ?_
  exact ⟨PA, q, pc, nd1, r1, rfl, hM6.ext (hE02.trans hE5) (fun i hi => by omega), SB.mod hP5 hM6 (fun i hi e => by have := hR5 i hi; omega), hT4, fun i hi => by have := hR5 i hi; omega⟩
theorem rand_fn {a b : List Br} {ra rb : Int} {o o' : (Nat → Bool) → Bool} (A : Option Addr) (n c : Nat) (B : Option Addr) (m d : Nat) (w : World) (h : SB w A n c a) (h' : SB w B m d b) (s : Set1 k a ra o) (s' : Set1 k b rb o') :
    Fn Tryz.prog 158 [dgV A n c ra, dgV B m d rb] w (DgSE w k (fun e => opB 0 (o e) (o' e))) := by
  have hb2 := at2D_bnd s.vd s'.vd 0
  have l1 := s.len hk
  have l2 := s'.len hk
  have hmul : (a.length + 2) * (b.length + 2) ≤ 4098 * 4098 := Nat.mul_le_mul (by omega) (by omega)
  refine fn_of_exec (c := { c158 with cuts := [] }) gx_ok Tryz.func158 rfl rfl rfl ?_
  refine new (fun w1 hE1 hz1 hB1 => ?_)
  refine new (fun w2 hE2 hz2 hB2 => ?_)
  refine new (fun w3 hE3 hz3 hB3 => ?_)
  have hE03 := (hE1.trans hE2).trans hE3
  refine loadN_blk0 ((hB1.ext hE2).ext hE3) rfl ?_
  refine loadN_blk0 (hB2.ext hE3) rfl ?_
  refine call (roperation_fn A n c a ra B m d b rb 0 w3 (h.ext hE03) (h'.ext hE03) (fun _ _ => by omega) (by decide)) ?_
  rw [op_set hk s s' 0]
  rintro _ w4 ⟨PA, q, pc, rfl, hE4, hP4, hR4⟩
  refine storeN_blk0 (hB3.ext hE4) rfl (sc rfl) (fun w5 hg5 _ hB5 => ?_)
  have hM5 : Mod (· = w2.heap.size) w4 w5 := Mod.of_grown hg5 rfl
  refine loadN_blk0 hB5 rfl ?_
  exact ⟨PA, q, pc, _, _, rfl, hM5.ext (hE03.trans hE4) (fun i hi => by omega), SB.mod hP4 hM5 (fun i hi e => by have := hR4 i hi; omega), comb_set s s' 0, fun i hi => by have := hR4 i hi; omega⟩
theorem ror_fn {a b : List Br} {ra rb : Int} {o o' : (Nat → Bool) → Bool} (A : Option Addr) (n c : Nat) (B : Option Addr) (m d : Nat) (w : World) (h : SB w A n c a) (h' : SB w B m d b) (s : Set1 k a ra o) (s' : Set1 k b rb o') :
    Fn Tryz.prog 159 [dgV A n c ra, dgV B m d rb] w (DgSE w k (fun e => opB 1 (o e) (o' e))) := by
  have hb2 := at2D_bnd s.vd s'.vd 1
  have l1 := s.len hk
  have l2 := s'.len hk
  have hmul : (a.length + 2) * (b.length + 2) ≤ 4098 * 4098 := Nat.mul_le_mul (by omega) (by omega)
  refine fn_of_exec (c := { c159 with cuts := [] }) gx_ok Tryz.func159 rfl rfl rfl ?_
  refine new (fun w1 hE1 hz1 hB1 => ?_)
  refine new (fun w2 hE2 hz2 hB2 => ?_)
  refine new (fun w3 hE3 hz3 hB3 => ?_)
  have hE03 := (hE1.trans hE2).trans hE3
  refine loadN_blk0 ((hB1.ext hE2).ext hE3) rfl ?_
  refine loadN_blk0 (hB2.ext hE3) rfl ?_
  refine call (roperation_fn A n c a ra B m d b rb 1 w3 (h.ext hE03) (h'.ext hE03) (fun _ _ => by omega) (by decide)) ?_
  rw [op_set hk s s' 1]
  rintro _ w4 ⟨PA, q, pc, rfl, hE4, hP4, hR4⟩
  refine storeN_blk0 (hB3.ext hE4) rfl (sc rfl) (fun w5 hg5 _ hB5 => ?_)
  have hM5 : Mod (· = w2.heap.size) w4 w5 := Mod.of_grown hg5 rfl
  refine loadN_blk0 hB5 rfl ?_
  exact ⟨PA, q, pc, _, _, rfl, hM5.ext (hE03.trans hE4) (fun i hi => by omega), SB.mod hP4 hM5 (fun i hi e => by have := hR4 i hi; omega), comb_set s s' 1, fun i hi => by have := hR4 i hi; omega⟩
end

theorem var_set {k v : Nat} (hv : v < k) (hk : k ≤ 64) : Set1 k [⟨(v : Nat), 0, 1⟩] 2 (fun e => e v) := ⟨vd_var (by omega) (by omega), fun b hb => by simp only [List.mem_singleton] at hb; subst hb; show ((v : Nat) : Int) < k; omega, fun e => by
  rw [ev_ge (vd_var (k := ((v : Nat) : Int)) (by omega) (by omega)).wf (by decide) (b := ⟨(v : Nat), 0, 1⟩) rfl, ev_lt (by simp), ev_lt (by simp)]
  cases h : e v <;> simp [h]⟩
end Go.Proofs.YtedopgkbajhanaaGreatDoor
