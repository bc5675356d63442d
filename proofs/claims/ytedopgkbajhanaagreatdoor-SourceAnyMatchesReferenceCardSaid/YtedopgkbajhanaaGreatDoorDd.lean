/-
  The program's operations on diagrams: combine, And, Or, Not.
  Conditions: none.
-/
import Derived.Test.YtedopgkbajhanaaGreatDoorDc
import Derived.Test.YtedopgkbajhanaaGreatDoorKj
namespace Go.Proofs.YtedopgkbajhanaaGreatDoor
open Go Go.RowKit

theorem newbuilder_fn (w : World) : Fn Tryz.prog 134 [] w (fun v w' => v = VP.ptr (w.heap.size + 1) ∧ Ext w w' ∧ w'.heap.size = w.heap.size + 2 ∧ Blk w' (w.heap.size + 1) 159 [.slice none 0 0, .map (some w.heap.size)] ∧ MapQ brK w' w.heap.size []) := by
  refine fn_of_exec (c := { c134 with cuts := [] }) gx_ok Tryz.func134 rfl rfl rfl ?_
  refine at_makeMapQ gx_ok brK rfl ?_
  intro w1 hE1 hz1 hm1
  refine new (fun w2 hE2 hz2 hB2 => ?_)
  rw [hz1] at hB2
  exact ⟨by rw [hz1]; rfl, hE1.trans hE2, by omega, hB2, hm1.ext hE2⟩

theorem dcombine_fn (A : Option Addr) (n c : Nat) (a : List Br) (ra : Int) (B : Option Addr) (m d : Nat) (b : List Br) (rb op : Int) (F ob : Nat) (w : World) (hF : CloOp F op) (h : SB w A n c a) (h' : SB w B m d b) (hob : Blk w ob 113 [.func (.func F) #[] #[]]) (ha : DOk a) (hb : DOk b) (r0 : 0 ≤ ra) (r1 : ra < n + 2) (s0 : 0 ≤ rb) (s1 : rb < m + 2) (hn : n ≤ 1000000000000) (hm : m ≤ 1000000000000)
    (hl1 : (at2D a ra b rb op).2.1.length ≤ 100000000000) :
    Fn Tryz.prog 104 [.agg #[.slice A n c, .int .i64 ra, .slice B m d, .int .i64 rb, .slice none 0 0, .int .i64 0], .func (.func 105) #[] #[VP.ptr ob]] w (DgRes w (combD a ra b rb op)) := by
  have hal := h.2
  have hbl := h'.2
  have hobl := hob.lt
  refine fn_of_exec (c := { c104 with cuts := [] }) gx_ok Tryz.func104 rfl rfl rfl ?_
  refine new (fun w1 hE1 hz1 hB1 => ?_)
  refine new (fun w2 hE2 hz2 hB2 => ?_)
  refine new (fun w3 hE3 hz3 hB3 => ?_)
  refine call (newbuilder_fn w3) ?_
  rintro _ w4 ⟨rfl, hE4, hz4, hB4, hk4⟩
  refine new (fun w5 hE5 hz5 hB5 => ?_)
  refine store_mod (j := 0) hB5 (by decide) (fun w6 hM6 hB6 => ?_)
  have hE46 : Ext w4 w6 := hM6.ext hE5 (fun i hi => by omega)
  refine at_makeMapQ gx_ok i3K rfl ?_
  intro w7 hE7 hz7 hq7
  refine new (fun w8 hE8 hz8 hB8 => ?_)
  refine store_mod (j := 0) hB8 (by decide) (fun w9 hM9 hB9 => ?_)
  have hE79 : Ext w7 w9 := hM9.ext hE8 (fun i hi => by omega)
  refine new (fun w10 hE10 hz10 hB10 => ?_)
  refine store_mod (j := 0) hB10 (by decide) (fun w11 hM11 hB11 => ?_)
  have z6 := hM6.size
  have z9 := hM9.size
  have z11 := hM11.size
  have hE911 : Ext w9 w11 := hM11.ext hE10 (fun i hi => by omega)
  have hE611 : Ext w6 w11 := (hE7.trans hE79).trans hE911
  have hE411 : Ext w4 w11 := hE46.trans hE611
  have hE34 := hE4
  have hE311 : Ext w3 w11 := hE4.trans hE411
  have hE011 : Ext w w11 := ((hE1.trans hE2).trans hE3).trans hE311
  let D : AD := ⟨A, n, c, a, ra, B, m, d, b, rb, op⟩
  let p : CP := ⟨w1.heap.size, ob, w7.heap.size, w.heap.size, w9.heap.size, w4.heap.size, w3.heap.size + 1, w3.heap.size, w6.heap.size, F, D⟩
  have g11 := hB11.lt
  have hK : CK w11 w11.heap.size p := by
    refine ⟨hF, hB2.ext (hE3.trans hE311), hob.ext hE011, hB9.ext hE911, hB1.ext ((hE2.trans hE3).trans hE311), hB11, hB6.ext hE611, h.ext hE011, h'.ext hE011, fun k hk => ?_, fun ad e h0 => ?_, fun ad e h0 => ?_⟩
    · simp only [p] at hk ⊢
      rcases hk with rfl | rfl | rfl | rfl | rfl | rfl <;> omega
    · have := SB.lt h ad e h0
      simp only [p]; omega
    · have := SB.lt h' ad e h0
      simp only [p]; omega
  have hS : CSt w11 w11.heap.size p none 0 ([], []) := by
    refine ⟨⟨hB4.ext hE411, Own.nil _ _ _ _, ⟨[], hk4.ext hE411, fun _ => rfl⟩, ?_, Nat.le_refl _⟩, ⟨[], hq7.ext (hE79.trans hE911), fun _ _ => rfl⟩, ?_⟩
    · simp only [p]; omega
    · simp only [p]; omega
  have hno : ∀ i, rowS none i → w11.heap.size ≤ i := fun i hi => by obtain ⟨_, e, _⟩ := hi; cases e
  have nof := fun k hk => CS.no (p := p) hno (hK.off k hk)
  refine draw_plan gx_ok (Mod (CS p none) w11) 14 [(true, 0), (true, 1), (true, 2), (true, 3), (true, 4), (true, 5), (true, 6), (true, 7), (true, 8), (true, 9), (true, 10), (true, 11), (false, 12), (false, 13)] (by kernel_rfl) (Mod.of_ext _ (Ext.drew w11)) ?_
  refine qload (v := VP.ptr p.pb) (fun w' hw' => by rw [(hK.bxb.mod hw' (nof _ (by simp))).cell0]; rfl) ?_
  refine qload (v := p.clo) (fun w' hw' => by rw [(hK.axb.mod hw' (nof _ (by simp))).cell0]; rfl) ?_
  refine index_n (j := 0) (by decide) ?_
  refine qload (v := .int .i64 ra) (fun w' hw' => by rw [add_add, (hK.lxb.mod hw' (nof _ (by simp))).cell]; rfl) ?_
  refine index_n (j := 1) (by decide) ?_
  refine qload (v := .int .i64 rb) (fun w' hw' => by rw [add_add, (hK.lxb.mod hw' (nof _ (by simp))).cell]; rfl) ?_
  refine index_n (j := 2) (by decide) ?_
  refine qload (v := .int .i64 0) (fun w' hw' => by rw [add_add, (hK.lxb.mod hw' (nof _ (by simp))).cell]; rfl) ?_
  have inv := at2_inv ha hb op (ra.toNat + rb.toNat + 1) ra rb ([], []) ⟨fun j x hx => by simp at hx, fun t ht => by simp at ht⟩ r0 s0 (by omega) (by omega)
  refine call (at3_fn w11.heap.size p ha hb ⟨hn, hm⟩ (ra.toNat + rb.toNat + 1) ra rb ([], []) none 0 _ (hK.ext (Ext.drew w11)) (hS.ext (Ext.drew w11)) r0 s0 (by omega) r1 s1 hl1) ?_
  rintro _ w12 ⟨rfl, NA, nc, hS12, hM12', hV12⟩
  have hM12 : Mod (CS p none) w11 w12 := (Mod.of_ext _ (Ext.drew w11)).trans hM12' (fun i hi => .inl hi)
  refine ⟨hM12, ?_⟩
  have hl1' : (at2 a b op (ra.toNat + rb.toNat + 1) ra rb ([], [])).2.1.length ≤ 100000000000 := hl1
  have hN12 : SB w12 NA _ nc _ := ⟨hS12.bd.own.sl, rfl⟩
  refine call (diagram_fn p.pb (.map (some p.km)) NA _ nc _ _ w12 hS12.bd.blk hN12 inv.1.1 (by show (at2 a b op (ra.toNat + rb.toNat + 1) ra rb ([], [])).2.1.length ≤ _; omega) inv.2.1 inv.2.2 (SB.lt hN12)) ?_
  rintro _ w13 ⟨OA, k, oc, rfl, hE13, hO13, hR13⟩
  have hM13 : Mod (CS p none) w11 w13 := hM12.trans (Mod.of_ext (CS p none) hE13) (fun i hi => .inl hi)
  refine ⟨hM13, ?_⟩
  have nres : ¬ CS p none w2.heap.size := CS.no (p := p) hno (by simp only [p]; omega)
  have hB13 := (hB3.ext hE311).mod hM13 nres
  refine storeN_blk0 hB13 rfl (sc rfl) (fun w14 hg14 _ hB14 => ?_)
  have hM14 : Mod (· = w2.heap.size) w13 w14 := Mod.of_grown hg14 rfl
  refine loadN_blk0 hB14 rfl ?_
  have hE013 : Ext w w13 := hM13.ext hE011 (fun i hi => by
    rcases hi with e | e | e | ⟨_, e, _⟩
    · simp only [p] at e; omega
    · simp only [p] at e; omega
    · simp only [p] at e; omega
    · cases e)
  have z12 := hM12.size
  have nr : ∀ i, rowS OA i → ¬ i = w2.heap.size := fun i hi e => by have := hR13 i hi; omega
  refine ⟨OA, k, oc, rfl, hM14.ext hE013 (fun i hi => by omega), ⟨hO13.1.modS hM14 (fun _ i hi => nr i hi), hO13.2⟩, fun i hi => by have := hR13 i hi; have := hE011.size; omega⟩

theorem dbinary_fn (A : Option Addr) (n c : Nat) (a : List Br) (ra : Int) (B : Option Addr) (m d : Nat) (b : List Br) (rb op : Int) (F : Nat) (w : World) (hF : CloOp F op) (h : SB w A n c a) (h' : SB w B m d b) :
    Fn Tryz.prog 64 [dgV A n c ra, dgV B m d rb, .func (.func F) #[] #[]] w (DgE w (opD a ra b rb op)) := by
  have hal := h.2
  have hbl := h'.2
  refine fn_of_exec (c := { c64 with cuts := [] }) gx_ok Tryz.func64 rfl rfl rfl ?_
  refine new (fun w1 hE1 hz1 hB1 => ?_)
  refine new (fun w2 hE2 hz2 hB2 => ?_)
  refine new (fun w3 hE3 hz3 hB3 => ?_)
  refine new (fun w4 hE4 hz4 hB4 => ?_)
  have hE24 := hE3.trans hE4
  have hE04 := (hE1.trans hE2).trans hE24
  have hB14 := (hB1.ext hE2).ext hE24
  have hB24 := hB2.ext hE24
  have hB34 := hB3.ext hE4
  refine loadN_blk0 hB14 rfl ?_
  refine loadN_blk0 hB24 rfl ?_
  refine at_buildN gx_ok [(⟨A, n, c, a, ra⟩ : DV).cells, (⟨B, m, d, b, rb⟩ : DV).cells] rfl rfl rfl rfl rfl ⟨rfl, rfl, rfl, rfl, ⟨⟩⟩ rfl (fun cs h => by simp only [List.mem_cons, List.not_mem_nil, or_false] at h; rcases h with rfl | rfl <;> rfl) rfl (by decide) (by decide) ?_
  intro w5 hE5 hz5 hB5
  have hE05 := hE04.trans hE5
  have hL : SlS DV.cells 2 w5 (some ⟨w4.heap.size, 0, none⟩) 2 2 [⟨A, n, c, a, ra⟩, ⟨B, m, d, b, rb⟩] := ⟨Sl.own (sz := 2) (n := 2) hB5 (Nat.le_refl _) (by decide) (by simp [DV.cells]), rfl⟩
  refine call (dcheck_fn _ 2 2 _ w5 hL (fun x hx => by
    simp only [List.mem_cons, List.not_mem_nil, or_false] at hx
    rcases hx with rfl | rfl
    · exact h.ext hE05
    · exact h'.ext hE05)) ?_
  rintro v w6 ⟨rfl, hE6⟩
  have hE46 := hE5.trans hE6
  have hE06 := hE04.trans hE46
  have hB46 := hB4.ext hE46
  have hz4' := hE46.size
  have ef : firstD [(⟨A, n, c, a, ra⟩ : DV), ⟨B, m, d, b, rb⟩] = if chkD a ra ≠ 0 then chkD a ra else if chkD b rb ≠ 0 then chkD b rb else 0 := rfl
  refine wif_ne (fun c1 => ?_) (fun c1 => ?_)
  · have e : opD a ra b rb op = (([], 0), firstD [(⟨A, n, c, a, ra⟩ : DV), ⟨B, m, d, b, rb⟩]) := by
      rw [ef] at c1 ⊢
      unfold opD
      split
      · rfl
      · rename_i hh
        rw [if_neg hh] at c1
        split
        · rfl
        · rename_i hh2; rw [if_neg hh2] at c1; exact absurd rfl c1
    rw [e]
    refine storeN_blk0 hB46 rfl (sc rfl) (fun w7 hg7 _ hB7 => ?_)
    have hM7 : Mod (· = w3.heap.size) w6 w7 := Mod.of_grown hg7 rfl
    refine loadN_blk0 hB7 rfl ?_
    exact ⟨none, 0, 0, rfl, hM7.ext hE06 (fun i hi => by omega), SlS.nil _, fun i ⟨_, e, _⟩ => by cases e⟩
  · rw [ef] at c1
    have ca : chkD a ra = 0 := by
      by_cases hh : chkD a ra = 0
      · exact hh
      · rw [if_pos hh] at c1; exact c1
    have cb : chkD b rb = 0 := by
      rw [if_neg (fun hh => hh ca)] at c1
      by_cases hh : chkD b rb = 0
      · exact hh
      · rw [if_pos hh] at c1; exact c1
    obtain ⟨sa, va⟩ := chkD_zero.1 ca
    obtain ⟨sb, vb⟩ := chkD_zero.1 cb
    have e : opD a ra b rb op = limD (combD a ra b rb op) := by unfold opD; rw [if_neg (fun hh => hh ca), if_neg (fun hh => hh cb)]
    rw [e]
    have hb2 := at2D_bnd va vb op
    have hmul : (a.length + 2) * (b.length + 2) ≤ 4098 * 4098 := Nat.mul_le_mul (by omega) (by omega)
    refine loadN_blk0 (hB14.ext hE46) rfl ?_
    refine loadN_blk0 (hB24.ext hE46) rfl ?_
    have hob : Blk w6 w2.heap.size 113 [.func (.func F) #[] #[]] := hB34.ext hE46
    refine call (dcombine_fn A n c a ra B m d b rb op F w2.heap.size w6 hF (h.ext hE06) (h'.ext hE06) hob va.dok vb.dok va.2.1 (by have := va.2.2.1; omega) vb.2.1 (by have := vb.2.2.1; omega) (by omega) (by omega) (by omega)) ?_
    rintro v w7 ⟨OA, k, oc, rfl, hE7, hO7, hR7⟩
    have hE47 := hE46.trans hE7
    have hE07 := hE04.trans hE47
    have z67 := hE06.size
    refine call (dlimited_fn OA k oc _ _ w4 w7 hO7 (fun i hi => by have := hR7 i hi; omega) hE47) ?_
    rintro v w8 ⟨PA, q, pc, rfl, hE8, hP8, hR8⟩
    refine storeN_blk0 (hB4.ext hE8) rfl (sc rfl) (fun w9 hg9 _ hB9 => ?_)
    have hM9 : Mod (· = w3.heap.size) w8 w9 := Mod.of_grown hg9 rfl
    refine loadN_blk0 hB9 rfl ?_
    refine ⟨PA, q, pc, rfl, hM9.ext (hE04.trans hE8) (fun i hi => by omega), ⟨hP8.1.modS hM9 (fun _ i hi e => by have := hR8 i hi; omega), hP8.2⟩, fun i hi => by have := hR8 i hi; omega⟩

theorem dand_fn (A : Option Addr) (n c : Nat) (a : List Br) (ra : Int) (B : Option Addr) (m d : Nat) (b : List Br) (rb : Int) (w : World) (h : SB w A n c a) (h' : SB w B m d b) :
    Fn Tryz.prog 117 [dgV A n c ra, dgV B m d rb] w (DgE w (opD a ra b rb 0)) := by
  refine fn_of_exec (c := { c117 with cuts := [] }) gx_ok Tryz.func117 rfl rfl rfl ?_
  refine new (fun w1 hE1 hz1 hB1 => ?_)
  refine new (fun w2 hE2 hz2 hB2 => ?_)
  refine new (fun w3 hE3 hz3 hB3 => ?_)
  have hE03 := (hE1.trans hE2).trans hE3
  refine loadN_blk0 ((hB1.ext hE2).ext hE3) rfl ?_
  refine loadN_blk0 (hB2.ext hE3) rfl ?_
  refine call (dbinary_fn A n c a ra B m d b rb 0 149 w3 (.inl ⟨rfl, rfl⟩) (h.ext hE03) (h'.ext hE03)) ?_
  rintro v w4 ⟨PA, q, pc, rfl, hE4, hP4, hR4⟩
  refine storeN_blk0 (hB3.ext hE4) rfl (sc rfl) (fun w5 hg5 _ hB5 => ?_)
  have hM5 : Mod (· = w2.heap.size) w4 w5 := Mod.of_grown hg5 rfl
  refine loadN_blk0 hB5 rfl ?_
  obtain ⟨g1, g2, g3⟩ := dg_wrap (r := opD a ra b rb 0) (hE03.trans hE4) hM5 (by omega) hP4 (fun i hi => by have := hR4 i hi; omega)
  exact ⟨PA, q, pc, rfl, g1, g2, g3⟩
theorem dor_fn (A : Option Addr) (n c : Nat) (a : List Br) (ra : Int) (B : Option Addr) (m d : Nat) (b : List Br) (rb : Int) (w : World) (h : SB w A n c a) (h' : SB w B m d b) :
    Fn Tryz.prog 36 [dgV A n c ra, dgV B m d rb] w (DgE w (opD a ra b rb 1)) := by
  refine fn_of_exec (c := { c36 with cuts := [] }) gx_ok Tryz.func36 rfl rfl rfl ?_
  refine new (fun w1 hE1 hz1 hB1 => ?_)
  refine new (fun w2 hE2 hz2 hB2 => ?_)
  refine new (fun w3 hE3 hz3 hB3 => ?_)
  have hE03 := (hE1.trans hE2).trans hE3
  refine loadN_blk0 ((hB1.ext hE2).ext hE3) rfl ?_
  refine loadN_blk0 (hB2.ext hE3) rfl ?_
  refine call (dbinary_fn A n c a ra B m d b rb 1 65 w3 (.inr (.inl ⟨rfl, rfl⟩)) (h.ext hE03) (h'.ext hE03)) ?_
  rintro v w4 ⟨PA, q, pc, rfl, hE4, hP4, hR4⟩
  refine storeN_blk0 (hB3.ext hE4) rfl (sc rfl) (fun w5 hg5 _ hB5 => ?_)
  have hM5 : Mod (· = w2.heap.size) w4 w5 := Mod.of_grown hg5 rfl
  refine loadN_blk0 hB5 rfl ?_
  obtain ⟨g1, g2, g3⟩ := dg_wrap (r := opD a ra b rb 1) (hE03.trans hE4) hM5 (by omega) hP4 (fun i hi => by have := hR4 i hi; omega)
  exact ⟨PA, q, pc, rfl, g1, g2, g3⟩
theorem dnot_fn (A : Option Addr) (n c : Nat) (a : List Br) (ra : Int) (w : World) (h : SB w A n c a) :
    Fn Tryz.prog 118 [dgV A n c ra] w (DgE w (opD a ra [] 0 3)) := by
  refine fn_of_exec (c := { c118 with cuts := [] }) gx_ok Tryz.func118 rfl rfl rfl ?_
  refine new (fun w1 hE1 hz1 hB1 => ?_)
  refine new (fun w2 hE2 hz2 hB2 => ?_)
  have hE02 := hE1.trans hE2
  refine loadN_blk0 (hB1.ext hE2) rfl ?_
  refine call (dbinary_fn A n c a ra none 0 0 [] 0 3 150 w2 (.inr (.inr ⟨rfl, rfl⟩)) (h.ext hE02) (SlS.nil _)) ?_
  rintro v w4 ⟨PA, q, pc, rfl, hE4, hP4, hR4⟩
  refine storeN_blk0 (hB2.ext hE4) rfl (sc rfl) (fun w5 hg5 _ hB5 => ?_)
  have hM5 : Mod (· = w1.heap.size) w4 w5 := Mod.of_grown hg5 rfl
  refine loadN_blk0 hB5 rfl ?_
  obtain ⟨g1, g2, g3⟩ := dg_wrap (r := opD a ra [] 0 3) (hE02.trans hE4) hM5 (by omega) hP4 (fun i hi => by have := hR4 i hi; omega)
  exact ⟨PA, q, pc, rfl, g1, g2, g3⟩
end Go.Proofs.YtedopgkbajhanaaGreatDoor
