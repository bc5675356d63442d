/-
  Equal formulas (the reference's Same); Xor of diagrams.
  The example of the chapter, as the laws evaluate it first.
  The example of the chapter: the walk.
  Conditions: none.
-/
import Derived.Test.YtdbhjlpkopnebaaGreatDoorKi
import Derived.Test.YtdbhjlpkopnebaaGreatDoorKf
namespace Go.Proofs.YtdbhjlpkopnebaaGreatDoor
section
open Go Go.RowKit

theorem fz_eq {x y : Fz} : x = y ↔ x.o = y.o ∧ x.v = y.v ∧ x.a = y.a ∧ x.b = y.b := by
  constructor
  · rintro rfl; exact ⟨rfl, rfl, rfl, rfl⟩
  · obtain ⟨a, b, c, d⟩ := x; obtain ⟨a', b', c', d'⟩ := y
    simp only
    rintro ⟨rfl, rfl, rfl, rfl⟩; rfl

theorem rsamef_fn (A B : Option Addr) (n c m e : Nat) (l l' : List Fz) (w : World) (h : SF w A n c l) (h' : SF w B m e l') :
    Fn Tryz.prog 16 [.slice A n c, .slice B m e] w (fun v w' => v = .bool (decide (l = l')) ∧ Ext w w') := by
  have hl := h.2
  have hl' := h'.2
  have hcap : n ≤ 9223372036854775807 := by have := h.1.le; have := h.1.cap; simp only [maxLen] at this; omega
  refine fn_of_exec (c := { c16 with cuts := [] }) gx_ok Tryz.func16 rfl rfl rfl ?_
  refine wif_ne (fun h1 => ?_) (fun h1 => ?_)
  · exact ⟨by rw [decide_eq_false (fun e => h1 (by subst e; omega))], Ext.refl _⟩
  refine loop gx_ok [5] (fun s : Nat => [.int .i64 s]) (fun s w' => Ext w w' ∧ s ≤ n ∧ ∀ j, j < s → l[j]? = l'[j]?) (fun s _ => n - s) 0 rfl ⟨Ext.refl w, Nat.zero_le _, fun j hj => absurd hj (by omega)⟩ ?_
  rintro s w3 ⟨hE3, hs, hall⟩
  refine wif_d (fun h3 => ?_) (fun h3 => ?_)
  · refine draw_plan gx_ok (Ext w3) 9 [(true, 0), (true, 1), (true, 2), (true, 3), (true, 4), (true, 5), (true, 6), (true, 7), (true, 8)] (by kernel_rfl) (Ext.drew w3) ?_
    refine index_sls fz_len (h.ext hE3) rfl (by omega) (fun p x hx hc => ?_)
    refine qloadN (vs := x.cells) rfl (fun w' hw' j v hj => hw'.cell (hc j v hj)) ?_
    refine index_sls fz_len (h'.ext hE3) rfl (by omega) (fun q y hy hc' => ?_)
    refine qloadN (vs := y.cells) rfl (fun w' hw' j v hj => hw'.cell (hc' j v hj)) ?_
    have hEd := hE3.trans (Ext.drew w3)
    by_cases hxy : x = y
    · refine wif_f (by rw [eq4, decide_eq_true (fz_eq.1 hxy)]; rfl) ?_
      refine norm_i64_to ((s + 1 : Nat) : Int) (by omega) (by omega) ?_
      refine ⟨s + 1, rfl, ⟨hEd, by omega, fun j hj => ?_⟩, by show n - (s + 1) < n - s; omega⟩
      by_cases hjs : j < s
      · exact hall j hjs
      · have : j = s := by omega
        subst this
        rw [hx, hy, hxy]
    · refine wif_t (by rw [eq4, decide_eq_false (fun e => hxy (fz_eq.2 e))]; rfl) ?_
      refine ⟨?_, hEd⟩
      rw [decide_eq_false (fun e => list_ne hx hy hxy e)]
  · refine ⟨?_, hE3⟩
    have e1 := list_eq hl (by omega) (fun j hj => hall j (by omega))
    rw [decide_eq_true e1]

theorem dg_wrap {w1 w2 w : World} {g : Nat} {r : (List Br × Int) × Int} {A : Option Addr} {n c : Nat} (hE : Ext w w1) (hM : Mod (· = g) w1 w2) (hg : w.heap.size ≤ g) (hs : SB w1 A n c r.1.1) (hr : ∀ i, rowS A i → g < i) :
    Ext w w2 ∧ SB w2 A n c r.1.1 ∧ ∀ i, rowS A i → w.heap.size ≤ i :=
  ⟨hM.ext hE (fun i hi => by omega), ⟨hs.1.modS hM (fun _ i hi e => by have := hr i hi; omega), hs.2⟩, fun i hi => by have := hr i hi; omega⟩

theorem rxor_fn (A : Option Addr) (n c : Nat) (a : List Br) (ra : Int) (B : Option Addr) (m d : Nat) (b : List Br) (rb : Int) (w : World) (h : SB w A n c a) (h' : SB w B m d b) :
    Fn Tryz.prog 22 [dgV A n c ra, dgV B m d rb] w (DgE w (opD a ra b rb 2)) := by
  refine fn_of_exec (c := { c22 with cuts := [] }) gx_ok Tryz.func22 rfl rfl rfl ?_
  refine new (fun w1 hE1 hz1 hB1 => ?_)
  refine new (fun w2 hE2 hz2 hB2 => ?_)
  refine new (fun w3 hE3 hz3 hB3 => ?_)
  have hE03 := (hE1.trans hE2).trans hE3
  refine loadN_blk0 ((hB1.ext hE2).ext hE3) rfl ?_
  refine loadN_blk0 (hB2.ext hE3) rfl ?_
  refine call (roperation_fn A n c a ra B m d b rb 2 w3 (h.ext hE03) (h'.ext hE03) (fun ha hb => ?_) (by decide)) ?_
  · obtain ⟨la, va⟩ := chkD_zero.1 ha
    obtain ⟨lb, vb⟩ := chkD_zero.1 hb
    have hb2 := at2D_bnd va vb 2
    have : (a.length + 2) * (b.length + 2) ≤ 4098 * 4098 := Nat.mul_le_mul (by omega) (by omega)
    omega
  rintro v w4 ⟨PA, q, pc, rfl, hE4, hP4, hR4⟩
  refine storeN_blk0 (hB3.ext hE4) rfl (sc rfl) (fun w8 hg8 _ hB8 => ?_)
  have hM8 : Mod (· = w2.heap.size) w4 w8 := Mod.of_grown hg8 rfl
  refine loadN_blk0 hB8 rfl ?_
  obtain ⟨g1, g2, g3⟩ := dg_wrap (r := opD a ra b rb 2) (hE03.trans hE4) hM8 (by have := hE1.size; have := hE2.size; omega) hP4 (fun i hi => by have := hR4 i hi; omega)
  exact ⟨PA, q, pc, rfl, g1, g2, g3⟩
end

section
open Go Go.RowKit

def nm3 : List (List Nat) := [[65], [66], [67]]
theorem namesOk_of {names : List (List Nat)} (h : names.all (fun s => s.all (fun x => decide (x < 256)) && decide (s.length ≤ 100)) = true) : NamesOk names := fun s hs => by
  have := List.all_eq_true.1 h s hs
  rw [Bool.and_eq_true, decide_eq_true_eq] at this
  exact ⟨fun x hx => by have := List.all_eq_true.1 this.1 x hx; simpa using this, by omega⟩
theorem nm3_b : NamesOk nm3 := namesOk_of (by decide)
theorem nm3_ok : numsOk nm3 = true := (numsOk_iff nm3_b).2 (by decide)
theorem parse_some {nm : List (List Nat)} (hn : numsOk nm = true) {s : List Nat} {ts : List (List Nat)} {t : Fm} {u : Bool} (h1 : lexA s = (ts, true)) (h2 : wholeT (ixN nm) (s.length + 1) ts = some (t, u, [])) : parseP nm s = if u then ([], 3) else if 512 < szF t then ([], 2) else (postF t 0, 0) := by
  rw [parse_tok]; unfold parseK
  rw [if_pos hn, h1]
  simp only
  rw [if_pos trivial, h2]
  simp only
  rw [if_neg (c := ([] : List (List Nat)) ≠ []) (fun h => h rfl)]
theorem parse_none {nm : List (List Nat)} (hn : numsOk nm = true) {s : List Nat} {ts : List (List Nat)} (h1 : lexA s = (ts, true)) (h2 : wholeT (ixN nm) (s.length + 1) ts = none) : parseP nm s = ([], 31) := by
  rw [parse_tok]; unfold parseK
  rw [if_pos hn, h1]
  simp only
  rw [if_pos trivial, h2]

def sa_t1 : Fm := .and (.not (.v 0)) (.v 1)
def sa_t2 : Fm := .and (.v 0) (.and (.v 1) (.v 2))
def sa_t3 : Fm := .or (.and (.v 0) (.not (.v 1))) (.and (.not (.v 0)) (.v 1))
theorem sa_p1 : parseP nm3 [33, 65, 32, 38, 38, 32, 66] = (postF sa_t1 0, 0) := parse_print nm3_ok (nmOk_of nm3_b nm3_ok) sa_t1 (by decide) (by decide)
theorem sa_r1 : printP nm3 (postF sa_t1 0) = ([33, 65, 32, 38, 38, 32, 66], 0) := print_post nm3_ok (by decide) (by decide) (by decide)
theorem sa_p2 : parseP nm3 [65, 32, 38, 38] = ([], 31) := parse_none (ts := [[65], [38, 38]]) nm3_ok rfl rfl
theorem sa_p3 : parseP nm3 [65, 32, 38, 38, 32, 68] = ([], 3) := parse_some (ts := [[65], [38, 38], [68]]) (t := .and (.v 0) (.v 0)) (u := true) nm3_ok rfl rfl
theorem sa_r2 : printP nm3 (postF sa_t2 0) = ([65, 32, 38, 38, 32, 40, 66, 32, 38, 38, 32, 67, 41], 0) := print_post nm3_ok (by decide) (by decide) (by decide)

theorem rd0_var {k : Int} (h0 : 0 ≤ k) (h1 : k ≤ 63) : Rd0 [⟨k, 0, 1⟩] := fun j b hb => by
  obtain ⟨rfl, rfl⟩ := one_cases hb
  refine ⟨h0, h1, Int.le_refl 0, ?_, (by decide : (0 : Int) ≤ 1), ?_, (by decide : (0 : Int) ≠ 1), by simp, ?_, ?_⟩
  · simp only; omega
  · simp only; omega
  · rw [lvl_one (by simp only; omega)]; simp only; omega
  · rw [lvl_one (by simp only; omega)]; simp only; omega
theorem vd_var {k : Int} (h0 : 0 ≤ k) (h1 : k ≤ 63) : VD [⟨k, 0, 1⟩] 2 := ⟨rd0_var h0 h1, by decide, by simp, rfl⟩
def sa_x : List Br := [⟨1, 0, 1⟩, ⟨1, 1, 0⟩, ⟨0, 2, 3⟩]
theorem sa_c : combD [⟨0, 0, 1⟩] 2 [⟨1, 0, 1⟩] 2 2 = (sa_x, 4) := by decide
theorem sa_op : opD [⟨0, 0, 1⟩] 2 [⟨1, 0, 1⟩] 2 2 = ((sa_x, 4), 0) := by
  have e1 : chkD [⟨0, 0, 1⟩] 2 = 0 := chkD_ok (by decide) (vd_var (by decide) (by decide))
  have e2 : chkD [⟨1, 0, 1⟩] 2 = 0 := chkD_ok (by decide) (vd_var (by decide) (by decide))
  unfold opD
  rw [if_neg (fun h => h e1), if_neg (fun h => h e2), sa_c]; rfl
theorem sa_vd : VD sa_x 4 := by
  have := (comb_vd (vd_var (k := 0) (by decide) (by decide)) (vd_var (k := 1) (by decide) (by decide)) 2).1
  rw [sa_c] at this; exact this
theorem sa_of : ofP sa_x 4 = (postF sa_t3 0, 0) := by
  have e1 : chkD sa_x 4 = 0 := chkD_ok (by decide) sa_vd
  unfold ofP
  rw [if_pos e1, show bldC sa_x ((4 : Int).toNat + 1) 4 [] = (8, postF sa_t3 0) by decide]
  rfl
theorem sa_tx : textP nm3 sa_x 4 = ([65, 32, 38, 38, 32, 33, 66, 32, 124, 124, 32, 33, 65, 32, 38, 38, 32, 66], 0) := by
  unfold textP
  rw [if_pos nm3_ok, sa_of]
  simp only
  rw [if_pos trivial]
  exact print_post nm3_ok (by decide) (by decide) (by decide)
theorem sa_ck : chkF (postF sa_t1 0) = 0 := chkF_ok (post_FV (by decide) (by decide))
theorem sa_cn : chkF [] = 30 := chkF_no (fun h => by have := h.2.1; simp at this)
end

section
open Go Go.RowKit

theorem sanity_fn (w : World) : Fn Tryz.prog 5 [] w (fun v w' => v = .bool true ∧ Ext w w') := by
  refine fn_of_exec (c := { c5 with cuts := [] }) gx_ok Tryz.func5 rfl rfl rfl ?_
  refine at_buildN gx_ok [[.string (strOf [65])], [.string (strOf [66])], [.string (strOf [67])]] rfl rfl rfl rfl rfl ⟨rfl, rfl, rfl, rfl, rfl, rfl, ⟨⟩⟩ rfl (fun cs h => by simp only [List.mem_cons, List.not_mem_nil, or_false] at h; rcases h with rfl | rfl | rfl <;> rfl) rfl (by decide) (by decide) ?_
  intro w1 hE1 hz1 hB1
  have hN1 : Sl w1 1 (some ⟨w.heap.size, 0, none⟩) 3 3 (strsV nm3) := Sl.own' (n := 3) hB1 rfl (by decide)
  refine call (parse_fn nm3 _ 3 3 [33, 65, 32, 38, 38, 32, 66] w1 hN1 nm3_b (by decide) (by decide)) ?_
  rw [sa_p1]
  rintro _ w2 ⟨F2, m2, c2, rfl, hE2, hF2⟩
  have hE02 := hE1.trans hE2
  refine call (print_fn nm3 _ F2 3 3 m2 c2 (postF sa_t1 0) w2 (hN1.ext hE2) nm3_b hF2 (fun _ _ => by rw [treeOf_post]; decide)) ?_
  rw [sa_r1]
  rintro _ w3 ⟨rfl, hE3⟩
  have hE03 := hE02.trans hE3
  refine at_buildN gx_ok [(⟨2, 0, 0, 0⟩ : Fz).cells, (⟨3, 0, 0, 0⟩ : Fz).cells, (⟨2, 1, 0, 0⟩ : Fz).cells, (⟨4, 0, 1, 2⟩ : Fz).cells] rfl rfl rfl rfl rfl ⟨rfl, rfl, rfl, rfl, rfl, rfl, rfl, rfl, ⟨⟩⟩ rfl (fun cs h => by simp only [List.mem_cons, List.not_mem_nil, or_false] at h; rcases h with rfl | rfl | rfl | rfl <;> rfl) rfl (by decide) (by decide) ?_
  intro w4 hE4 hz4 hB4
  have hW4 : SF w4 (some ⟨w3.heap.size, 0, none⟩) 4 4 (postF sa_t1 0) := ⟨Sl.own (sz := 4) (n := 4) hB4 (Nat.le_refl _) (by decide) (by simp [Fz.cells]), rfl⟩
  have hE14 := (hE2.trans hE3).trans hE4
  refine call (parse_fn nm3 _ 3 3 [65, 32, 38, 38] w4 (hN1.ext hE14) nm3_b (by decide) (by decide)) ?_
  rw [sa_p2]
  rintro _ w5 ⟨F5, m5, c5, rfl, hE5, hF5⟩
  have hE15 := hE14.trans hE5
  refine call (parse_fn nm3 _ 3 3 [65, 32, 38, 38, 32, 68] w5 (hN1.ext hE15) nm3_b (by decide) (by decide)) ?_
  rw [sa_p3]
  rintro _ w6 ⟨F6, m6, c6, rfl, hE6, hF6⟩
  have hE16 := hE15.trans hE6
  refine at_buildN gx_ok [(⟨2, 0, 0, 0⟩ : Fz).cells, (⟨2, 1, 0, 0⟩ : Fz).cells, (⟨2, 2, 0, 0⟩ : Fz).cells, (⟨4, 0, 1, 2⟩ : Fz).cells, (⟨4, 0, 0, 3⟩ : Fz).cells] rfl rfl rfl rfl rfl ⟨rfl, rfl, rfl, rfl, rfl, rfl, rfl, rfl, rfl, rfl, ⟨⟩⟩ rfl (fun cs h => by simp only [List.mem_cons, List.not_mem_nil, or_false] at h; rcases h with rfl | rfl | rfl | rfl | rfl <;> rfl) rfl (by decide) (by decide) ?_
  intro w7 hE7 hz7 hB7
  have hW7 : SF w7 (some ⟨w6.heap.size, 0, none⟩) 5 5 (postF sa_t2 0) := ⟨Sl.own (sz := 4) (n := 5) hB7 (Nat.le_refl _) (by decide) (by simp [Fz.cells]), rfl⟩
  have hE17 := hE16.trans hE7
  refine call (print_fn nm3 _ _ 3 3 5 5 (postF sa_t2 0) w7 (hN1.ext hE17) nm3_b hW7 (fun _ _ => by rw [treeOf_post]; decide)) ?_
  rw [sa_r2]
  rintro _ w8 ⟨rfl, hE8⟩
  have hE18 := hE17.trans hE8
  refine call (rvar_fn 0 w8 (by decide) (by decide)) ?_
  rintro _ w9 ⟨A9, n9, c9, rfl, hE9, hS9, hR9⟩
  have hE19 := hE18.trans hE9
  refine new (fun w10 hE10 hz10 hB10 => ?_)
  refine storeN_blk0 hB10 rfl (sc rfl) (fun w11 hg11 hz11 hB11 => ?_)
  have hE11 : Ext w9 w11 := newBox hE10 hB10 hg11
  have hE111 := hE19.trans hE11
  refine call (rvar_fn 1 w11 (by decide) (by decide)) ?_
  rintro _ w12 ⟨A12, n12, c12, rfl, hE12, hS12, hR12⟩
  refine new (fun w13 hE13 hz13 hB13 => ?_)
  refine storeN_blk0 hB13 rfl (sc rfl) (fun w14 hg14 hz14 hB14 => ?_)
  have hE14' : Ext w12 w14 := newBox hE13 hB13 hg14
  have hE1114 := hE12.trans hE14'
  refine loadN_blk0 (hB11.ext hE1114) rfl ?_
  refine loadN_blk0 hB14 rfl ?_
  refine call (rxor_fn A9 n9 c9 [⟨0, 0, 1⟩] 2 A12 n12 c12 [⟨1, 0, 1⟩] 2 w14 ((hS9.ext hE11).ext hE1114) (hS12.ext hE14')) ?_
  rw [sa_op]
  rintro _ w15 ⟨A15, n15, c15, rfl, hE15', hS15, hR15⟩
  refine new (fun w16 hE16' hz16 hB16 => ?_)
  refine storeN_blk0 hB16 rfl (sc rfl) (fun w17 hg17 hz17 hB17 => ?_)
  have hE17' : Ext w15 w17 := newBox hE16' hB16 hg17
  have hE1417 := hE15'.trans hE17'
  have hE117 := (hE111.trans hE1114).trans hE1417
  refine loadN_blk0 hB17 rfl ?_
  refine call (text_fn nm3 _ A15 3 3 n15 c15 sa_x 4 w17 (hN1.ext hE117) nm3_b (hS15.ext hE17') (by rw [sa_of]; rw [treeOf_post]; decide)) ?_
  rw [sa_tx]
  rintro _ w18 ⟨rfl, hE18'⟩
  have hE118 := hE117.trans hE18'
  refine wif_eqt rfl ?_
  have hE418 : Ext w4 w18 := hE5.trans (hE6.trans (hE7.trans (hE8.trans (hE9.trans (hE11.trans (hE1114.trans (hE1417.trans hE18')))))))
  have hE218 : Ext w2 w18 := hE3.trans (hE4.trans hE418)
  refine call (rsamef_fn F2 _ m2 c2 4 4 _ _ w18 (hF2.ext hE218) (hW4.ext hE418)) ?_
  rintro _ w19 ⟨rfl, hE19'⟩
  refine wif_dt rfl ?_
  refine wif_eqt rfl ?_
  refine wif_dt rfl ?_
  refine wif_eqt rfl ?_
  refine wif_eqt rfl ?_
  refine wif_eqt rfl ?_
  refine wif_dt rfl ?_
  refine wif_eqt rfl ?_
  refine wif_dt rfl ?_
  refine call (check_fn _ 4 4 (postF sa_t1 0) w19 ((hW4.ext hE418).ext hE19')) ?_
  rintro _ w20 ⟨rfl, hE20⟩
  refine wif_eqt sa_ck ?_
  refine call (check_fn none 0 0 [] w20 (SlS.nil _)) ?_
  rintro _ w21 ⟨rfl, hE21⟩
  exact ⟨by rw [sa_cn]; rfl, (hE1.trans hE118).trans (hE19'.trans (hE20.trans hE21))⟩
end
end Go.Proofs.YtdbhjlpkopnebaaGreatDoor
