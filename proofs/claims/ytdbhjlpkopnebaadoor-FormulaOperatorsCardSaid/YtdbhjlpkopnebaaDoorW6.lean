/-
  FormulaOperators.
  Conditions: none.
-/
import Derived.Test.YtdbhjlpkopnebaaDoorW5
import Derived.Test.YtdbhjlpkopnebaaDoorPl3
namespace Go.Proofs.YtdbhjlpkopnebaaDoor
open Go Go.RowKit

/-- What a set of an expression is. -/
theorem set_fn (names : List (List Nat)) (A : Option Addr) (n c : Nat) (s : List Nat) (t : Fm) (k : Nat) (hk : k ≤ 12) (w : World) (h : Sl w 1 A n c (strsV names)) (hb : NamesOk names) (hs : ∀ x ∈ s, x < 256) (hl : s.length ≤ 1000000000000) (hp : parseP names s = (postF t 0, 0)) (hv : VarsIn k t) (hz : szF t ≤ 512) :
    Fn Tryd.prog 29 [.slice A n c, .string (strOf s)] w (fun v w' => ∃ D m cD nd r, v = dgV D m cD r ∧ Ext w w' ∧ SB w' D m cD nd ∧ Set1 k nd r (evF t) ∧ ∀ i, rowS D i → w.heap.size < i) := by
  refine fn_of_exec (c := { c29 with cuts := [] }) gx_ok Tryd.func29 rfl rfl rfl ?_
  refine new (fun w1 hE1 hz1 hB1 => ?_)
  refine call (parse_fn names A n c s w1 (h.ext hE1) hb hs hl) ?_
  rw [hp]
  rintro _ w2 ⟨G, mg, cG, rfl, hE2, hG⟩
  have hE02 := hE1.trans hE2
  refine call (fdiagram_fn G mg cG _ k hk w2 hG (post_FV (hv.mono (by omega)) hz) (post_vars t k 0 hv)) ?_
  rintro _ w3 ⟨D, m, cD, nd, r, rfl, hE3, hD, hS, hR⟩
  rw [treeOf_post] at hS
  have hE03 := hE02.trans hE3
  refine new (fun w4 hE4 hz4 hB4 => ?_)
  refine storeN_blk0 hB4 rfl (sc rfl) (fun w5 hg5 hz5 hB5 => ?_)
  have hE35 : Ext w3 w5 := newBox hE4 hB4 hg5
  have hE05 := hE03.trans hE35
  refine loadN_blk0 hB5 rfl ?_
  have hB15 := ((hB1.ext hE2).ext hE3).ext hE35
  refine storeN_blk0 hB15 rfl (sc rfl) (fun w6 hg6 hz6 hB6 => ?_)
  have hM6 : Mod (· = w.heap.size) w5 w6 := Mod.of_grown hg6 rfl
  refine loadN_blk0 hB6 rfl ?_
  have hz2 := hE02.size
  exact ⟨D, m, cD, nd, r, rfl, hM6.ext hE05 (fun i hi => by omega), SB.mod (hD.ext hE35) hM6 (fun i hi e => by have := hR i hi; omega), hS, fun i hi => by have := hR i hi; omega⟩

theorem cat_ok {a b : List Nat} (ha : a.length ≤ 10000) (hb : b.length ≤ 10000) : (strOf a).size + (strOf b).size ≤ maxLen := by rw [strOf_size, strOf_size]; unfold maxLen; omega
theorem cat_eq (a b : List Nat) : Value.string (strOf a ++ strOf b) = .string (strOf (a ++ b)) := by rw [strOf_append]
theorem b8_app {a b : List Nat} (ha : ∀ x ∈ a, x < 256) (hb : ∀ x ∈ b, x < 256) : ∀ x ∈ a ++ b, x < 256 := fun x hx => by
  rcases List.mem_append.1 hx with h | h
  · exact ha x h
  · exact hb x h
theorem b8_dec {a : List Nat} (h : a.all (fun x => decide (x < 256)) = true) : ∀ x ∈ a, x < 256 := fun x hx => by simpa using List.all_eq_true.1 h x hx
theorem operators_law (l : List Nat) (A : Option Addr) (n c : Nat) (l2 : List Nat) (A2 : Option Addr) (n2 c2 : Nat) (k : Nat) (w : World) (h : Sl w 1 A n c (bytesV l)) (h8 : ∀ x ∈ l, x ≤ 255) (h2 : Sl w 1 A2 n2 c2 (bytesV l2)) (h82 : ∀ x ∈ l2, x ≤ 255) (_ : k ≤ 255) :
    Fn Tryd.prog 9 [.slice A n c, .slice A2 n2 c2, .int .u8 k] w (fun v w' => v = .bool true ∧ Ext w w') := by
  refine fn_of_exec (c := { c9 with cuts := [] }) gx_ok Tryd.func9 rfl rfl rfl ?_
  refine call (sanity_fn w) ?_
  rintro _ w1 ⟨rfl, hE1⟩
  refine call (letters_fn 6 w1 (by decide)) ?_
  rintro _ w2 ⟨LA, lc, rfl, hE2, hL⟩
  have hE02 := hE1.trans hE2
  obtain ⟨lb, lo, ll⟩ := letters_ok 6 (by decide)
  have hni := nmOk_of lb lo
  have km : k % 6 < 6 := Nat.mod_lt _ (by decide)
  refine norm_rem (d := 6) (by decide) ?_
  refine norm_i64_to ((k % 6 : Nat) : Int) rfl (by omega) ?_
  refine norm_i64_to ((k % 6 + 1 : Nat) : Int) (by omega) (by omega) ?_
  refine call (made_fn l A n c (k % 6 + 1) w2 (h.ext hE02) h8 (by omega) (by omega)) ?_
  rintro _ w3 ⟨F, m, cF, f, rfl, hE3, hF, hfv, hvo, hfl⟩
  have hM := madeF hfv hvo hfl
  have hE03 := hE02.trans hE3
  obtain ⟨p1, p2, p3⟩ := lett_print hM (k := 6) (by decide) (by omega)
  have q1 := lett_parse hM (k := 6) (by decide) (by omega)
  refine call (print_fn (letters12.take 6) LA F 6 lc m cF f w3 (hL.ext hE3) lb hF (fun _ _ => by omega)) ?_
  rw [p1]
  rintro _ w4 ⟨rfl, hE4⟩
  have hE04 := hE03.trans hE4
  refine norm_rem (d := 6) (by decide) ?_
  refine norm_i64_to ((k % 6 : Nat) : Int) rfl (by omega) ?_
  refine norm_i64_to ((k % 6 + 1 : Nat) : Int) (by omega) (by omega) ?_
  refine call (made_fn l2 A2 n2 c2 (k % 6 + 1) w4 (h2.ext hE04) h82 (by omega) (by omega)) ?_
  rintro _ w5 ⟨F', m', cF', f', rfl, hE5, hF', hfv', hvo', hfl'⟩
  have hM' := madeF hfv' hvo' hfl'
  have hE05 := hE04.trans hE5
  obtain ⟨p1', p2', p3'⟩ := lett_print hM' (k := 6) (by decide) (by omega)
  have q1' := lett_parse hM' (k := 6) (by decide) (by omega)
  have hL5 := ((hL.ext hE3).ext hE4).ext hE5
  refine call (print_fn (letters12.take 6) LA F' 6 lc m' cF' f' w5 hL5 lb hF' (fun _ _ => by omega)) ?_
  rw [p1']
  rintro _ w6 ⟨rfl, hE6⟩
  have hE06 := hE05.trans hE6
  have hL6 := hL5.ext hE6
  refine wif_nef rfl ?_
  refine wif_nef rfl ?_
  have hz := hM.sz
  have hz' := hM'.sz
  have v6 := hM.vi.mono (show k % 6 + 1 ≤ 6 by omega)
  have v6' := hM'.vi.mono (show k % 6 + 1 ≤ 6 by omega)
  generalize treeOf f = t at *
  generalize treeOf f' = t' at *
  refine call (set_fn (letters12.take 6) LA 6 lc (prF (letters12.take 6) 0 t) t 6 (by decide) w6 hL6 lb p3 (by omega) q1 v6 (by omega)) ?_
  rintro _ w7 ⟨D1, m1, c1, nd1, r1, rfl, hE7, hD1, hS1, _⟩
  refine new (fun w8 hE8 hz8 hB8 => ?_)
  refine storeN_blk0 hB8 rfl (sc rfl) (fun w9 hg9 hz9 hB9 => ?_)
  have hE79 : Ext w7 w9 := newBox hE8 hB8 hg9
  have hE69 := hE7.trans hE79
  have hL9 := hL6.ext hE69
  refine call (set_fn (letters12.take 6) LA 6 lc (prF (letters12.take 6) 0 t') t' 6 (by decide) w9 hL9 lb p3' (by omega) q1' v6' (by omega)) ?_
  rintro _ w10 ⟨D2, m2, c2', nd2, r2, rfl, hE10, hD2, hS2, _⟩
  refine new (fun w11 hE11 hz11 hB11 => ?_)
  refine storeN_blk0 hB11 rfl (sc rfl) (fun w12 hg12 hz12 hB12 => ?_)
  have hE1012 : Ext w10 w12 := newBox hE11 hB11 hg12
  have hE912 := hE10.trans hE1012
  have hB9' := hB9.ext hE912
  have hD1' := (hD1.ext hE79).ext hE912
  have hD2' := hD2.ext hE1012
  refine loadN_blk0 hB9' rfl ?_
  refine loadN_blk0 hB12 rfl ?_
  have x0 := op_set (by decide) hS1 hS2 0
  have y0 := comb_set hS1 hS2 0
  have x1 := op_set (by decide) hS1 hS2 1
  have y1 := comb_set hS1 hS2 1
  have c0 : Set1 6 [] 0 (fun _ => false) := const_set 6 false
  have x3 := op_set (by decide) hS1 c0 3
  have y3 := comb_set hS1 c0 3
  refine call (dand_fn D1 m1 c1 nd1 r1 D2 m2 c2' nd2 r2 w12 hD1' hD2') ?_
  rw [x0]
  rintro _ w13 ⟨E1, e1, f1, rfl, hE13, hP1, _⟩
  refine new (fun w14 hE14 hz14 hB14 => ?_)
  refine storeN_blk0 hB14 rfl (sc rfl) (fun w15 hg15 hz15 hB15 => ?_)
  have hE1315 : Ext w13 w15 := newBox hE14 hB14 hg15
  have hE1215 := hE13.trans hE1315
  refine loadN_blk0 (hB9'.ext hE1215) rfl ?_
  refine loadN_blk0 (hB12.ext hE1215) rfl ?_
  refine call (dor_fn D1 m1 c1 nd1 r1 D2 m2 c2' nd2 r2 w15 (hD1'.ext hE1215) (hD2'.ext hE1215)) ?_
  rw [x1]
  rintro _ w16 ⟨E2, e2, f2, rfl, hE16, hP2, _⟩
  refine new (fun w17 hE17 hz17 hB17 => ?_)
  refine storeN_blk0 hB17 rfl (sc rfl) (fun w18 hg18 hz18 hB18 => ?_)
  have hE1618 : Ext w16 w18 := newBox hE17 hB17 hg18
  have hE1518 := hE16.trans hE1618
  refine loadN_blk0 ((hB9'.ext hE1215).ext hE1518) rfl ?_
  refine call (dnot_fn D1 m1 c1 nd1 r1 w18 ((hD1'.ext hE1215).ext hE1518)) ?_
  rw [x3]
  rintro _ w19 ⟨E3, e3, f3, rfl, hE19, hP3, _⟩
  refine new (fun w20 hE20 hz20 hB20 => ?_)
  refine storeN_blk0 hB20 rfl (sc rfl) (fun w21 hg21 hz21 hB21 => ?_)
  have hE1921 : Ext w19 w21 := newBox hE20 hB20 hg21
  have hE1821 := hE19.trans hE1921
  have hE1221 := hE1215.trans (hE1518.trans hE1821)
  have hE021 : Ext w w21 := (hE06.trans hE69).trans (hE912.trans hE1221)
  have hL21 := (hL9.ext hE912).ext hE1221
  have hB15' := hB15.ext (hE1518.trans hE1821)
  have hB18' := hB18.ext hE1821
  have hP1' := (hP1.ext hE1315).ext (hE1518.trans hE1821)
  have hP2' := (hP2.ext hE1618).ext hE1821
  have hP3' := hP3.ext hE1921
  generalize combD nd1 r1 nd2 r2 0 = R0 at *
  generalize combD nd1 r1 nd2 r2 1 = R1 at *
  generalize combD nd1 r1 [] 0 3 = R3 at *
  obtain ⟨R0a, R0b⟩ := R0
  obtain ⟨R1a, R1b⟩ := R1
  obtain ⟨R3a, R3b⟩ := R3
  have u0 : Set1 6 R0a R0b (evF (.and t t')) := y0.congr (fun e => by simp [opB, evF])
  have u1 : Set1 6 R1a R1b (evF (orJ t t')) := y1.congr (fun e => by rw [orJ_ev]; simp [opB])
  have u3 : Set1 6 R3a R3b (evF (.not t)) := y3.congr (fun e => by simp [opB, evF])
  have vL : ∀ {u : Fm}, VarsIn 6 u → VarsIn (letters12.take 6).length u := fun h => by rw [ll]; exact h
  have a1 := and_parse lo hni t t' (vL v6) (vL v6') (by omega)
  have a2 := or_parse lo hni t t' (vL v6) (vL v6') (by omega)
  have a3 := not_parse lo hni t (vL v6) (by omega)
  refine draw_plan gx_ok (Ext w21) 30 [(true, 0), (true, 1), (true, 2), (true, 3), (true, 4), (true, 5), (true, 6), (true, 8), (false, 7), (false, 9), (true, 10), (true, 11), (true, 12), (true, 13), (true, 14), (true, 15), (true, 17), (false, 16), (false, 18), (true, 19), (true, 20), (true, 21), (true, 22), (true, 23), (true, 24), (true, 26), (false, 25), (false, 27), (true, 28), (true, 29)] (by kernel_rfl) (Ext.drew w21) ?_
  have q2 : (prF (letters12.take 6) 0 t).length ≤ 1520 := p2
  have q2' : (prF (letters12.take 6) 0 t').length ≤ 1520 := p2'
  have b1 : ∀ x ∈ andS (letters12.take 6) t t', x < 256 := b8_app (b8_app (b8_app (b8_app (b8_dec rfl) p3) (b8_dec rfl)) p3') (b8_dec rfl)
  have b2 : ∀ x ∈ orS (letters12.take 6) t t', x < 256 := b8_app (b8_app p3 (b8_dec rfl)) p3'
  have b3 : ∀ x ∈ notS (letters12.take 6) t, x < 256 := b8_app (b8_app (b8_dec rfl) p3) (b8_dec rfl)
  have l1 : (andS (letters12.take 6) t t').length ≤ 1000000000000 := by unfold andS; simp only [List.length_append, List.length_cons, List.length_nil]; omega
  have l2 : (orS (letters12.take 6) t t').length ≤ 1000000000000 := by unfold orS; simp only [List.length_append, List.length_cons, List.length_nil]; omega
  have l3 : (notS (letters12.take 6) t).length ≤ 1000000000000 := by unfold notS; simp only [List.length_append, List.length_cons, List.length_nil]; omega
  clear p1 p2 p1' p2' q1 q1'
  unfold andS at a1 b1 l1
  unfold orS at a2 b2 l2
  unfold notS at a3 b3 l3
  simp only
  generalize prF (letters12.take 6) 0 t = X at *
  generalize prF (letters12.take 6) 0 t' = Y at *
  refine need_to (v' := .string (strOf ([40] ++ X))) (cat_ok (a := [40]) (by simp) (by omega)) (cat_eq [40] X) ?_
  refine need_to (v' := .string (strOf ([40] ++ X ++ [41, 38, 38, 40]))) (cat_ok (b := [41, 38, 38, 40]) (by simp; omega) (by simp)) (cat_eq _ [41, 38, 38, 40]) ?_
  refine need_to (v' := .string (strOf ([40] ++ X ++ [41, 38, 38, 40] ++ Y))) (cat_ok (by simp; omega) (by omega)) (cat_eq _ Y) ?_
  refine need_to (v' := .string (strOf ([40] ++ X ++ [41, 38, 38, 40] ++ Y ++ [41]))) (cat_ok (b := [41]) (by simp; omega) (by simp)) (cat_eq _ [41]) ?_
  refine qloadN (vs := [.slice E1 e1 f1, .int .i64 R0b]) rfl (fun w' hw' j v hj => by rw [(hB15'.ext hw').cell]; exact hj) ?_
  have hEd := Ext.drew w21
  refine call (set_fn (letters12.take 6) LA 6 lc _ (.and t t') 6 (by decide) _ (hL21.ext hEd) lb b1 l1 a1 ⟨v6, v6'⟩ (by show szF t + szF t' + 1 ≤ 512; omega)) ?_
  rintro _ w22 ⟨G1, g1, gc1, G1a, G1b, rfl, hE22, hG1, hT1, _⟩
  have hE122 := hEd.trans hE22
  refine ⟨hE122, ?_⟩
  have ee1 : decide ((G1a, G1b) = (R0a, R0b)) = true := decide_eq_true (hT1.unique u0 (fun _ => rfl))
  refine call (same_fn G1 E1 g1 gc1 e1 f1 _ _ _ _ w22 hG1 (hP1'.ext hE122)) ?_
  rintro _ w23 ⟨rfl, hE23⟩
  have hE123 := hE122.trans hE23
  refine ⟨hE123, ?_⟩
  rw [ee1]
  refine wif_t rfl ?_
  refine need_to (v' := .string (strOf (X ++ [124, 124]))) (cat_ok (b := [124, 124]) (by omega) (by simp)) (cat_eq _ [124, 124]) ?_
  refine need_to (v' := .string (strOf (X ++ [124, 124] ++ Y))) (cat_ok (by simp; omega) (by omega)) (cat_eq _ Y) ?_
  refine qloadN (vs := [.slice E2 e2 f2, .int .i64 R1b]) rfl (fun w' hw' j v hj => by rw [(hB18'.ext hw').cell]; exact hj) ?_
  refine call (set_fn (letters12.take 6) LA 6 lc _ (orJ t t') 6 (by decide) _ (hL21.ext hE123) lb b2 l2 a2 (orJ_vars v6 v6') (by rw [orJ_sz]; omega)) ?_
  rintro _ w24 ⟨G2, g2, gc2, G2a, G2b, rfl, hE24, hG2, hT2, _⟩
  have hE124 := hE123.trans hE24
  refine ⟨hE124, ?_⟩
  have ee2 : decide ((G2a, G2b) = (R1a, R1b)) = true := decide_eq_true (hT2.unique u1 (fun _ => rfl))
  refine call (same_fn G2 E2 g2 gc2 e2 f2 _ _ _ _ w24 hG2 (hP2'.ext hE124)) ?_
  rintro _ w25 ⟨rfl, hE25⟩
  have hE125 := hE124.trans hE25
  refine ⟨hE125, ?_⟩
  rw [ee2]
  refine wif_t rfl ?_
  refine need_to (v' := .string (strOf ([33, 40] ++ X))) (cat_ok (a := [33, 40]) (by simp) (by omega)) (cat_eq [33, 40] X) ?_
  refine need_to (v' := .string (strOf ([33, 40] ++ X ++ [41]))) (cat_ok (b := [41]) (by simp; omega) (by simp)) (cat_eq _ [41]) ?_
  refine qloadN (vs := [.slice E3 e3 f3, .int .i64 R3b]) rfl (fun w' hw' j v hj => by rw [((hB21).ext hw').cell]; exact hj) ?_
  refine call (set_fn (letters12.take 6) LA 6 lc _ (.not t) 6 (by decide) _ (hL21.ext hE125) lb b3 l3 a3 v6 (by show szF t + 1 ≤ 512; omega)) ?_
  rintro _ w26 ⟨G3, g3, gc3, G3a, G3b, rfl, hE26, hG3, hT3, _⟩
  have hE126 := hE125.trans hE26
  refine ⟨hE126, ?_⟩
  have ee3 : decide ((G3a, G3b) = (R3a, R3b)) = true := decide_eq_true (hT3.unique u3 (fun _ => rfl))
  refine call (same_fn G3 E3 g3 gc3 e3 f3 _ _ _ _ w26 hG3 (hP3'.ext hE126)) ?_
  rintro _ w27 ⟨rfl, hE27⟩
  have hE127 := hE126.trans hE27
  refine ⟨hE127, ?_⟩
  rw [ee3]
  refine wif_t rfl ?_
  refine wif_eqt rfl ?_
  refine wif_eqt rfl ?_
  refine wif_eqt rfl ?_
  exact ⟨rfl, hE021.trans hE127⟩
end Go.Proofs.YtdbhjlpkopnebaaDoor
