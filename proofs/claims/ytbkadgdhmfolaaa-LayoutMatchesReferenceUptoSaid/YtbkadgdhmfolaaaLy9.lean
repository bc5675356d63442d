/-
  layout: choices.
  Conditions: none.
-/
import Derived.Test.YtbkadgdhmfolaaaLy8
namespace Go.Proofs.Ytbkadgdhmfolaaa
open Go Go.RowKit

/-- What choices returns. -/
def ChoRes (d : List Nd) (width : Int) (w : World) (v : Value) (w' : World) : Prop := Ext w w' ∧
  if chk d ≠ 0 then v = .tuple #[.slice none 0 0, .int .i64 (chk d)] else if width < 0 ∨ 1000 < width then v = .tuple #[.slice none 0 0, .int .i64 1] else
    ∃ A c l, v = .tuple #[.slice A l.length c, .int .i64 0] ∧ Sl w' 1 A l.length c (boolsV l) ∧ Least width.toNat (T d (d.length - 1)) l

theorem N_len {d : List Nd} (hv : Valid d) (i : Nat) : (N d i).length ≤ i + 1 := nodup_len (i + 1) _ (N_nodup hv i) (fun k hk => by have := N_le hv i k hk; omega)

/-- Between the stores of a region: what it may have changed. -/
def LC (d : List Nd) (ga gb i : Nat) (w w' : World) : Prop := Mod (fun k => k = ga ∨ k = gb) w w' ∧ (∃ v, Blk w' ga 3 ((natsV (ngL d i)).set i v)) ∧ ∃ v, Blk w' gb 4 ((boolsV (hdL d i)).set i v)

set_option maxHeartbeats 2000000 in
theorem choices_fn (A : Option Addr) (n c : Nat) (d : List Nd) (width : Int) (w : World) (h : SD w A n c d) (hwt' : Valid d → wtT (T d (d.length - 1)) ≤ 1000000000000) :
    Fn Try.prog 35 [.slice A n c, .int .i64 width] w (ChoRes d width w) := by
  have hlen := h.2
  refine fn_of_exec (c := { c35 with cuts := [9, 15] }) gx_ok Try.func35 rfl rfl rfl ?_
  refine call (check_fn A n c d w h) ?_
  rintro v w1 ⟨rfl, hE1⟩
  refine wif_ne (fun h1 => ?_) (fun h1 => ?_)
  · refine ⟨hE1, ?_⟩
    rw [if_pos h1]
  have hv := chk_zero.1 h1
  have hwt := hwt' hv
  have hle := hv.1
  have hpos := hv.2.1
  have hd := hv.ok
  have hnn := nnT_N hd (d.length - 1) (by omega)
  have hnl := N_len hv (d.length - 1)
  refine wif_d (fun h2 => ?_) (fun h2 => ?_)
  · refine ⟨hE1, ?_⟩
    rw [if_neg (by simpa using h1), if_pos (.inl h2)]
  refine wif_d (fun h3 => ?_) (fun h3 => ?_)
  · refine ⟨hE1, ?_⟩
    rw [if_neg (by simpa using h1), if_pos (.inr h3)]
  have hWn : width = ((width.toNat : Nat) : Int) := by omega
  have hz1 := hE1.size
  have hzd := (Ext.drew w1).size
  refine draw_cut [7] (fun t : Nat × Nat × Nat × Nat => [.pointer (some ⟨t.2.2.2, 0, none⟩)]) (fun t w' => Ext w1 w' ∧ Blk w' t.2.2.2 89 [.slice A n c, .int .i64 width, .slice (some ⟨t.1, 0, none⟩) n n, .slice (some ⟨t.2.1, 0, none⟩) n n, .map (some t.2.2.1)] ∧ Blk w' t.1 3 (List.replicate n (.int .i64 0)) ∧ Blk w' t.2.1 4 (List.replicate n (.bool false)) ∧ MapQ staV w' t.2.2.1 [] ∧ (w.heap.size ≤ t.1 ∧ w.heap.size ≤ t.2.1 ∧ w.heap.size ≤ t.2.2.1 ∧ w.heap.size ≤ t.2.2.2 ∧ t.1 ≠ t.2.1 ∧ t.1 ≠ t.2.2.1 ∧ t.1 ≠ t.2.2.2 ∧ t.2.1 ≠ t.2.2.1 ∧ t.2.1 ≠ t.2.2.2 ∧ t.2.2.1 ≠ t.2.2.2)) ?_ ?_
  · refine draw_tree gx_ok (Ext w1) 12 (.quiet 0 (.quiet 1 (.quiet 2 (.quiet 3 (.quiet 5 (.quiet 6 (.fork 4 (.fork 7 (.fork 8 (.quiet 9 (.fork 10 (.quiet 11 .done) .skip)) .skip) (.fork 8 (.fork 7 (.quiet 9 (.fork 10 (.quiet 11 .done) .skip)) .skip) .skip)) (.fork 7 (.fork 4 (.fork 8 (.quiet 9 (.fork 10 (.quiet 11 .done) .skip)) .skip) (.fork 8 (.fork 4 (.quiet 9 (.fork 10 (.quiet 11 .done) .skip)) .skip) .skip)) (.fork 8 (.fork 4 (.fork 7 (.quiet 9 (.fork 10 (.quiet 11 .done) .skip)) .skip) (.fork 7 (.fork 4 (.quiet 9 (.fork 10 (.quiet 11 .done) .skip)) .skip) .skip)) .skip))))))))) (by kernel_rfl) (Ext.drew w1) ?_
    refine ⟨?_, ?_⟩
    · skip
      refine at_make gx_ok rfl rfl rfl rfl rfl rfl rfl rfl (by show 8 * n ≤ _; omega) (by unfold maxLen; omega) (fun va hEa hza hBa => ?_)
      refine ⟨((Ext.drew w1).trans hEa), ?_⟩
      refine ⟨?_, ?_⟩
      · skip
        refine at_make gx_ok rfl rfl rfl rfl rfl rfl rfl rfl (by show 1 * n ≤ _; omega) (by unfold maxLen; omega) (fun vb hEb hzb hBb => ?_)
        refine ⟨(((Ext.drew w1).trans hEa).trans hEb), ?_⟩
        refine ⟨?_, trivial⟩
        refine at_makeMapQ gx_ok staV rfl (fun vq hEq hzq hBq => ?_)
        refine ⟨((((Ext.drew w1).trans hEa).trans hEb).trans hEq), ?_⟩
        refine ⟨?_, trivial⟩
        refine new (fun w5 hE5 hz5 hB5 => ?_)
        refine ⟨(((((Ext.drew w1).trans hEa).trans hEb).trans hEq).trans hE5), ?_⟩
        exact ⟨(w1.drew.heap.size, va.heap.size, vb.heap.size, vq.heap.size), rfl, (((((Ext.drew w1).trans hEa).trans hEb).trans hEq).trans hE5), hB5, (((hBa.ext hEb).ext hEq).ext hE5), ((hBb.ext hEq).ext hE5), (hBq.ext hE5), by dsimp only; omega⟩
      · skip
        refine ⟨?_, trivial⟩
        refine at_makeMapQ gx_ok staV rfl (fun vq hEq hzq hBq => ?_)
        refine ⟨(((Ext.drew w1).trans hEa).trans hEq), ?_⟩
        refine ⟨?_, trivial⟩
        refine at_make gx_ok rfl rfl rfl rfl rfl rfl rfl rfl (by show 1 * n ≤ _; omega) (by unfold maxLen; omega) (fun vb hEb hzb hBb => ?_)
        refine ⟨((((Ext.drew w1).trans hEa).trans hEq).trans hEb), ?_⟩
        refine ⟨?_, trivial⟩
        refine new (fun w5 hE5 hz5 hB5 => ?_)
        refine ⟨(((((Ext.drew w1).trans hEa).trans hEq).trans hEb).trans hE5), ?_⟩
        exact ⟨(w1.drew.heap.size, vq.heap.size, va.heap.size, vb.heap.size), rfl, (((((Ext.drew w1).trans hEa).trans hEq).trans hEb).trans hE5), hB5, (((hBa.ext hEq).ext hEb).ext hE5), (hBb.ext hE5), ((hBq.ext hEb).ext hE5), by dsimp only; omega⟩
    · skip
      refine ⟨?_, ?_⟩
      · skip
        refine at_make gx_ok rfl rfl rfl rfl rfl rfl rfl rfl (by show 1 * n ≤ _; omega) (by unfold maxLen; omega) (fun vb hEb hzb hBb => ?_)
        refine ⟨((Ext.drew w1).trans hEb), ?_⟩
        refine ⟨?_, ?_⟩
        · skip
          refine at_make gx_ok rfl rfl rfl rfl rfl rfl rfl rfl (by show 8 * n ≤ _; omega) (by unfold maxLen; omega) (fun va hEa hza hBa => ?_)
          refine ⟨(((Ext.drew w1).trans hEb).trans hEa), ?_⟩
          refine ⟨?_, trivial⟩
          refine at_makeMapQ gx_ok staV rfl (fun vq hEq hzq hBq => ?_)
          refine ⟨((((Ext.drew w1).trans hEb).trans hEa).trans hEq), ?_⟩
          refine ⟨?_, trivial⟩
          refine new (fun w5 hE5 hz5 hB5 => ?_)
          refine ⟨(((((Ext.drew w1).trans hEb).trans hEa).trans hEq).trans hE5), ?_⟩
          exact ⟨(vb.heap.size, w1.drew.heap.size, va.heap.size, vq.heap.size), rfl, (((((Ext.drew w1).trans hEb).trans hEa).trans hEq).trans hE5), hB5, ((hBa.ext hEq).ext hE5), (((hBb.ext hEa).ext hEq).ext hE5), (hBq.ext hE5), by dsimp only; omega⟩
        · skip
          refine ⟨?_, trivial⟩
          refine at_makeMapQ gx_ok staV rfl (fun vq hEq hzq hBq => ?_)
          refine ⟨(((Ext.drew w1).trans hEb).trans hEq), ?_⟩
          refine ⟨?_, trivial⟩
          refine at_make gx_ok rfl rfl rfl rfl rfl rfl rfl rfl (by show 8 * n ≤ _; omega) (by unfold maxLen; omega) (fun va hEa hza hBa => ?_)
          refine ⟨((((Ext.drew w1).trans hEb).trans hEq).trans hEa), ?_⟩
          refine ⟨?_, trivial⟩
          refine new (fun w5 hE5 hz5 hB5 => ?_)
          refine ⟨(((((Ext.drew w1).trans hEb).trans hEq).trans hEa).trans hE5), ?_⟩
          exact ⟨(vq.heap.size, w1.drew.heap.size, vb.heap.size, va.heap.size), rfl, (((((Ext.drew w1).trans hEb).trans hEq).trans hEa).trans hE5), hB5, (hBa.ext hE5), (((hBb.ext hEq).ext hEa).ext hE5), ((hBq.ext hEa).ext hE5), by dsimp only; omega⟩
      · skip
        refine ⟨?_, trivial⟩
        refine at_makeMapQ gx_ok staV rfl (fun vq hEq hzq hBq => ?_)
        refine ⟨((Ext.drew w1).trans hEq), ?_⟩
        refine ⟨?_, ?_⟩
        · skip
          refine at_make gx_ok rfl rfl rfl rfl rfl rfl rfl rfl (by show 8 * n ≤ _; omega) (by unfold maxLen; omega) (fun va hEa hza hBa => ?_)
          refine ⟨(((Ext.drew w1).trans hEq).trans hEa), ?_⟩
          refine ⟨?_, trivial⟩
          refine at_make gx_ok rfl rfl rfl rfl rfl rfl rfl rfl (by show 1 * n ≤ _; omega) (by unfold maxLen; omega) (fun vb hEb hzb hBb => ?_)
          refine ⟨((((Ext.drew w1).trans hEq).trans hEa).trans hEb), ?_⟩
          refine ⟨?_, trivial⟩
          refine new (fun w5 hE5 hz5 hB5 => ?_)
          refine ⟨(((((Ext.drew w1).trans hEq).trans hEa).trans hEb).trans hE5), ?_⟩
          exact ⟨(vq.heap.size, va.heap.size, w1.drew.heap.size, vb.heap.size), rfl, (((((Ext.drew w1).trans hEq).trans hEa).trans hEb).trans hE5), hB5, ((hBa.ext hEb).ext hE5), (hBb.ext hE5), (((hBq.ext hEa).ext hEb).ext hE5), by dsimp only; omega⟩
        · skip
          refine ⟨?_, trivial⟩
          refine at_make gx_ok rfl rfl rfl rfl rfl rfl rfl rfl (by show 1 * n ≤ _; omega) (by unfold maxLen; omega) (fun vb hEb hzb hBb => ?_)
          refine ⟨(((Ext.drew w1).trans hEq).trans hEb), ?_⟩
          refine ⟨?_, trivial⟩
          refine at_make gx_ok rfl rfl rfl rfl rfl rfl rfl rfl (by show 8 * n ≤ _; omega) (by unfold maxLen; omega) (fun va hEa hza hBa => ?_)
          refine ⟨((((Ext.drew w1).trans hEq).trans hEb).trans hEa), ?_⟩
          refine ⟨?_, trivial⟩
          refine new (fun w5 hE5 hz5 hB5 => ?_)
          refine ⟨(((((Ext.drew w1).trans hEq).trans hEb).trans hEa).trans hE5), ?_⟩
          exact ⟨(vb.heap.size, vq.heap.size, w1.drew.heap.size, va.heap.size), rfl, (((((Ext.drew w1).trans hEq).trans hEb).trans hEa).trans hE5), hB5, (hBa.ext hE5), ((hBb.ext hEa).ext hE5), (((hBq.ext hEb).ext hEa).ext hE5), by dsimp only; omega⟩
  rintro ⟨ga, gb, q, g⟩ w2 ⟨hE12, hL2, hA2, hB2, hM2, hoffs⟩
  dsimp only at hL2 hA2 hB2 hM2 hoffs ⊢
  have hE2 := hE1.trans hE12
  rw [← hlen] at hA2 hB2
  rw [← ngL_zero] at hA2
  rw [← hdL_zero] at hB2
  refine loop gx_ok [40] (fun i : Nat => [.int .i64 i]) (fun i w' => i ≤ n ∧ Mod (fun k => k = ga ∨ k = gb) w2 w' ∧ Blk w' ga 3 (natsV (ngL d i)) ∧ Blk w' gb 4 (boolsV (hdL d i))) (fun i _ => n - i) 0 rfl ⟨Nat.zero_le _, Mod.refl _ _, hA2, hB2⟩ ?_
  rintro i w3 ⟨hi, hm3, hA3, hB3⟩
  refine wif_d (fun h4 => ?_) (fun h4 => ?_)
  · have hin : i < n := by omega
    have hL3 := hL2.mod hm3 (by omega)
    have hS3 := h.ext (hm3.ext hE2 (fun i hi => by omega))
    have hx : d[i]? = some d[i] := List.getElem?_eq_getElem (by omega)
    generalize d[i] = x at hx
    have hnx := hd i x hx
    have hkd := arI_kind hnx.1
    have har := arI_of (k := x.k)
    have hT := T_eq hd hx
    have hnl2 : (natsV (ngL d i)).length = d.length := by rw [natsV_length, ngL_len]
    have hbl2 : (boolsV (hdL d i)).length = d.length := by rw [boolsV_length, hdL_len]
    refine cut0In [15] gx_ok (fun w' => Mod (fun k => k = ga ∨ k = gb) w2 w' ∧ Blk w' ga 3 (natsV (ngL d (i + 1))) ∧ Blk w' gb 4 (boolsV (hdL d (i + 1)))) ?_ ?_
    · refine index_sls nd_len hS3 rfl hin (fun ad x' hx' hc => ?_)
      cases Option.some.inj (hx'.symm.trans hx)
      refine loadN_at (vs := x.cells) rfl hc ?_
      refine new (fun w4 hE4 hz4 hB4 => ?_)
      refine storeN_blk0 hB4 rfl (by simp [Nd.cells, scalar]) (fun w5 hg5 _ hX => ?_)
      have hE35 := newBox hE4 hB4 hg5
      refine load_blk hX rfl ?_
      have hL5 := hL3.ext hE35
      have hA5 := hA3.ext hE35
      have hB5 := hB3.ext hE35
      have hm5 := hm3.trans (Mod.of_ext (fun _ => False) hE35) (fun i hi => hi.elim)
      have hxb := hX.lt
      have hga := hA3.lt
      have hgb := hB3.lt
      refine wif_eq (fun k2 => ?_) (fun k2 => ?_)
      · rw [if_neg (by omega), if_neg (by omega), if_neg (by omega), if_neg (by omega), if_neg (by omega), if_neg (by omega)] at hT
        refine load_blk hL5 rfl ?_
        refine index hin ?_
        refine store_mod hB5 (by omega) (fun w6 hm6 hB6 => ?_)
        refine ⟨rfl, hm5.trans hm6 (fun i hi => .inl (.inr hi)), ?_, ?_⟩
        · rw [← ngL_keep (by omega) (by rw [hT]; rfl)]
          exact hA5.mod hm6 (by omega)
        · rw [← hdL_set, hT]
          exact hB6
      have hC0 : LC d ga gb i w5 w5.drew := ⟨Mod.of_ext _ (Ext.drew w5), ⟨_, by rw [set_same (natsV_get (ngL_get (by omega)))]; exact hA5.ext (Ext.drew w5)⟩, ⟨_, by rw [set_same (boolsV_get (hdL_get (by omega)))]; exact hB5.ext (Ext.drew w5)⟩⟩
      have qL : ∀ (j : Nat) (v : Value), [.slice A n c, .int .i64 width, .slice (some ⟨ga, 0, none⟩) n n, .slice (some ⟨gb, 0, none⟩) n n, .map (some q)][j]? = some v → ∀ w', LC d ga gb i w5 w' → w'.cell? ((⟨g, 0, none⟩ : Addr).add j) = some v := fun j v hj w' hw' => by
        rw [(hL5.mod hw'.1 (by omega)).cell]; exact hj
      have qX : ∀ (j : Nat) (v : Value), x.cells[j]? = some v → ∀ w', LC d ga gb i w5 w' → w'.cell? ((⟨w3.heap.size, 0, none⟩ : Addr).add j) = some v := fun j v hj w' hw' => by
        rw [(hX.mod hw'.1 (by omega)).cell]; exact hj
      have qA : ∀ j, j < i → ∀ w', LC d ga gb i w5 w' → w'.cell? ((⟨ga, 0, none⟩ : Addr).add j) = some (.int .i64 (ng (T d j) : Nat)) := fun j hj w' hw' => by
        obtain ⟨_, ⟨v, hb⟩, _⟩ := hw'
        rw [hb.cell, List.getElem?_set, if_neg (by omega), natsV_get (ngL_get (by omega)), if_pos hj]
      have qB : ∀ j, j < i → ∀ w', LC d ga gb i w5 w' → w'.cell? ((⟨gb, 0, none⟩ : Addr).add j) = some (.bool (hasHard (T d j))) := fun j hj w' hw' => by
        obtain ⟨_, _, ⟨v, hb⟩⟩ := hw'
        rw [hb.cell, List.getElem?_set, if_neg (by omega), boolsV_get (hdL_get (by omega)), decide_eq_true hj, Bool.true_and]
      have hnn5 := nnT_N hd i (by omega)
      have hnl5 := N_len hv i
      have hgi := ng_nn (T d i)
      have fin : ∀ (ig : Nat) (hh : Bool) (w6 w7 w8 : World), Ext w5 w6 → Mod (· = ga) w6 w7 → Blk w7 ga 3 ((natsV (ngL d i)).set i (.int .i64 (ig : Int))) → Mod (· = gb) w7 w8 → Blk w8 gb 4 ((boolsV (hdL d i)).set i (.bool hh)) → ig = ng (T d i) → hh = hasHard (T d i) →
          Mod (fun k => k = ga ∨ k = gb) w2 w8 ∧ Blk w8 ga 3 (natsV (ngL d (i + 1))) ∧ Blk w8 gb 4 (boolsV (hdL d (i + 1))) := fun ig hh w6 w7 w8 e1 m1 b1 m2 b2 hig hhh => by
        subst hig
        subst hhh
        rw [ngL_set] at b1
        rw [hdL_set] at b2
        exact ⟨((hm5.trans (Mod.of_ext (fun _ => False) e1) (fun i hi => hi.elim)).trans m1 (fun i hi => .inl (.inl hi))).trans m2 (fun i hi => .inl (.inr hi)), b1.mod m2 (by omega), b2⟩
      have lcA : ∀ (w6 w7 : World) (v : Value), Ext w5 w6 → Mod (· = ga) w6 w7 → Blk w7 ga 3 ((natsV (ngL d i)).set i v) → LC d ga gb i w5 w7 := fun w6 w7 v e1 m1 b1 =>
        ⟨(Mod.of_ext _ e1).trans m1 (fun i hi => .inl (.inl hi)), ⟨v, b1⟩, ⟨_, by rw [set_same (boolsV_get (hdL_get (by omega)))]; exact (hB5.ext e1).mod m1 (by omega)⟩⟩
      have lcB : ∀ (w6 w7 w8 : World) (v u : Value), Ext w5 w6 → Mod (· = ga) w6 w7 → Blk w7 ga 3 ((natsV (ngL d i)).set i v) → Mod (· = gb) w7 w8 → Blk w8 gb 4 ((boolsV (hdL d i)).set i u) → LC d ga gb i w5 w8 := fun w6 w7 w8 v u e1 m1 b1 m2 b2 =>
        ⟨((Mod.of_ext _ e1).trans m1 (fun i hi => .inl (.inl hi))).trans m2 (fun i hi => .inl (.inr hi)), ⟨v, b1.mod m2 (by omega)⟩, ⟨u, b2⟩⟩
      refine wif_eq (fun k3 => ?_) (fun k3 => ?_)
      · rw [if_neg (by omega), if_neg (by omega), if_pos k3] at hT
        have ha := hnx.a_lt (by have := har.2.2.2.1 k3; omega)
        have hbb := hnx.b_lt (by have := har.2.2.2.1 k3; omega)
        have hng : ng (T d i) = ng (T d x.a.toNat) + ng (T d x.b.toNat) := by rw [hT]; rfl
        have hhd : hasHard (T d i) = (hasHard (T d x.a.toNat) || hasHard (T d x.b.toNat)) := by rw [hT]; rfl
        refine draw_plan gx_ok (LC d ga gb i w5) 49 [(true, 0), (true, 1), (true, 2), (true, 3), (true, 4), (true, 5), (true, 6), (true, 7), (true, 8), (true, 9), (true, 10), (true, 11), (true, 12), (true, 13), (true, 14), (true, 15), (true, 16), (true, 17), (true, 18), (true, 19), (true, 20), (true, 21), (true, 22), (true, 23), (true, 24), (true, 25), (true, 26), (true, 27), (true, 28), (true, 29), (true, 30), (true, 31), (true, 32), (true, 33), (true, 34), (true, 35), (true, 36), (true, 37), (true, 38), (true, 39), (true, 40), (true, 41), (true, 42), (true, 43), (true, 44), (true, 45), (false, 46), (true, 47), (false, 48)] (by kernel_rfl) hC0 ?_
        refine qload (qL 2 _ rfl) ?_
        refine qload (qL 3 _ rfl) ?_
        refine qload (qL 2 _ rfl) ?_
        refine qload (qX 3 _ rfl) ?_
        refine index_i (j := x.a.toNat) (by omega) (by omega) ?_
        refine qload (qA _ ha.2) ?_
        refine qload (qL 2 _ rfl) ?_
        refine qload (qX 4 _ rfl) ?_
        refine index_i (j := x.b.toNat) (by omega) (by omega) ?_
        refine qload (qA _ hbb.2) ?_
        refine norm_i64_to ((ng (T d x.a.toNat) + ng (T d x.b.toNat) : Nat) : Int) (by omega) (by omega) ?_
        refine qload (qL 3 _ rfl) ?_
        refine qload (qX 3 _ rfl) ?_
        refine index_i (j := x.a.toNat) (by omega) (by omega) ?_
        refine qload (qB _ ha.2) ?_
        refine wif (fun hha => ?_) (fun hha => ?_)
        · refine index hin ?_
          refine store_mod (hA5.ext (Ext.drew w5)) (by omega) (fun w6 hm6 hA6 => ?_)
          refine ⟨lcA w5.drew w6 _ (Ext.drew w5) hm6 hA6, ?_⟩
          refine index hin ?_
          refine store_mod ((hB5.ext (Ext.drew w5)).mod hm6 (by omega)) (by omega) (fun w7 hm7 hB7 => ?_)
          refine ⟨lcB w5.drew w6 w7 _ _ (Ext.drew w5) hm6 hA6 hm7 hB7, ?_⟩
          exact ⟨rfl, fin _ _ w5.drew w6 w7 (Ext.drew w5) hm6 hA6 hm7 hB7 hng.symm (by rw [hhd, hha]; rfl)⟩
        · refine qload (qL 3 _ rfl) ?_
          refine qload (qX 4 _ rfl) ?_
          refine index_i (j := x.b.toNat) (by omega) (by omega) ?_
          refine qload (qB _ hbb.2) ?_
          refine index hin ?_
          refine store_mod (hA5.ext (Ext.drew w5)) (by omega) (fun w6 hm6 hA6 => ?_)
          refine ⟨lcA w5.drew w6 _ (Ext.drew w5) hm6 hA6, ?_⟩
          refine index hin ?_
          refine store_mod ((hB5.ext (Ext.drew w5)).mod hm6 (by omega)) (by omega) (fun w7 hm7 hB7 => ?_)
          refine ⟨lcB w5.drew w6 w7 _ _ (Ext.drew w5) hm6 hA6 hm7 hB7, ?_⟩
          exact ⟨rfl, fin _ _ w5.drew w6 w7 (Ext.drew w5) hm6 hA6 hm7 hB7 hng.symm (by rw [hhd, hha]; rfl)⟩
      rw [if_neg k3] at hT
      refine cutIn [] gx_ok [104] (fun b : Bool => [.bool b]) (fun b w' => w5 = w' ∧ (b = true ↔ x.k = 4 ∨ x.k = 5 ∨ x.k = 6)) ?_ ?_
      · refine wif_eq (fun k4 => ?_) (fun k4 => ?_)
        · exact ⟨true, by simp [k4]; rfl, rfl, by simp [k4]⟩
        · refine wif_eq (fun k5 => ?_) (fun k5 => ?_)
          · exact ⟨true, by simp [k5]; rfl, rfl, by simp [k5]⟩
          · exact ⟨_, rfl, rfl, by simp [k4, k5]⟩
      rintro b _ ⟨rfl, hbk⟩
      refine wif (fun hb1 => ?_) (fun hb1 => ?_)
      · have hk456 := hbk.1 hb1
        have har1 : 1 ≤ arI x.k := by
          rcases hk456 with h | h | h
          · have := har.2.2.2.2.1 h; omega
          · have := har.2.2.2.2.2.1 h; omega
          · have := har.2.2.2.2.2.2 h; omega
        have ha := hnx.a_lt har1
        have hhd : hasHard (T d i) = hasHard (T d x.a.toNat) := by
          rw [hT, if_neg (by omega), if_neg (by omega)]
          split
          · rfl
          split
          · rfl
          split
          · rfl
          · omega
        have hng : ng (T d i) = if x.k = 6 then ng (T d x.a.toNat) + 1 else ng (T d x.a.toNat) := by
          rw [hT, if_neg (by omega), if_neg (by omega)]
          split
          · rw [if_neg (by omega)]; rfl
          split
          · rw [if_neg (by omega)]; rfl
          split
          · rfl
          · omega
        clear hT
        refine draw_plan gx_ok (LC d ga gb i w5) 30 [(true, 0), (true, 1), (true, 2), (true, 3), (true, 4), (true, 5), (true, 6), (true, 7), (true, 8), (true, 9), (true, 10), (true, 11), (true, 12), (true, 13), (true, 14), (true, 15), (true, 16), (true, 17), (true, 18), (true, 19), (true, 20), (true, 21), (true, 22), (true, 23), (true, 24), (true, 25), (true, 26), (false, 27), (true, 28), (false, 29)] (by kernel_rfl) hC0 ?_
        refine qload (qL 2 _ rfl) ?_
        refine qload (qL 3 _ rfl) ?_
        refine qload (qL 2 _ rfl) ?_
        refine qload (qX 3 _ rfl) ?_
        refine index_i (j := x.a.toNat) (by omega) (by omega) ?_
        refine qload (qA _ ha.2) ?_
        refine qload (qL 3 _ rfl) ?_
        refine qload (qX 3 _ rfl) ?_
        refine index_i (j := x.a.toNat) (by omega) (by omega) ?_
        refine qload (qB _ ha.2) ?_
        refine index hin ?_
        refine store_mod (hA5.ext (Ext.drew w5)) (by omega) (fun w6 hm6 hA6 => ?_)
        refine ⟨lcA w5.drew w6 _ (Ext.drew w5) hm6 hA6, ?_⟩
        refine index hin ?_
        refine store_mod ((hB5.ext (Ext.drew w5)).mod hm6 (by omega)) (by omega) (fun w7 hm7 hB7 => ?_)
        have hlc7 := lcB w5.drew w6 w7 _ _ (Ext.drew w5) hm6 hA6 hm7 hB7
        refine ⟨hlc7, ?_⟩
        refine load (qX 0 _ rfl w7 hlc7) ?_
        refine wif_eq (fun k6 => ?_) (fun k6 => ?_)
        · rw [if_pos k6] at hng
          have hA7 := hA6.mod hm7 (by omega)
          refine load (qL 2 _ rfl w7 hlc7) ?_
          refine index hin ?_
          refine load_blk hA7 (v := .int .i64 (ng (T d x.a.toNat) : Nat)) (by rw [List.getElem?_set, if_pos rfl, if_pos (by omega)]) ?_
          refine norm_i64_to ((ng (T d x.a.toNat) + 1 : Nat) : Int) (by omega) (by omega) ?_
          refine index hin ?_
          refine store_mod hA7 (by rw [List.length_set]; omega) (fun w8 hm8 hA8 => ?_)
          rw [List.set_set, ← hng, ngL_set] at hA8
          rw [← hhd, hdL_set] at hB7
          exact ⟨rfl, (((hm5.trans (Mod.of_ext (fun _ => False) (Ext.drew w5)) (fun i hi => hi.elim)).trans hm6 (fun i hi => .inl (.inl hi))).trans hm7 (fun i hi => .inl (.inr hi))).trans hm8 (fun i hi => .inl (.inl hi)), hA8, hB7.mod hm8 (by omega)⟩
        · rw [if_neg k6] at hng
          exact ⟨rfl, fin _ _ w5.drew w6 w7 (Ext.drew w5) hm6 hA6 hm7 hB7 hng.symm hhd.symm⟩
      · have hk01 : x.k = 0 ∨ x.k = 1 := by
          have hn : ¬ (x.k = 4 ∨ x.k = 5 ∨ x.k = 6) := fun h => by rw [hbk.2 h] at hb1; cases hb1
          omega
        have hh0 : hasHard (T d i) = false ∧ ng (T d i) = 0 := by
          rw [hT]
          split
          · exact ⟨rfl, rfl⟩
          · rw [if_pos (by omega)]; exact ⟨rfl, rfl⟩
        refine ⟨rfl, hm5, ?_, ?_⟩
        · rw [← ngL_keep (by omega) hh0.2]; exact hA5
        · rw [← hdL_keep (by omega) hh0.1]; exact hB5
    · rintro w4 ⟨hm4, hA4, hB4⟩
      refine norm_i64_to ((i + 1 : Nat) : Int) (by omega) (by omega) ?_
      exact ⟨i + 1, rfl, ⟨hin, hm4, hA4, hB4⟩, by show n - (i + 1) < n - i; omega⟩
  have hin : i = d.length := by omega
  subst hin
  clear hi h4
  rw [ngL_all] at hA3
  rw [hdL_all] at hB3
  rw [hWn] at hL2
  subst hlen
  have hL3 := hL2.mod hm3 (by omega)
  have hE3 : Ext w w3 := hm3.ext hE2 (fun i hi => by omega)
  have hM3 := hM2.mod hm3 (by omega)
  have hql := hM2.lt
  have hgl := hL2.lt
  have hz3 := hm3.size
  refine at_makeMapQ gx_ok (fun b : Bool => Value.bool b) rfl (fun w4 hE4 hz4 hF4 => ?_)
  refine norm_i64_to ((d.length - 1 : Nat) : Int) (by omega) (by omega) ?_
  have hS4 : SD w4 A d.length c d := (h.ext hE3).ext hE4
  have hAq : ¬ rowS A q := fun hr => by
    have := h.1.row_lt (by omega) (by rw [flat_length nd_len]; omega) _ hr
    omega
  have hbest := best_fn g width.toNat d.length A (some ⟨ga, 0, none⟩) (some ⟨gb, 0, none⟩) c d.length d.length d q hd (by omega) hle (fun e => by omega) w4 ⟨hL3.ext hE4⟩ hS4 (Sl.own' (hA3.ext hE4) (by simp [natsV]) (by unfold maxLen; omega)) (Sl.own' (hB3.ext hE4) (by simp [boolsV]) (by unfold maxLen; omega)) hAq (by rintro ⟨ad, e, hb⟩; cases e; exact hoffs.2.2.2.2.2.1 hb) (by rintro ⟨ad, e, hb⟩; cases e; exact hoffs.2.2.2.2.2.2.2.1 hb) (d.length - 1) 0 (0, false) [] w4 (by omega) (Mod.refl _ _) ⟨hM3.ext hE4, by simp⟩ (by dsimp only; omega)
  refine call hbest ?_
  rintro v w5 ⟨qm, m, L', rfl, hO5, hq5, hb5, hM5, hm5, hoff5⟩
  dsimp only at hb5
  have hqf := (hoff5 w3.heap.size (by omega) (fun s hs => by cases hs)).2
  have hF5 := hF4.mod hm5 (by omega)
  have hz5 := hm5.size
  refine at_rangeQ gx_ok rfl rfl rfl rfl hO5 (fun w6 hE6 hz6 hR6 => ?_)
  have hitq : w5.heap.size ≠ qm := by have := hO5.lt; omega
  refine loop gx_ok [] (fun _ : List (Pl × Rs) × List (Pl × Rs) × List (Bool × Rs) => []) (fun t w' => Mod (fun i => i = w5.heap.size ∨ i = w3.heap.size) w6 w' ∧ (∃ cur, RangeQ plV w' w5.heap.size qm (toV m) (toV t.1) cur) ∧ MapQ (fun b : Bool => Value.bool b) w' w3.heap.size (toV t.2.2) ∧ MinInv t.2.1 t.2.2 ∧ (t.2.1 ++ t.1).Perm m) (fun t _ => t.1.length) (m, [], []) rfl ⟨Mod.refl _ _, ⟨_, hR6⟩, hF5.ext hE6, .inl ⟨rfl, rfl⟩, List.Perm.refl _⟩ ?_
  rintro ⟨Lc, dn, mo⟩ w7 ⟨hm7, ⟨cur, hR7⟩, hO7, hI7, hP7⟩
  dsimp only at hR7 hO7 hI7 hP7
  refine at_nextQ gx_ok rfl rfl hR7 hitq (fun hnil => ?_) (fun L1 pv L2 w8 hsp hm8 hz8 hR8 => ?_)
  · have hL0 := toV_nil hnil
    subst hL0
    have hPm : dn.Perm m := by simpa using hP7
    obtain ⟨r, rfl, hleast⟩ := (hI7.perm hPm).least hb5
    have hE7 : Ext w w7 := hm7.ext (((hm5.ext (hE3.trans hE4) (fun i hi => by omega))).trans hE6) (fun i hi => by have := hE3.size; omega)
    have hlc : r.c.length ≤ 65536 := by
      rw [nrm_len _ _ hleast.1]
      have := ng_nn (T d (d.length - 1))
      omega
    refine wif_f rfl ?_
    refine at_lookupQ (kv := fun b : Bool => Value.bool b) (a := true) (v := rsV r) gx_ok rfl rfl rfl rfl boolKey rfl rfl hO7 rfl ?_
    refine at_bytes gx_ok rfl rfl rfl rfl rfl rfl rfl rfl (by rw [strOf_size, chB_len]; unfold maxLen; omega) (fun B cp w8 hE8 hS8 => ?_)
    rw [bytesOf_strOf (by intro x hx; simp only [chB, List.mem_map] at hx; obtain ⟨b, _, rfl⟩ := hx; split <;> omega)] at hS8
    rw [strOf_size, chB_len] at hS8 ⊢
    refine loop gx_ok [13, 169] (fun s : Option Addr × Nat × Nat => [.slice s.1 s.2.2 s.2.1, .int .i64 s.2.2]) (fun s w' => Ext w8 w' ∧ Own w' w8.heap.size 4 1 s.1 s.2.2 s.2.1 (boolsV (r.c.take s.2.2)) ∧ s.2.2 ≤ r.c.length) (fun s _ => r.c.length - s.2.2) (none, 0, 0) rfl ⟨Ext.refl _, Own.nil _ _ _ _, Nat.zero_le _⟩ ?_
    rintro ⟨C, cp2, s⟩ w9 ⟨hE9, hown9, hs9⟩
    dsimp only at hown9 hs9 ⊢
    have hnew : ∀ k, rowS C k → w8.heap.size ≤ k := fun k hk => (hown9.rows k hk).1
    refine wif_d (fun h5 => ?_) (fun h5 => ?_)
    · have hsl : s < r.c.length := by omega
      have hcs : r.c[s]? = some r.c[s] := List.getElem?_eq_getElem hsl
      generalize r.c[s] = b at hcs
      refine index_sl (hS8.ext hE9) hsl (fun ad u hA hu hcell => ?_)
      rw [bytesV_get' (x := if b then 0 else 1) (by rw [chB, List.getElem?_map, hcs]; rfl)] at hu
      cases hu
      refine load hcell ?_
      refine at_build1 gx_ok rfl rfl rfl rfl rfl rfl rfl rfl ?_
      intro w10 hE10 hz10 hB10
      refine at_app gx_ok rfl rfl rfl rfl rfl (by decide) rfl rfl ⟨_, rfl⟩ rfl rfl (hown9.ext hE10) (Sl.own' hB10 rfl (by simp [maxLen])) (by simp [scalar]) (by unfold maxLen; omega) (by show _ * 1 ≤ _; omega) (by have := hE9.size; have := hE10.size; omega) ?_
      intro A' c' w11 hm11 hown11 _
      have hstep : boolsV (r.c.take s) ++ [Value.bool (((if b = true then 0 else 1 : Nat) : Int) == 0)] = boolsV (r.c.take (s + 1)) := by
        rw [List.take_add_one, hcs]
        cases b <;> simp [boolsV]
      rw [hstep] at hown11
      refine norm_i64_to ((s + 1 : Nat) : Int) (by omega) (by omega) ?_
      exact ⟨(A', c', s + 1), rfl, ⟨hm11.ext (hE9.trans hE10) (fun k hk => hnew k hk), hown11, (by omega : s + 1 ≤ r.c.length)⟩, by show r.c.length - (s + 1) < r.c.length - s; omega⟩
    · have hse : s = r.c.length := by omega
      subst hse
      rw [List.take_length] at hown9
      refine ⟨(hE7.trans hE8).trans hE9, ?_⟩
      rw [if_neg (by simpa using h1), if_neg (by omega)]
      exact ⟨C, cp2, r.c, rfl, hown9.sl, hleast⟩
  · obtain ⟨M1, xx, M2, rfl, rfl, rfl, rfl⟩ := toV_split hsp
    rw [toV_app] at hR8
    have hP8 := perm_shift hP7
    refine wif_t rfl ?_
    refine at_entryQ gx_ok rfl rfl hR8 ?_
    refine new (fun w9 hE9 hz9 hB9 => ?_)
    refine storeN_blk0 hB9 rfl (by simp [scalar]) (fun w10 hg10 _ hB10 => ?_)
    have hE810 := newBox hE9 hB9 hg10
    refine loadN_blk0 hB10 rfl ?_
    have hz67 := hm7.size
    have hkp := keepB_fn w3.heap.size true xx.2 mo w10 ((hO7.mod hm8 (by omega)).ext hE810)
    refine call hkp ?_
    rintro v w11 ⟨hO11, hm11⟩
    refine ⟨(M1 ++ M2, xx :: dn, kpM true xx.2 mo), rfl, ⟨?_, ⟨_, (hR8.ext hE810).mod hm11 (by omega) hqf⟩, hO11, hI7.step xx.1 xx.2, hP8.2⟩, ?_⟩
    · exact ((hm7.trans hm8 (fun i hi => .inl (.inl hi))).trans (Mod.of_ext (fun _ => False) hE810) (fun i hi => hi.elim)).trans hm11 (fun i hi => .inl (.inr hi))
    · show (M1 ++ M2).length < (M1 ++ xx :: M2).length
      simp
end Go.Proofs.Ytbkadgdhmfolaaa
