/-
  The reference's diagrams: level, Same, branch. (Printed by ia1gen.py.)
  The reference's diagrams: the walk that numbers, Valid, Check.
  The reference's diagrams: unique branches, operations: what they compute; unique, constant, sides.
  The reference's diagrams: constant, sides, at.
  The reference's diagrams: the operation on two numbers.
  The reference's diagrams: operations, Var.
  The reference's diagrams: first, operation, Xor.
  Conditions: none.
-/
import Derived.Test.YtedopgkbajhanaaGreatDoorKe
namespace Go.Proofs.YtedopgkbajhanaaGreatDoor
section
open Go Go.RowKit

theorem Blk.cell0 {w : World} {g t : Nat} {cs : List Value} (h : Blk w g t cs) : w.cell? ⟨g, 0, none⟩ = cs[0]? := by have := h.cell 0; simpa [Addr.add] using this

theorem rlevel_fn (A : Option Addr) (n c : Nat) (r m : Int) (nd : List Br) (w : World) (h : SB w A n c nd) (hm : m < n + 2) :
    Fn Tryz.prog 161 [dgV A n c r, .int .i64 m] w (fun v w' => v = .int .i64 (lvlD nd m) ∧ Ext w w') := by
  have hlen := h.2
  refine fn_of_exec (c := { c161 with cuts := [] }) gx_ok Tryz.func161 rfl rfl rfl ?_
  refine new (fun w1 hE1 hz1 hB1 => ?_)
  refine wif_d (fun h1 => ?_) (fun h1 => ?_)
  · exact ⟨by unfold lvlD; rw [if_pos h1], hE1⟩
  · refine load_blk0 hB1 rfl ?_
    refine norm_i64_to (((m - 2).toNat : Nat) : Int) (by omega) (by have := h.1.le; have := h.1.cap; simp only [maxLen] at this; omega) ?_
    refine index_sls br_len (h.ext hE1) rfl (by omega) (fun p x hx hc => ?_)
    refine load (hc 0 _ rfl) ?_
    exact ⟨by unfold lvlD; rw [if_neg h1, hx]; rfl, hE1⟩


theorem rsame_fn (A B : Option Addr) (n c m e : Nat) (l l' : List Br) (r r' : Int) (w : World) (h : SB w A n c l) (h' : SB w B m e l') :
    Fn Tryz.prog 38 [dgV A n c r, dgV B m e r'] w (fun v w' => v = .bool (decide ((l, r) = (l', r'))) ∧ Ext w w') := by
  have hl := h.2
  have hl' := h'.2
  have hcap : n ≤ 9223372036854775807 := by have := h.1.le; have := h.1.cap; simp only [maxLen] at this; omega
  refine fn_of_exec (c := { c38 with cuts := [] }) gx_ok Tryz.func38 rfl rfl rfl ?_
  refine new (fun w1 hE1 hz1 hB1 => ?_)
  refine new (fun w2 hE2 hz2 hB2 => ?_)
  have hB12 := hB1.ext hE2
  have hE02 := hE1.trans hE2
  refine load_blk hB12 rfl ?_
  refine load_blk hB2 rfl ?_
  refine wif_ne (fun h1 => ?_) (fun h1 => ?_)
  · exact ⟨by rw [decide_eq_false (fun e => h1 (by cases e; rfl))], hE02⟩
  refine load_blk0 hB12 rfl ?_
  refine load_blk0 hB2 rfl ?_
  refine wif_ne (fun h2 => ?_) (fun h2 => ?_)
  · exact ⟨by rw [decide_eq_false (fun e => h2 (by cases e; omega))], hE02⟩
  refine loop gx_ok [5] (fun s : Nat => [.int .i64 s]) (fun s w' => Ext w2 w' ∧ s ≤ n ∧ ∀ j, j < s → l[j]? = l'[j]?) (fun s _ => n - s) 0 rfl ⟨Ext.refl w2, Nat.zero_le _, fun j hj => absurd hj (by omega)⟩ ?_
  rintro s w3 ⟨hE3, hs, hall⟩
  have hX3 := hB12.ext hE3
  have hY3 := hB2.ext hE3
  have hE03 := hE02.trans hE3
  refine load_blk0 hX3 rfl ?_
  refine wif_d (fun h3 => ?_) (fun h3 => ?_)
  · refine draw_plan gx_ok (Ext w3) 11 [(true, 0), (true, 1), (true, 2), (true, 3), (true, 4), (true, 5), (true, 6), (true, 7), (true, 8), (true, 9), (true, 10)] (by kernel_rfl) (Ext.drew w3) ?_
    refine qload (v := .slice A n c) (fun w' hw' => by rw [(hX3.ext hw').cell]; rfl) ?_
    refine index_sls br_len (h.ext hE03) rfl (by omega) (fun p x hx hc => ?_)
    refine qloadN (vs := x.cells) rfl (fun w' hw' j v hj => hw'.cell (hc j v hj)) ?_
    refine qload (v := .slice B m e) (fun w' hw' => by rw [(hY3.ext hw').cell]; rfl) ?_
    refine index_sls br_len (h'.ext hE03) rfl (by omega) (fun q y hy hc' => ?_)
    refine qloadN (vs := y.cells) rfl (fun w' hw' j v hj => hw'.cell (hc' j v hj)) ?_
    have hEd := hE3.trans (Ext.drew w3)
    by_cases hxy : x = y
    · refine wif_f (by rw [eq3, decide_eq_true (br_eq.1 hxy)]; rfl) ?_
      refine norm_i64_to ((s + 1 : Nat) : Int) (by omega) (by omega) ?_
      refine ⟨s + 1, rfl, ⟨hEd, by omega, fun j hj => ?_⟩, by show n - (s + 1) < n - s; omega⟩
      by_cases hjs : j < s
      · exact hall j hjs
      · have : j = s := by omega
        subst this
        rw [hx, hy, hxy]
    · refine wif_t (by rw [eq3, decide_eq_false (fun e => hxy (br_eq.2 e))]; rfl) ?_
      refine ⟨?_, hE02.trans hEd⟩
      rw [decide_eq_false (fun e => list_ne hx hy hxy (by cases e; rfl))]
  · refine ⟨?_, hE03⟩
    have e1 := list_eq hl (by omega) (fun j hj => hall j (by omega))
    rw [decide_eq_true (by rw [e1, h1])]

theorem rbranch_fn (A : Option Addr) (n c : Nat) (r : Int) (s : Nat) (nd : List Br) (x : Br) (w : World) (h : SB w A n c nd) (hx : nd[s]? = some x) (hcap : n ≤ 1000000000000) :
    Fn Tryz.prog 129 [dgV A n c r, .int .i64 s] w (fun v w' => ∃ b, v = .bool b ∧ (b = true ↔ brOk nd s x) ∧ Ext w w') := by
  have hlen := h.2
  have hs : s < nd.length := (List.getElem?_eq_some_iff.1 hx).1
  refine fn_of_exec (c := { c129 with cuts := [] }) gx_ok Tryz.func129 rfl rfl rfl ?_
  refine new (fun w1 hE1 hz1 hB1 => ?_)
  refine load_blk0 hB1 rfl ?_
  refine index_sls br_len (h.ext hE1) rfl (by omega) (fun p y hy hc => ?_)
  have hyx : y = x := Option.some.inj (hy.symm.trans hx)
  subst hyx
  refine loadN_at (vs := y.cells) rfl hc ?_
  refine new (fun w4 hE4 hz4 hB4 => ?_)
  refine storeN_blk0 hB4 rfl (sc rfl) (fun w5 hg5 hz5 hX5 => ?_)
  have hE15 : Ext w1 w5 := newBox hE4 hB4 hg5
  have hE5 := hE1.trans hE15
  have hB5 := hB1.ext hE15
  have bad : ¬ brOk nd s y → ∀ w', Ext w w' → ∃ b, (Value.bool false : Value) = .bool b ∧ (b = true ↔ brOk nd s y) ∧ Ext w w' := fun hno w' hE => ⟨false, rfl, by simp [hno], hE⟩
  refine load_blk0 hX5 rfl ?_
  refine wif_d (fun c1 => ?_) (fun c1 => ?_)
  · exact bad (fun hb => by have := hb.1; omega) _ hE5
  refine load_blk0 hX5 rfl ?_
  refine wif_d (fun c2 => ?_) (fun c2 => ?_)
  · exact bad (fun hb => by have := hb.2.1; omega) _ hE5
  refine load_blk hX5 rfl ?_
  refine wif_d (fun c3 => ?_) (fun c3 => ?_)
  · exact bad (fun hb => by have := hb.2.2.1; omega) _ hE5
  refine load_blk hX5 rfl ?_
  refine wif_d (fun c4 => ?_) (fun c4 => ?_)
  · exact bad (fun hb => by have := hb.2.2.2.2.1; omega) _ hE5
  refine load_blk hX5 rfl ?_
  refine norm_i64_to ((s : Int) + 2) rfl (by omega) ?_
  refine wif_d (fun c5 => ?_) (fun c5 => ?_)
  · exact bad (fun hb => by have := hb.2.2.2.1; omega) _ hE5
  refine load_blk hX5 rfl ?_
  refine norm_i64_to ((s : Int) + 2) rfl (by omega) ?_
  refine wif_d (fun c6 => ?_) (fun c6 => ?_)
  · exact bad (fun hb => by have := hb.2.2.2.2.2.1; omega) _ hE5
  refine load_blk hX5 rfl ?_
  refine load_blk hX5 rfl ?_
  refine wif_eq (fun c7 => ?_) (fun c7 => ?_)
  · exact bad (fun hb => hb.2.2.2.2.2.2.1 c7) _ hE5
  have qB : ∀ w', Ext w5 w' → ∀ (j : Nat) (v : Value), [Value.slice A n c, .int .i64 r][j]? = some v → w'.cell? ((⟨w.heap.size, 0, none⟩ : Addr).add j) = some v := fun w' hw' j v hj => by rw [(hB5.ext hw').cell]; exact hj
  have qX : ∀ w', Ext w5 w' → ∀ (j : Nat) (v : Value), y.cells[j]? = some v → w'.cell? ((⟨w1.heap.size, 0, none⟩ : Addr).add j) = some v := fun w' hw' j v hj => by rw [(hX5.ext hw').cell]; exact hj
  have qX0 : ∀ w', Ext w5 w' → w'.cell? (⟨w1.heap.size, 0, none⟩ : Addr) = some (.int .i64 y.v) := fun w' hw' => by rw [(hX5.ext hw').cell0]; rfl
  refine draw_plan gx_ok (Ext w5) 16 [(true, 0), (true, 1), (true, 2), (true, 4), (true, 5), (false, 3), (true, 6), (true, 7), (true, 8), (true, 9), (true, 10), (true, 12), (true, 13), (false, 11), (true, 14), (true, 15)] (by kernel_rfl) (Ext.drew w5) ?_
  refine qloadN (vs := [.slice A n c, .int .i64 r]) rfl (fun w' hw' j v hj => by have := qB w' hw' j v hj; simpa [Addr.add] using this) ?_
  refine qload (v := .int .i64 y.l) (fun w' hw' => qX w' hw' 1 _ rfl) ?_
  refine qload (v := .int .i64 y.v) (fun w' hw' => qX0 w' hw') ?_
  refine call (rlevel_fn A n c r y.l nd _ (h.ext (hE5.trans (Ext.drew w5))) (by omega)) ?_
  rintro v w6 ⟨rfl, hE6⟩
  have hE56 := (Ext.drew w5).trans hE6
  refine ⟨hE56, ?_⟩
  refine wif_d (fun c9 => ?_) (fun c9 => ?_)
  · exact bad (fun hb => by have := hb.2.2.2.2.2.2.2.2.1; omega) _ (hE5.trans hE56)
  refine qloadN (vs := [.slice A n c, .int .i64 r]) rfl (fun w' hw' j v hj => by have := qB w' hw' j v hj; simpa [Addr.add] using this) ?_
  refine qload (v := .int .i64 y.h) (fun w' hw' => qX w' hw' 2 _ rfl) ?_
  refine qload (v := .int .i64 y.v) (fun w' hw' => qX0 w' hw') ?_
  refine call (rlevel_fn A n c r y.h nd _ (h.ext (hE5.trans hE56)) (by omega)) ?_
  rintro v w7 ⟨rfl, hE7⟩
  have hE57 := hE56.trans hE7
  refine ⟨hE57, ?_⟩
  refine wif_d (fun c10 => ?_) (fun c10 => ?_)
  · exact bad (fun hb => by have := hb.2.2.2.2.2.2.2.2.2; omega) _ (hE5.trans hE57)
  have hE07 := hE5.trans hE57
  refine loop gx_ok [6] (fun t : Nat => [.int .i64 t]) (fun t w' => Ext w7 w' ∧ t ≤ s ∧ y ∉ nd.take t) (fun t _ => s - t) 0 rfl ⟨Ext.refl w7, Nat.zero_le _, by simp⟩ ?_
  rintro t w8 ⟨hE8, ht, hno⟩
  have hB8 := (hB5.ext hE57).ext hE8
  have hX8 := (hX5.ext hE57).ext hE8
  have hE08 := hE07.trans hE8
  refine wif_d (fun h8 => ?_) (fun h8 => ?_)
  · refine draw_plan gx_ok (Ext w8) 7 [(true, 0), (true, 1), (true, 2), (true, 3), (true, 4), (true, 5), (true, 6)] (by kernel_rfl) (Ext.drew w8) ?_
    refine qload (v := .slice A n c) (fun w' hw' => by rw [(hB8.ext hw').cell]; rfl) ?_
    refine index_sls br_len (h.ext hE08) rfl (by omega) (fun p z hz hc => ?_)
    refine qloadN (vs := z.cells) rfl (fun w' hw' j v hj => hw'.cell (hc j v hj)) ?_
    refine qloadN (vs := y.cells) rfl (fun w' hw' j v hj => by have := (hX8.ext hw').cell j; simp [Addr.add] at this; rw [← hj]; simpa [Addr.add] using this) ?_
    have hEd := hE8.trans (Ext.drew w8)
    by_cases hzy : z = y
    · refine wif_t (by rw [eq3, decide_eq_true (br_eq.1 hzy)]) ?_
      refine bad (fun hb => hb.2.2.2.2.2.2.2.1 ?_) _ (hE07.trans hEd)
      subst hzy
      exact List.mem_of_getElem? (i := t) (by rw [List.getElem?_take_of_lt (by omega)]; exact hz)
    · refine wif_f (by rw [eq3, decide_eq_false (fun e => hzy (br_eq.2 e))]) ?_
      refine norm_i64_to ((t + 1 : Nat) : Int) (by omega) (by omega) ?_
      refine ⟨t + 1, rfl, ⟨hEd, by omega, ?_⟩, by show s - (t + 1) < s - t; omega⟩
      rw [List.take_add_one, hz]
      simp only [Option.toList_some, List.mem_append, List.mem_singleton, not_or]
      exact ⟨hno, fun e => hzy e.symm⟩
  · have : t = s := by omega
    subst this
    exact ⟨true, rfl, by simp only [true_iff]; exact ⟨by omega, by omega, by omega, by omega, by omega, by omega, c7, hno, by omega, by omega⟩, hE08⟩
end

section
open Go Go.RowKit

def natsV (l : List Nat) : List Value := l.map fun (x : Nat) => .int .i64 (x : Int)
theorem natsV_get {l : List Nat} {j x : Nat} (h : l[j]? = some x) : (natsV l)[j]? = some (.int .i64 (x : Int)) := by simp [natsV, h]
theorem natsV_length (l : List Nat) : (natsV l).length = l.length := by simp [natsV]
theorem natsV_set (l : List Nat) (i x : Nat) : natsV (l.set i x) = (natsV l).set i (.int .i64 (x : Int)) := by simp [natsV, List.map_set]

/-- What the walk writes. -/
def WS (x pg : Nat) (A : Option Addr) : Nat → Prop := fun k => k = x ∨ k = pg ∨ rowS A k
theorem WS.moved {w : World} {x pg : Nat} {A A' : Option Addr} (h : Moved w A A') : ∀ k, WS x pg A' k → WS x pg A k ∨ w.heap.size ≤ k := by
  rintro k (rfl | rfl | hk)
  · exact .inl (.inl rfl)
  · exact .inl (.inr (.inl rfl))
  · rcases h.rows k hk with h | h
    · exact .inl (.inr (.inr h))
    · exact .inr h
/-- The walk in memory. -/
structure Wk (w : World) (base x pg : Nat) (NA : Option Addr) (nn nc : Nat) (nd : List Br) (OA : Option Addr) (oc : Nat) (st : List Br × List Nat) : Prop where
  blk : Blk w x 226 [.slice NA nn nc, .slice (some ⟨pg, 0, none⟩) nn nn, .slice OA st.1.length oc]
  num : Blk w pg 3 (natsV st.2)
  own : Own w base 116 3 OA st.1.length oc (brV st.1)
  lt : x < base ∧ pg < base ∧ x ≠ pg
  top : base ≤ w.heap.size
  nds : SB w NA nn nc nd
  row : ∀ ad, NA = some ad → 0 < nn → ad.block < base ∧ ad.block ≠ x ∧ ad.block ≠ pg
  len : st.2.length = nn
theorem Wk.ext {w w' : World} {base x pg : Nat} {NA : Option Addr} {nn nc : Nat} {nd : List Br} {OA : Option Addr} {oc : Nat} {st : List Br × List Nat} (h : Wk w base x pg NA nn nc nd OA oc st) (k : Ext w w') : Wk w' base x pg NA nn nc nd OA oc st :=
  ⟨h.blk.ext k, h.num.ext k, h.own.ext k, h.lt, Nat.le_trans h.top k.size, h.nds.ext k, h.row, h.len⟩
theorem Wk.keep {w w' : World} {base x pg : Nat} {NA : Option Addr} {nn nc : Nat} {nd : List Br} {OA : Option Addr} {oc : Nat} {st : List Br × List Nat} (h : Wk w base x pg NA nn nc nd OA oc st) (hm : Mod (WS x pg OA) w w') : SB w' NA nn nc nd := by
  refine ⟨h.nds.1.modS hm ?_, h.nds.2⟩
  rintro h0 i ⟨ad, rfl, rfl⟩ hi
  obtain ⟨r1, r2, r3⟩ := h.row ad rfl h0
  rcases hi with hi | hi | hi
  · exact r2 hi
  · exact r3 hi
  · have := (h.own.rows _ hi).1; omega
def WTo (w : World) (base x pg : Nat) (NA : Option Addr) (nn nc : Nat) (nd : List Br) (OA : Option Addr) (st : List Br × List Nat) (w' : World) : Prop := ∃ OA' oc', Wk w' base x pg NA nn nc nd OA' oc' st ∧ Mod (WS x pg OA) w w' ∧ Moved w OA OA'

theorem rvisit_fn (base x pg : Nat) (NA : Option Addr) (nn nc : Nat) (nd : List Br) (hwf : WfB nd) (hnn : nn ≤ 1000000000000) : ∀ (m : Nat) (n : Int) (st : List Br × List Nat) (OA : Option Addr) (oc : Nat) (w : World),
    Wk w base x pg NA nn nc nd OA oc st → 0 ≤ n → n < m → n < nn + 2 → st.1.length + st.2.count 0 ≤ 1000000000000 →
    Fn Tryz.prog 162 [.pointer (some ⟨x, 0, none⟩), .int .i64 n] w (fun v w' => v = .int .i64 (vis nd m n st).1 ∧ WTo w base x pg NA nn nc nd OA (vis nd m n st).2 w')
  | 0, n, st, OA, oc, w, _, h0, hm, _, _ => by omega
  | m + 1, n, st, OA, oc, w, hK, h0, hm, hn, hc => by
    have ih := rvisit_fn base x pg NA nn nc nd hwf hnn m
    have hnl : nd.length = nn := hK.nds.2
    have hl := hK.len
    have hrows := hK.own.rows
    have hxlt := hK.blk.lt
    have hplt := hK.num.lt
    obtain ⟨lx, lp, lxp⟩ := hK.lt
    refine fn_of_exec (c := { c162 with cuts := [] }) gx_ok Tryz.func162 rfl rfl rfl ?_
    by_cases h1 : n < 2
    · refine wif_dt h1 ?_
      rw [vis_lt h1]
      exact ⟨rfl, OA, oc, hK, Mod.refl _ _, Moved.refl _ _⟩
    refine wif_df h1 ?_
    have hj : (n - 2).toNat < nn := by omega
    have hz : st.2[(n - 2).toNat]? = some st.2[(n - 2).toNat] := List.getElem?_eq_getElem (by omega)
    refine load_blk hK.blk rfl ?_
    refine norm_i64_to (((n - 2).toNat : Nat) : Int) (by omega) (by omega) ?_
    refine index (by omega) ?_
    refine load_blk hK.num (natsV_get hz) ?_
    have hd : st.2[(n - 2).toNat]?.getD 0 = st.2[(n - 2).toNat] := by rw [hz]; rfl
    by_cases h2 : 0 < st.2[(n - 2).toNat]?.getD 0
    · rw [vis_old h1 h2]
      rw [hd] at h2 ⊢
      refine wif_dt (by omega) ?_
      refine load_blk hK.blk rfl ?_
      refine norm_i64_to (((n - 2).toNat : Nat) : Int) (by omega) (by omega) ?_
      refine index (by omega) ?_
      refine load_blk hK.num (natsV_get hz) ?_
      exact ⟨rfl, OA, oc, hK, Mod.refl _ _, Moved.refl _ _⟩
    refine wif_df (by rw [hd] at h2; omega) ?_
    have hx := List.getElem?_eq_getElem (show (n - 2).toNat < nd.length by omega)
    generalize nd[(n - 2).toNat] = b at hx
    obtain ⟨x1, x2, x3, x4⟩ := hwf _ _ hx
    rw [vis_new h1 h2 hx]
    refine load_blk0 hK.blk rfl ?_
    refine norm_i64_to (((n - 2).toNat : Nat) : Int) (by omega) (by omega) ?_
    refine index_sls br_len hK.nds rfl (by omega) (fun ad y hy hcl => ?_)
    have hyx : y = b := Option.some.inj (hy.symm.trans hx)
    subst hyx
    refine loadN_at (vs := y.cells) rfl hcl ?_
    refine new (fun w1 hE1 hz1 hB1 => ?_)
    refine storeN_blk0 hB1 rfl (sc rfl) (fun w2 hg2 hz2 hX2 => ?_)
    have hE2 : Ext w w2 := newBox hE1 hB1 hg2
    have hM02 : Mod (WS x pg OA) w w2 := Mod.of_ext _ hE2
    have hbn : ¬ WS x pg OA w.heap.size := fun e => by
      rcases e with e | e | e
      · omega
      · omega
      · have := (hrows _ e).2; omega
    refine load_blk hX2 rfl ?_
    have f1 := vis_facts hwf m y.l st x1 (by omega) (by omega) (by omega)
    refine call (ih y.l st OA oc w2 (hK.ext hE2) x1 (by omega) (by omega) hc) ?_
    rintro v w3 ⟨rfl, OA3, oc3, hK3, hM3, hV3⟩
    have hX3 := hX2.mod hM3 hbn
    have hbn3 : ¬ WS x pg OA3 w.heap.size := fun e => (WS.moved hV3 _ e).elim hbn (fun h => by omega)
    refine load_blk hX3 rfl ?_
    have f2 := vis_facts hwf m y.h _ x3 (by omega) (by omega) f1.len
    have c1 := f1.cnt
    have c2 := f2.cnt
    refine call (ih y.h _ OA3 oc3 w3 hK3 x3 (by omega) (by omega) (by omega)) ?_
    rintro v w4 ⟨rfl, OA4, oc4, hK4, hM4, hV4⟩
    have hX4 := hX3.mod hM4 hbn3
    have hbn4 : ¬ WS x pg OA4 w.heap.size := fun e => (WS.moved hV4 _ e).elim hbn3 (fun h => by have := hM3.size; omega)
    have hM24 := hM3.trans hM4 (WS.moved hV3)
    have hV24 := hV3.trans hV4 hM3.size
    have hM04 : Mod (WS x pg OA) w w4 := hM02.trans hM24 (fun i hi => .inl hi)
    have hV04 := hV24.back hE2.size
    generalize (vis nd m y.l st) = a at *
    generalize (vis nd m y.h a.2) = b at *
    have hrows4 := hK4.own.rows
    have hnx : ¬ rowS OA4 x := fun e => by have := (hrows4 _ e).1; omega
    have hnp : ¬ rowS OA4 pg := fun e => by have := (hrows4 _ e).1; omega
    refine draw_plan gx_ok (Mod (rowS OA4) w4) 12 [(true, 0), (true, 1), (true, 2), (true, 3), (true, 4), (true, 5), (true, 6), (true, 7), (true, 8), (true, 9), (false, 10), (false, 11)] (by kernel_rfl) (Mod.of_ext _ (Ext.drew w4)) ?_
    refine qload (v := .slice OA4 b.2.1.length oc4) (fun w' hw' => by rw [(hK4.blk.mod hw' hnx).cell]; rfl) ?_
    refine qload (v := .int .i64 y.v) (fun w' hw' => by rw [(hX4.mod hw' (fun e => hbn4 (.inr (.inr e)))).cell]; rfl) ?_
    refine at_buildN gx_ok [(⟨y.v, a.1, b.1⟩ : Br).cells] rfl rfl rfl rfl rfl ⟨rfl, rfl, ⟨⟩⟩ rfl (fun cs h => by simp only [List.mem_singleton] at h; subst h; rfl) rfl (by decide) (by decide) ?_
    intro w5 hE5 hz5 hB5
    have hE45 := (Ext.drew w4).trans hE5
    have hK5 := hK4.ext hE45
    refine ⟨Mod.of_ext _ hE45, ?_⟩
    have hs5 : Sl w5 3 (some ⟨w4.drew.heap.size, 0, none⟩) 1 1 (⟨y.v, a.1, b.1⟩ : Br).cells := Sl.own (sz := 3) (n := 1) hB5 (Nat.le_refl _) (by decide) (by simp [Br.cells])
    refine at_app gx_ok rfl rfl rfl rfl rfl (by decide) rfl rfl ⟨_, rfl⟩ rfl rfl hK5.own hs5 (by intro u hu; simp [Br.cells] at hu; rcases hu with rfl | rfl | rfl <;> rfl) (by unfold maxLen; omega) (by show _ * 24 ≤ _; omega) hK5.top ?_
    intro OA6 oc6 w6 hM6 hown6 hV6
    have hM46 : Mod (rowS OA4) w4 w6 := (Mod.of_ext (rowS OA4) hE45).trans hM6 (fun i hi => .inl hi)
    refine ⟨hM46, ?_⟩
    refine store_mod (hK4.blk.mod hM46 hnx) (by simp) (fun w7 hM7 hB7 => ?_)
    have hN7 := (hK4.num.mod hM46 hnp).mod hM7 (fun e => lxp e.symm)
    have hlen : b.2.2.length = nn := hK4.len
    refine draw_plan gx_ok (Ext w7) 13 [(true, 0), (true, 1), (true, 2), (true, 3), (true, 4), (true, 5), (true, 6), (true, 7), (true, 8), (true, 9), (true, 10), (true, 11), (true, 12)] (by kernel_rfl) (Ext.drew w7) ?_
    refine qload (v := .slice (some ⟨pg, 0, none⟩) nn nn) (fun w' hw' => by rw [(hB7.ext hw').cell]; rfl) ?_
    refine norm_i64_to (((n - 2).toNat : Nat) : Int) (by omega) (by omega) ?_
    refine qload (v := .slice OA6 (b.2.1.length + 1) oc6) (fun w' hw' => by rw [(hB7.ext hw').cell]; rfl) ?_
    refine norm_i64_to ((b.2.1.length + 2 : Nat) : Int) (by omega) (by omega) ?_
    refine index (by omega) ?_
    refine store_mod (hN7.ext (Ext.drew w7)) (by rw [natsV_length]; omega) (fun w8 hM8 hB8 => ?_)
    rw [← natsV_set] at hB8
    have hB8' := (hB7.ext (Ext.drew w7)).mod hM8 lxp
    refine load_blk hB8' rfl ?_
    refine norm_i64_to ((b.2.1.length + 2 : Nat) : Int) (by omega) (by omega) ?_
    have hM48 : Mod (WS x pg OA4) w4 w8 := (((hM46.mono (fun i hi => .inl (.inr (.inr hi)))).trans hM7 (fun i hi => .inl (.inl hi))).trans (Mod.of_ext (WS x pg OA4) (Ext.drew w7)) (fun i hi => .inl hi)).trans hM8 (fun i hi => .inl (.inr (.inl hi)))
    have hrows6 := hown6.rows
    have el : (b.2.1 ++ [(⟨y.v, a.1, b.1⟩ : Br)]).length = b.2.1.length + 1 := by simp
    refine ⟨rfl, OA6, oc6, ⟨?_, ?_, ?_, hK.lt, ?_, hK4.keep hM48, hK.row, ?_⟩, hM04.trans hM48 (WS.moved hV04), ?_⟩
    · rw [el]; exact hB8'
    · exact hB8
    · rw [el, brV_snoc]
      refine ((hown6.mod hM7 (fun i hi e => ?_)).ext (Ext.drew w7)).mod hM8 (fun i hi e => ?_)
      · have := (hrows6 i hi).1; omega
      · have := (hrows6 i hi).1; omega
    · have := hK4.top; have := hM48.size; omega
    · rw [List.length_set]; exact hlen
    · exact hV04.trans (hV6.back hE45.size) hM04.size

theorem rnumbered_fn (NA : Option Addr) (nn nc : Nat) (nd : List Br) (root : Int) (w : World) (hN : SB w NA nn nc nd) (hwf : WfB nd) (hnn : nn ≤ 1000000000000) (h0 : 0 ≤ root) (hr : root < nn + 2) :
    Fn Tryz.prog 130 [.slice NA nn nc, .int .i64 root] w (DgRes w (numberedD nd root)) := by
  have hnl : nd.length = nn := hN.2
  have hrow := SB.lt hN
  refine fn_of_exec (c := { c130 with cuts := [] }) gx_ok Tryz.func130 rfl rfl rfl ?_
  refine new (fun w1 hE1 hz1 hB1 => ?_)
  refine at_make gx_ok rfl rfl rfl rfl rfl rfl rfl rfl (by show 8 * nn ≤ _; omega) (by unfold maxLen; omega) (fun w2 hE2 hz2 hB2 => ?_)
  refine new (fun w3 hE3 hz3 hB3 => ?_)
  have hE03 := (hE1.trans hE2).trans hE3
  have hW : Wk w3 w3.heap.size w2.heap.size w1.heap.size NA nn nc nd none 0 ([], List.replicate nd.length 0) := by
    refine ⟨hB3, ?_, Own.nil _ _ _ _, ⟨by omega, by omega, by omega⟩, Nat.le_refl _, hN.ext hE03, fun ad e hn => ?_, by simp [hnl]⟩
    · have := hB2.ext hE3
      rw [hnl]
      simpa [natsV] using this
    · have := hrow ad e hn
      exact ⟨by omega, by omega, by omega⟩
  refine call (rvisit_fn w3.heap.size w2.heap.size w1.heap.size NA nn nc nd hwf hnn (root.toNat + 1) root _ none 0 w3 hW h0 (by omega) hr (by simp; omega)) ?_
  rintro v w4 ⟨rfl, OA, oc, hK, hM4, hV4⟩
  refine load_blk hK.blk rfl ?_
  have hR4 := ((hB1.ext hE2).ext hE3).mod hM4 (fun e => by
    rcases e with e | e | ⟨_, e, _⟩
    · omega
    · omega
    · cases e)
  refine storeN_blk0 hR4 rfl (sc rfl) (fun w5 hg5 _ hB5 => ?_)
  have hM5 : Mod (· = w.heap.size) w4 w5 := Mod.of_grown hg5 rfl
  refine loadN_blk0 hB5 rfl ?_
  have hE4 : Ext w w4 := hM4.ext hE03 (fun i hi => by
    rcases hi with e | e | ⟨_, e, _⟩
    · omega
    · omega
    · cases e)
  exact ⟨OA, _, oc, rfl, hM5.ext hE4 (fun i hi => by omega), ⟨(hK.own.mod hM5 (fun i hi e => by have := (hK.own.rows i hi).1; omega)).sl, rfl⟩, fun i hi => Nat.le_trans hE03.size (hK.own.rows i hi).1⟩

theorem rvalid_fn (A : Option Addr) (n c : Nat) (nd : List Br) (root : Int) (w : World) (h : SB w A n c nd) (hn : n ≤ 1000000000000) :
    Fn Tryz.prog 96 [dgV A n c root] w (fun v w' => ∃ b, v = .bool b ∧ (b = true ↔ VD nd root) ∧ Ext w w') := by
  have hlen := h.2
  refine fn_of_exec (c := { c96 with cuts := [] }) gx_ok Tryz.func96 rfl rfl rfl ?_
  refine new (fun w1 hE1 hz1 hB1 => ?_)
  have bad : ¬ VD nd root → ∀ w', Ext w w' → ∃ b, (Value.bool false : Value) = .bool b ∧ (b = true ↔ VD nd root) ∧ Ext w w' := fun hno w' hE => ⟨false, rfl, by simp [hno], hE⟩
  refine load_blk hB1 rfl ?_
  refine wif_d (fun c1 => ?_) (fun c1 => ?_)
  · exact bad (fun hv => by have := hv.2.1; omega) _ hE1
  refine load_blk hB1 rfl ?_
  refine load_blk0 hB1 rfl ?_
  refine norm_i64_to ((n : Int) + 2) rfl (by omega) ?_
  refine wif_d (fun c2 => ?_) (fun c2 => ?_)
  · exact bad (fun hv => by have := hv.2.2.1; omega) _ hE1
  refine loop gx_ok [3] (fun s : Nat => [.int .i64 s]) (fun s w' => Ext w1 w' ∧ s ≤ n ∧ ∀ (j : Nat) (b : Br), j < s → nd[j]? = some b → brOk nd j b) (fun s _ => n - s) 0 rfl ⟨Ext.refl _, Nat.zero_le _, fun j b hj => absurd hj (by omega)⟩ ?_
  rintro s w2 ⟨hE2, hs, hall⟩
  have hB2 := hB1.ext hE2
  have hE02 := hE1.trans hE2
  refine load_blk0 hB2 rfl ?_
  refine wif_d (fun h3 => ?_) (fun h3 => ?_)
  · have hx : nd[s]? = some nd[s] := List.getElem?_eq_getElem (by omega)
    generalize nd[s] = x at hx
    refine loadN_blk0 hB2 rfl ?_
    refine call (rbranch_fn A n c root s nd x w2 (h.ext hE02) hx hn) ?_
    rintro v w3 ⟨b, rfl, hb, hE3⟩
    refine wif_not (wif (fun hbt => ?_) (fun hbf => ?_))
    · refine norm_i64_to ((s + 1 : Nat) : Int) (by omega) (by omega) ?_
      refine ⟨s + 1, rfl, ⟨hE2.trans hE3, by omega, fun j y hj hy => ?_⟩, by show n - (s + 1) < n - s; omega⟩
      by_cases hjs : j < s
      · exact hall j y hjs hy
      · have : j = s := by omega
        subst this
        rw [Option.some.inj (hy.symm.trans hx)]; exact hb.1 hbt
    · exact bad (fun hv => by have := hb.2 (hv.1 s x hx); rw [hbf] at this; cases this) _ (hE02.trans hE3)
  · have : s = n := by omega
    subst this
    have hwf : WfB nd := fun j x hx => by
      obtain ⟨_, _, h1, h2, h3, h4, _⟩ := hall j x (by have := (List.getElem?_eq_some_iff.1 hx).1; omega) hx
      exact ⟨h1, h2, h3, h4⟩
    refine draw_plan gx_ok (Ext w2) 7 [(true, 0), (true, 1), (true, 2), (true, 3), (true, 4), (false, 5), (false, 6)] (by kernel_rfl) (Ext.drew w2) ?_
    refine qloadN (vs := [.slice A s c, .int .i64 root]) rfl (fun w' hw' j v hj => by rw [(hB2.ext hw').cell]; exact hj) ?_
    refine qload (v := .slice A s c) (fun w' hw' => by rw [(hB2.ext hw').cell]; rfl) ?_
    refine qload (v := .int .i64 root) (fun w' hw' => by rw [(hB2.ext hw').cell]; rfl) ?_
    have hEd := hE02.trans (Ext.drew w2)
    refine call (rnumbered_fn A s c nd root _ (h.ext hEd) hwf hn (by omega) (by omega)) ?_
    rintro v w3 ⟨OA, m, oc, rfl, hE3, hO3, _⟩
    have hE23 := (Ext.drew w2).trans hE3
    refine ⟨hE23, ?_⟩
    refine call (rsame_fn A OA s c m oc nd _ root _ w3 (h.ext (hE02.trans hE23)) hO3) ?_
    rintro v w4 ⟨rfl, hE4⟩
    refine ⟨hE23.trans hE4, ?_⟩
    refine ⟨_, rfl, ?_, (hE02.trans hE23).trans hE4⟩
    rw [decide_eq_true_eq]
    exact ⟨fun e => ⟨fun j b hb => hall j b (by have := (List.getElem?_eq_some_iff.1 hb).1; omega) hb, by omega, by omega, e.symm⟩, fun hv => hv.2.2.2.symm⟩

theorem rcheck2_fn (A : Option Addr) (n c : Nat) (nd : List Br) (root : Int) (w : World) (h : SB w A n c nd) :
    Fn Tryz.prog 55 [dgV A n c root] w (fun v w' => v = .int .i64 (chkD nd root) ∧ Ext w w') := by
  have hlen := h.2
  refine fn_of_exec (c := { c55 with cuts := [] }) gx_ok Tryz.func55 rfl rfl rfl ?_
  refine new (fun w1 hE1 hz1 hB1 => ?_)
  refine load_blk0 hB1 rfl ?_
  refine wif_d (fun h1 => ?_) (fun h1 => ?_)
  · exact ⟨by rw [chkD_large (by omega)], hE1⟩
  have hsm : ¬ 4096 < nd.length := by omega
  refine loadN_blk0 hB1 rfl ?_
  refine call (rvalid_fn A n c nd root w1 (h.ext hE1) (by omega)) ?_
  rintro v w2 ⟨b, rfl, hb, hE2⟩
  refine wif_not (wif (fun hbt => ?_) (fun hbf => ?_))
  · exact ⟨by rw [chkD_ok hsm (hb.1 hbt)], hE1.trans hE2⟩
  · exact ⟨by rw [chkD_no hsm (fun hv => by have := hb.2 hv; rw [hbf] at this; cases this)], hE1.trans hE2⟩
end

section
open Go Go.RowKit

/-- Where a branch stands first. -/
def fstIdx (b : Br) : List Br → Option Nat
  | [] => none
  | x :: l => if x = b then some 0 else (fstIdx b l).map (· + 1)
theorem fstIdx_some {b : Br} : ∀ {l : List Br} {s : Nat}, (∀ j, j < s → l[j]? ≠ some b) → l[s]? = some b → fstIdx b l = some s
  | [], s, _, h => by simp at h
  | x :: l, 0, _, h => by simp at h; simp [fstIdx, h]
  | x :: l, s + 1, hn, h => by
    have hx : x ≠ b := fun e => hn 0 (by omega) (by simp [e])
    have := fstIdx_some (l := l) (s := s) (fun j hj => by have := hn (j + 1) (by omega); simpa using this) (by simpa using h)
    simp [fstIdx, hx, this]
theorem fstIdx_none {b : Br} : ∀ {l : List Br}, (∀ j, j < l.length → l[j]? ≠ some b) → fstIdx b l = none
  | [], _ => rfl
  | x :: l, hn => by
    have hx : x ≠ b := fun e => hn 0 (by simp) (by simp [e])
    have := fstIdx_none (l := l) (fun j hj => by have := hn (j + 1) (by simpa using hj); simpa using this)
    simp [fstIdx, hx, this]
def uniqD (b : Br) (l : List Br) : List Br × Int := if b.l = b.h then (l, b.l) else match fstIdx b l with
  | some i => (l, ((i + 2 : Nat) : Int))
  | none => (l ++ [b], ((l.length + 2 : Nat) : Int))
theorem uniqD_len (b : Br) (l : List Br) : l.length ≤ (uniqD b l).1.length := by
  unfold uniqD
  split
  · exact Nat.le_refl _
  · split
    · exact Nat.le_refl _
    · simp

def constD (op x y : Int) : Int := if op = 0 then x * y else if op = 1 then max x y else if op = 3 then 1 - x else (x + y) % 2
def sideD (d : List Br) (n v : Int) : Int × Int := if lvlD d n ≠ v then (n, n) else match d[(n - 2).toNat]? with
  | some b => (b.l, b.h)
  | none => (n, n)
abbrev Tr3 := Int × Int × Int
def at2 (a b : List Br) (op : Int) : Nat → Int → Int → List Br × List Tr3 → Int × (List Br × List Tr3)
  | 0, _, _, st => (0, st)
  | m + 1, x, y, st => if x < 2 ∧ y < 2 then (constD op x y, st) else
      match st.2.find? (fun t => decide (t.1 = x ∧ t.2.1 = y)) with
      | some t => (t.2.2, st)
      | none =>
        let v := min (lvlD a x) (lvlD b y)
        let r0 := at2 a b op m (sideD a x v).1 (sideD b y v).1 st
        let r1 := at2 a b op m (sideD a x v).2 (sideD b y v).2 r0.2
        let u := uniqD ⟨v, r0.1, r1.1⟩ r1.2.1
        (u.2, (u.1, r1.2.2 ++ [(x, y, u.2)]))
theorem at2_c {a b : List Br} {op : Int} {m : Nat} {x y : Int} {st : List Br × List Tr3} (h : x < 2 ∧ y < 2) : at2 a b op (m + 1) x y st = (constD op x y, st) := by rw [at2, if_pos h]
theorem at2_s {a b : List Br} {op : Int} {m : Nat} {x y : Int} {st : List Br × List Tr3} {t : Tr3} (h : ¬ (x < 2 ∧ y < 2)) (k : st.2.find? (fun t => decide (t.1 = x ∧ t.2.1 = y)) = some t) : at2 a b op (m + 1) x y st = (t.2.2, st) := by rw [at2, if_neg h, k]
theorem at2_n {a b : List Br} {op : Int} {m : Nat} {x y : Int} {st : List Br × List Tr3} (h : ¬ (x < 2 ∧ y < 2)) (k : st.2.find? (fun t => decide (t.1 = x ∧ t.2.1 = y)) = none) (v : Int) (hv : min (lvlD a x) (lvlD b y) = v) :
    at2 a b op (m + 1) x y st = ((uniqD ⟨v, (at2 a b op m (sideD a x v).1 (sideD b y v).1 st).1, (at2 a b op m (sideD a x v).2 (sideD b y v).2 (at2 a b op m (sideD a x v).1 (sideD b y v).1 st).2).1⟩ (at2 a b op m (sideD a x v).2 (sideD b y v).2 (at2 a b op m (sideD a x v).1 (sideD b y v).1 st).2).2.1).2,
      ((uniqD ⟨v, (at2 a b op m (sideD a x v).1 (sideD b y v).1 st).1, (at2 a b op m (sideD a x v).2 (sideD b y v).2 (at2 a b op m (sideD a x v).1 (sideD b y v).1 st).2).1⟩ (at2 a b op m (sideD a x v).2 (sideD b y v).2 (at2 a b op m (sideD a x v).1 (sideD b y v).1 st).2).2.1).1,
        (at2 a b op m (sideD a x v).2 (sideD b y v).2 (at2 a b op m (sideD a x v).1 (sideD b y v).1 st).2).2.2 ++ [(x, y, (uniqD ⟨v, (at2 a b op m (sideD a x v).1 (sideD b y v).1 st).1, (at2 a b op m (sideD a x v).2 (sideD b y v).2 (at2 a b op m (sideD a x v).1 (sideD b y v).1 st).2).1⟩ (at2 a b op m (sideD a x v).2 (sideD b y v).2 (at2 a b op m (sideD a x v).1 (sideD b y v).1 st).2).2.1).2)])) := by
  subst hv; rw [at2, if_neg h, k]
theorem at2_mono (a b : List Br) (op : Int) : ∀ (m : Nat) (x y : Int) (st : List Br × List Tr3), st.1.length ≤ (at2 a b op m x y st).2.1.length ∧ st.2.length ≤ (at2 a b op m x y st).2.2.length
  | 0, x, y, st => ⟨Nat.le_refl _, Nat.le_refl _⟩
  | m + 1, x, y, st => by
    by_cases h : x < 2 ∧ y < 2
    · rw [at2_c h]; exact ⟨Nat.le_refl _, Nat.le_refl _⟩
    cases k : st.2.find? (fun t => decide (t.1 = x ∧ t.2.1 = y)) with
    | some t => rw [at2_s h k]; exact ⟨Nat.le_refl _, Nat.le_refl _⟩
    | none =>
      rw [at2_n h k _ rfl]
      have h1 := at2_mono a b op m (sideD a x (min (lvlD a x) (lvlD b y))).1 (sideD b y (min (lvlD a x) (lvlD b y))).1 st
      have h2 := at2_mono a b op m (sideD a x (min (lvlD a x) (lvlD b y))).2 (sideD b y (min (lvlD a x) (lvlD b y))).2 (at2 a b op m (sideD a x (min (lvlD a x) (lvlD b y))).1 (sideD b y (min (lvlD a x) (lvlD b y))).1 st).2
      refine ⟨Nat.le_trans (Nat.le_trans h1.1 h2.1) (uniqD_len _ _), ?_⟩
      simp only [List.length_append]
      omega

/-- Children come first, and the conditions are conditions. -/
def DOk (nd : List Br) : Prop := WfB nd ∧ ∀ (j : Nat) (b : Br), nd[j]? = some b → 0 ≤ b.v ∧ b.v ≤ 63
theorem VD.dok {nd : List Br} {r : Int} (h : VD nd r) : DOk nd := ⟨h.wf, fun j b hb => ⟨(h.1 j b hb).1, (h.1 j b hb).2.1⟩⟩
theorem sideD_le {nd : List Br} (h : DOk nd) {n v : Int} (h0 : 0 ≤ n) (h64 : v < 64) : 0 ≤ (sideD nd n v).1 ∧ (sideD nd n v).1 ≤ n ∧ 0 ≤ (sideD nd n v).2 ∧ (sideD nd n v).2 ≤ n ∧ (lvlD nd n = v → (sideD nd n v).1 < n ∧ (sideD nd n v).2 < n) := by
  unfold sideD
  split
  · rename_i hv; exact ⟨h0, Int.le_refl _, h0, Int.le_refl _, fun e => absurd e hv⟩
  · rename_i hv
    have hv := Decidable.not_not.1 hv
    have h2n : ¬ n < 2 := fun h2 => by
      unfold lvlD at hv
      rw [if_pos h2] at hv
      omega
    cases hx : nd[(n - 2).toNat]? with
    | none =>
      unfold lvlD at hv
      rw [if_neg h2n, hx] at hv
      simp at hv
      omega
    | some b =>
      obtain ⟨h1, h2, h3, h4⟩ := h.1 _ _ hx
      exact ⟨h1, by simp only; omega, h3, by simp only; omega, fun _ => ⟨by simp only; omega, by simp only; omega⟩⟩
theorem lvl_lt {nd : List Br} (h : DOk nd) {n : Int} (h2 : ¬ n < 2) (hn : n < nd.length + 2) : lvlD nd n < 64 := by
  unfold lvlD
  have hx := List.getElem?_eq_getElem (show (n - 2).toNat < nd.length by omega)
  rw [if_neg h2, hx]
  have := (h.2 _ _ hx).2
  simp only [Option.map_some, Option.getD_some]
  omega
theorem lvl_le (nd : List Br) (h : DOk nd) (n : Int) : lvlD nd n ≤ 64 := by
  unfold lvlD
  split
  · omega
  · cases hx : nd[(n - 2).toNat]? with
    | none => simp
    | some b => have := (h.2 _ _ hx).2; simp; omega

theorem unique_fn (base : Nat) (A : Option Addr) (n c : Nat) (l : List Br) (b : Br) (w : World) (h : Own w base 116 3 A n c (brV l)) (hn : l.length = n) (hb : base ≤ w.heap.size) (hl : n + 1 ≤ 1000000000000) :
    Fn Tryz.prog 182 [.slice A n c, .agg b.cells.toArray] w (fun v w' => ∃ A' c', v = .tuple #[.slice A' (uniqD b l).1.length c', .int .i64 (uniqD b l).2] ∧ Own w' base 116 3 A' (uniqD b l).1.length c' (brV (uniqD b l).1) ∧ Mod (rowS A) w w' ∧ Moved w A A') := by
  have hsb : SB w A n c l := ⟨h.sl, hn⟩
  refine fn_of_exec (c := { c182 with cuts := [] }) gx_ok Tryz.func182 rfl rfl rfl ?_
  refine new (fun w1 hE1 hz1 hB1 => ?_)
  have hM1 : Mod (rowS A) w w1 := Mod.of_ext _ hE1
  refine load_blk hB1 rfl ?_
  refine load_blk hB1 rfl ?_
  refine wif_eq (fun h1 => ?_) (fun h1 => ?_)
  · have e : uniqD b l = (l, b.l) := by unfold uniqD; rw [if_pos h1]
    rw [e]
    refine draw_plan gx_ok (Ext w1) 5 [(true, 0), (true, 1), (true, 2), (true, 3), (true, 4)] (by kernel_rfl) (Ext.drew w1) ?_
    refine qload (v := .int .i64 b.l) (fun w' hw' => by rw [(hB1.ext hw').cell]; rfl) ?_
    have hEd := hE1.trans (Ext.drew w1)
    rw [hn]
    exact ⟨A, c, rfl, h.ext hEd, Mod.of_ext _ hEd, Moved.refl _ _⟩
  have e0 : uniqD b l = match fstIdx b l with
    | some i => (l, ((i + 2 : Nat) : Int))
    | none => (l ++ [b], ((l.length + 2 : Nat) : Int)) := by unfold uniqD; rw [if_neg h1]
  refine loop gx_ok [6] (fun s : Nat => [.int .i64 s]) (fun s w' => Ext w1 w' ∧ s ≤ n ∧ ∀ j, j < s → l[j]? ≠ some b) (fun s _ => n - s) 0 rfl ⟨Ext.refl _, Nat.zero_le _, fun j hj => absurd hj (by omega)⟩ ?_
  rintro s w2 ⟨hE2, hs, hno⟩
  have hE02 := hE1.trans hE2
  have hB2 := hB1.ext hE2
  refine wif_d (fun h3 => ?_) (fun h3 => ?_)
  · refine draw_plan gx_ok (Ext w2) 6 [(true, 0), (true, 1), (true, 2), (true, 3), (true, 4), (true, 5)] (by kernel_rfl) (Ext.drew w2) ?_
    refine index_sls br_len (hsb.ext hE02) rfl (by omega) (fun p z hz hc => ?_)
    refine qloadN (vs := z.cells) rfl (fun w' hw' j v hj => hw'.cell (hc j v hj)) ?_
    refine qloadN (vs := b.cells) rfl (fun w' hw' j v hj => by rw [(hB2.ext hw').cell]; exact hj) ?_
    have hEd := hE2.trans (Ext.drew w2)
    by_cases hzb : z = b
    · refine wif_t (by rw [eq3, decide_eq_true (br_eq.1 hzb)]) ?_
      subst hzb
      rw [fstIdx_some hno hz] at e0
      simp only at e0
      rw [e0]
      refine norm_i64_to ((s + 2 : Nat) : Int) (by omega) (by omega) ?_
      rw [hn]
      exact ⟨A, c, rfl, h.ext (hE1.trans hEd), Mod.of_ext _ (hE1.trans hEd), Moved.refl _ _⟩
    · refine wif_f (by rw [eq3, decide_eq_false (fun e => hzb (br_eq.2 e))]) ?_
      refine norm_i64_to ((s + 1 : Nat) : Int) (by omega) (by omega) ?_
      refine ⟨s + 1, rfl, ⟨hEd, by omega, fun j hj => ?_⟩, by show n - (s + 1) < n - s; omega⟩
      by_cases hjs : j < s
      · exact hno j hjs
      · have : j = s := by omega
        subst this
        rw [hz]
        exact fun e => hzb (Option.some.inj e)
  · have : s = n := by omega
    subst this
    rw [fstIdx_none (by rw [hn]; exact hno)] at e0
    simp only at e0
    rw [e0]
    refine loadN_blk0 hB2 rfl ?_
    refine at_buildN gx_ok [b.cells] rfl rfl rfl rfl rfl ⟨rfl, rfl, ⟨⟩⟩ rfl (fun cs h => by simp only [List.mem_singleton] at h; subst h; rfl) rfl (by decide) (by decide) ?_
    intro w3 hE3 hz3 hB3
    have hE03 := hE02.trans hE3
    have hs3 : Sl w3 3 (some ⟨w2.heap.size, 0, none⟩) 1 1 b.cells := Sl.own (sz := 3) (n := 1) hB3 (Nat.le_refl _) (by decide) (by simp [Br.cells])
    refine at_app gx_ok rfl rfl rfl rfl rfl (by decide) rfl rfl ⟨_, rfl⟩ rfl rfl (h.ext hE03) hs3 (by intro u hu; simp [Br.cells] at hu; rcases hu with rfl | rfl | rfl <;> rfl) (by unfold maxLen; omega) (by show _ * 24 ≤ _; omega) (Nat.le_trans hb hE03.size) ?_
    intro A' c' w4 hM4 hown4 hV4
    refine norm_i64_to ((s + 2 : Nat) : Int) (by omega) (by omega) ?_
    have el : (l ++ [b]).length = s + 1 := by rw [List.length_append, hn]; rfl
    rw [el, hn]
    refine ⟨A', c', rfl, ?_, (Mod.of_ext (rowS A) hE03).trans hM4 (fun i hi => .inl hi), hV4.back hE03.size⟩
    rw [brV_snoc]; exact hown4
end

section
open Go Go.RowKit

theorem constant_fn (pb : Nat) (cs : List Value) (op x y : Int) (w : World) (h : Blk w pb 222 cs) (hc : cs[4]? = some (.int .i64 op)) (x0 : 0 ≤ x) (x1 : x < 2) (y0 : 0 ≤ y) (y1 : y < 2) (ho : op ≠ 3) :
    Fn Tryz.prog 180 [.pointer (some ⟨pb, 0, none⟩), .int .i64 x, .int .i64 y] w (fun v w' => v = .int .i64 (constD op x y) ∧ w = w') := by
  refine fn_of_exec (c := { c180 with cuts := [] }) gx_ok Tryz.func180 rfl rfl rfl ?_
  refine load_blk h hc ?_
  refine wif_eq (fun c0 => ?_) (fun c0 => ?_)
  · have : 0 ≤ x * y ∧ x * y ≤ 1 := by
      rcases (by omega : x = 0 ∨ x = 1) with rfl | rfl <;> rcases (by omega : y = 0 ∨ y = 1) with rfl | rfl <;> decide
    refine norm_i64_to (x * y) rfl (by omega) ?_
    exact ⟨by unfold constD; rw [if_pos c0], rfl⟩
  refine wif_eq (fun c1 => ?_) (fun c1 => ?_)
  · refine norm (m := max x y) (by rw [Int.max_def]; split <;> split <;> omega) ?_
    exact ⟨by unfold constD; rw [if_neg c0, if_pos c1], rfl⟩
  · refine norm_i64_to (x + y) rfl (by omega) ?_
    refine normIf (m := (x + y) % 2) (by decide) (Int.tmod_eq_emod_of_nonneg (by omega)) ?_
    exact ⟨by unfold constD; rw [if_neg c0, if_neg c1, if_neg ho], rfl⟩

theorem sides_fn (A : Option Addr) (n c : Nat) (r m v : Int) (nd : List Br) (w : World) (h : SB w A n c nd) (hm : m < n + 2) (h64 : v < 64) :
    Fn Tryz.prog 181 [dgV A n c r, .int .i64 m, .int .i64 v] w (fun u w' => u = .tuple #[.int .i64 (sideD nd m v).1, .int .i64 (sideD nd m v).2] ∧ Ext w w') := by
  have hlen := h.2
  have hcap : n ≤ 9223372036854775807 := by have := h.1.le; have := h.1.cap; simp only [maxLen] at this; omega
  refine fn_of_exec (c := { c181 with cuts := [] }) gx_ok Tryz.func181 rfl rfl rfl ?_
  refine new (fun w1 hE1 hz1 hB1 => ?_)
  refine loadN_blk0 hB1 rfl ?_
  refine call (rlevel_fn A n c r m nd w1 (h.ext hE1) hm) ?_
  rintro u w2 ⟨rfl, hE2⟩
  have hE02 := hE1.trans hE2
  have hB2 := hB1.ext hE2
  refine wif_ne (fun c1 => ?_) (fun c1 => ?_)
  · exact ⟨by unfold sideD; rw [if_pos c1], hE02⟩
  · have h2n : ¬ m < 2 := fun h2 => by
      unfold lvlD at c1
      rw [if_pos h2] at c1
      omega
    have hx := List.getElem?_eq_getElem (show (m - 2).toNat < nd.length by omega)
    generalize nd[(m - 2).toNat] = b at hx
    have e : sideD nd m v = (b.l, b.h) := by unfold sideD; rw [if_neg (by omega), hx]
    rw [e]
    refine draw_plan gx_ok (Ext w2) 16 [(true, 0), (true, 1), (true, 2), (true, 3), (true, 4), (true, 5), (true, 6), (true, 7), (true, 8), (true, 9), (true, 10), (true, 11), (true, 12), (true, 13), (true, 14), (true, 15)] (by kernel_rfl) (Ext.drew w2) ?_
    refine qload (v := .slice A n c) (fun w' hw' => by rw [(hB2.ext hw').cell]; rfl) ?_
    refine norm_i64_to (((m - 2).toNat : Nat) : Int) (by omega) (by omega) ?_
    refine index_sls br_len (h.ext hE02) rfl (by omega) (fun p z hz hc => ?_)
    have hzb : z = b := Option.some.inj (hz.symm.trans hx)
    subst hzb
    refine qload (v := .int .i64 z.l) (fun w' hw' => hw'.cell (hc 1 _ rfl)) ?_
    refine qload (v := .slice A n c) (fun w' hw' => by rw [(hB2.ext hw').cell]; rfl) ?_
    refine norm_i64_to (((m - 2).toNat : Nat) : Int) (by omega) (by omega) ?_
    refine index_sls br_len (h.ext hE02) rfl (by omega) (fun p' z' hz' hc' => ?_)
    have hzb' : z' = z := Option.some.inj (hz'.symm.trans hx)
    subst hzb'
    refine qload (v := .int .i64 z'.h) (fun w' hw' => hw'.cell (hc' 2 _ rfl)) ?_
    exact ⟨rfl, hE02.trans (Ext.drew w2)⟩

def Tr3.cells (t : Tr3) : List Value := [.int .i64 t.1, .int .i64 t.2.1, .int .i64 t.2.2]
theorem tr_len (t : Tr3) : (Tr3.cells t).length = 3 := rfl
def trV (l : List Tr3) : List Value := l.flatMap Tr3.cells
theorem trV_snoc (l : List Tr3) (x : Tr3) : trV (l ++ [x]) = trV l ++ Tr3.cells x := by simp [trV]

/-- What an operation writes. -/
def AS (pb : Nat) (NA SA : Option Addr) : Nat → Prop := fun k => k = pb ∨ rowS NA k ∨ rowS SA k
theorem AS.moved {w : World} {pb : Nat} {NA NA' SA SA' : Option Addr} (h : Moved w NA NA') (h' : Moved w SA SA') : ∀ k, AS pb NA' SA' k → AS pb NA SA k ∨ w.heap.size ≤ k := by
  rintro k (rfl | hk | hk)
  · exact .inl (.inl rfl)
  · rcases h.rows k hk with h | h
    · exact .inl (.inr (.inl h))
    · exact .inr h
  · rcases h'.rows k hk with h | h
    · exact .inl (.inr (.inr h))
    · exact .inr h
/-- The two diagrams, and the operation. -/
structure AD where
  A : Option Addr
  n : Nat
  c : Nat
  a : List Br
  ra : Int
  B : Option Addr
  m : Nat
  d : Nat
  b : List Br
  rb : Int
  op : Int
structure Ap (w0 w : World) (base pb : Nat) (D : AD) (NA : Option Addr) (nc : Nat) (SA : Option Addr) (sc : Nat) (st : List Br × List Tr3) : Prop where
  e0 : Ext w0 w
  as_ : SB w0 D.A D.n D.c D.a
  bs : SB w0 D.B D.m D.d D.b
  p0 : w0.heap.size ≤ pb
  blk : Blk w pb 222 [.slice D.A D.n D.c, .int .i64 D.ra, .slice D.B D.m D.d, .int .i64 D.rb, .int .i64 D.op, .slice NA st.1.length nc, .slice SA st.2.length sc]
  nown : Own w base 116 3 NA st.1.length nc (brV st.1)
  sown : Own w base 199 3 SA st.2.length sc (trV st.2)
  apart : ∀ i, rowS NA i → ¬ rowS SA i
  lt : pb < base
  top : base ≤ w.heap.size
def ATo (w0 w : World) (base pb : Nat) (D : AD) (NA SA : Option Addr) (st : List Br × List Tr3) (w' : World) : Prop := ∃ NA' nc' SA' sc', Ap w0 w' base pb D NA' nc' SA' sc' st ∧ Mod (AS pb NA SA) w w' ∧ Moved w NA NA' ∧ Moved w SA SA'
theorem Ap.grow {w0 w w' : World} {base pb : Nat} {D : AD} {NA : Option Addr} {nc : Nat} {SA : Option Addr} {sc : Nat} {st : List Br × List Tr3} (h : Ap w0 w base pb D NA nc SA sc st) (k : Ext w w') : Ap w0 w' base pb D NA nc SA sc st :=
  ⟨h.e0.trans k, h.as_, h.bs, h.p0, h.blk.ext k, h.nown.ext k, h.sown.ext k, h.apart, h.lt, Nat.le_trans h.top k.size⟩
theorem Ap.kept {w0 w : World} {base pb : Nat} {D : AD} {NA : Option Addr} {nc : Nat} {SA : Option Addr} {sc : Nat} {st : List Br × List Tr3} (h : Ap w0 w base pb D NA nc SA sc st) : ∀ i, AS pb NA SA i → w0.heap.size ≤ i := by
  have := h.p0
  have := h.lt
  rintro i (rfl | hi | hi)
  · omega
  · have := (h.nown.rows i hi).1; omega
  · have := (h.sown.rows i hi).1; omega

theorem find_at {l : List Tr3} {x y : Int} : ∀ {s : Nat} {t : Tr3}, (∀ j u, j < s → l[j]? = some u → ¬ (u.1 = x ∧ u.2.1 = y)) → l[s]? = some t → t.1 = x ∧ t.2.1 = y → l.find? (fun t => decide (t.1 = x ∧ t.2.1 = y)) = some t := by
  induction l with
  | nil => intro s t _ h; simp at h
  | cons u l ih =>
    intro s t hn h ht
    cases s with
    | zero => simp at h; subst h; rw [List.find?_cons_of_pos (by simp [ht])]
    | succ s =>
      rw [List.find?_cons_of_neg (by have := hn 0 u (by omega) rfl; simpa using this)]
      exact ih (s := s) (fun j v hj hv => hn (j + 1) v (by omega) (by simpa using hv)) (by simpa using h) ht
theorem find_no {l : List Tr3} {x y : Int} (h : ∀ j u, j < l.length → l[j]? = some u → ¬ (u.1 = x ∧ u.2.1 = y)) : l.find? (fun t => decide (t.1 = x ∧ t.2.1 = y)) = none := by
  rw [List.find?_eq_none]
  intro u hu
  obtain ⟨j, hj, rfl⟩ := List.mem_iff_getElem.1 hu
  simpa using h j _ hj (List.getElem?_eq_getElem hj)
end

section
open Go Go.RowKit

theorem at_fn (w0 : World) (base pb : Nat) (D : AD) (ha : DOk D.a) (hb : DOk D.b) (hlim : D.n ≤ 1000000000000 ∧ D.m ≤ 1000000000000) (ho : D.op ≠ 3) : ∀ (m : Nat) (x y : Int) (st : List Br × List Tr3) (NA SA : Option Addr) (nc sc : Nat) (w : World),
    Ap w0 w base pb D NA nc SA sc st → 0 ≤ x → 0 ≤ y → x + y < m → x < D.n + 2 → y < D.m + 2 → (at2 D.a D.b D.op m x y st).2.1.length ≤ 100000000000 → (at2 D.a D.b D.op m x y st).2.2.length ≤ 100000000000 →
    Fn Tryz.prog 160 [.pointer (some ⟨pb, 0, none⟩), .int .i64 x, .int .i64 y] w (fun v w' => v = .int .i64 (at2 D.a D.b D.op m x y st).1 ∧ ATo w0 w base pb D NA SA (at2 D.a D.b D.op m x y st).2 w')
  | 0, x, y, st, NA, SA, nc, sc, w, _, x0, y0, hm, _, _, _, _ => by omega
  | m + 1, x, y, st, NA, SA, nc, sc, w, h, x0, y0, hm, hx, hy, hl1, hl2 => by
    have ih := at_fn w0 base pb D ha hb hlim ho m
    have hmono := at2_mono D.a D.b D.op (m + 1) x y st
    have hal : D.a.length = D.n := h.as_.2
    have hbl : D.b.length = D.m := h.bs.2
    refine fn_of_exec (c := { c160 with cuts := [1] }) gx_ok Tryz.func160 rfl rfl rfl ?_
    refine cutIn [] gx_ok [] (fun _ : Unit => []) (fun _ w' => w = w' ∧ ¬ (x < 2 ∧ y < 2)) ?_ ?_
    · refine wif_d (fun c1 => ?_) (fun c1 => ?_)
      · refine wif_d (fun c2 => ?_) (fun c2 => ?_)
        · rw [at2_c ⟨c1, c2⟩]
          refine call (constant_fn pb _ D.op x y w h.blk rfl x0 c1 y0 c2 ho) ?_
          rintro v _ ⟨rfl, rfl⟩
          exact ⟨rfl, NA, nc, SA, sc, h, Mod.refl _ _, Moved.refl _ _, Moved.refl _ _⟩
        · exact ⟨(), rfl, rfl, fun hh => c2 hh.2⟩
      · exact ⟨(), rfl, rfl, fun hh => c1 hh.1⟩
    rintro ⟨⟩ _ ⟨rfl, hxy⟩
    have hseen : SlS Tr3.cells 3 w SA st.2.length sc st.2 := ⟨h.sown.sl, rfl⟩
    refine loop gx_ok [7] (fun s : Nat => [.int .i64 s]) (fun s w' => w = w' ∧ s ≤ st.2.length ∧ ∀ (j : Nat) (u : Tr3), j < s → st.2[j]? = some u → ¬ (u.1 = x ∧ u.2.1 = y)) (fun s _ => st.2.length - s) 0 rfl ⟨rfl, Nat.zero_le _, fun j u hj => absurd hj (by omega)⟩ ?_
    rintro s _ ⟨rfl, hs, hno⟩
    refine load_blk h.blk rfl ?_
    refine wif_d (fun h3 => ?_) (fun h3 => ?_)
    · have again : ∀ t : Tr3, st.2[s]? = some t → ¬ (t.1 = x ∧ t.2.1 = y) → ∀ (j : Nat) (u : Tr3), j < s + 1 → st.2[j]? = some u → ¬ (u.1 = x ∧ u.2.1 = y) := fun t ht hn j u hj hu => by
        by_cases hjs : j < s
        · exact hno j u hjs hu
        · have : j = s := by omega
          subst this
          rw [Option.some.inj (hu.symm.trans ht)]; exact hn
      refine load_blk h.blk rfl ?_
      refine index_sls tr_len hseen rfl (by omega) (fun p t ht hc => ?_)
      refine index (j := 0) (by decide) ?_
      refine load (hc 0 _ rfl) ?_
      refine wif_eq (fun e1 => ?_) (fun e1 => ?_)
      · refine load_blk h.blk rfl ?_
        refine index_sls tr_len hseen rfl (by omega) (fun p' t' ht' hc' => ?_)
        have htt : t' = t := Option.some.inj (ht'.symm.trans ht)
        subst htt
        refine index (j := 1) (by decide) ?_
        refine load (hc' 1 _ rfl) ?_
        refine wif_eq (fun e2 => ?_) (fun e2 => ?_)
        · refine load_blk h.blk rfl ?_
          refine index_sls tr_len hseen rfl (by omega) (fun p2 t2 ht2 hc2 => ?_)
          have htt2 : t2 = t' := Option.some.inj (ht2.symm.trans ht)
          subst htt2
          refine index (j := 2) (by decide) ?_
          refine load (hc2 2 _ rfl) ?_
          rw [at2_s hxy (find_at hno ht ⟨e1, e2⟩)]
          exact ⟨rfl, NA, nc, SA, sc, h, Mod.refl _ _, Moved.refl _ _, Moved.refl _ _⟩
        · refine norm_i64_to ((s + 1 : Nat) : Int) (by omega) (by omega) ?_
          exact ⟨s + 1, rfl, ⟨rfl, by omega, again t' ht (fun hh => e2 hh.2)⟩, by show st.2.length - (s + 1) < st.2.length - s; omega⟩
      · refine norm_i64_to ((s + 1 : Nat) : Int) (by omega) (by omega) ?_
        exact ⟨s + 1, rfl, ⟨rfl, by omega, again t ht (fun hh => e1 hh.1)⟩, by show st.2.length - (s + 1) < st.2.length - s; omega⟩
    have hss : s = st.2.length := by omega
    subst hss
    have hnone := find_no hno
    have hE0 := h.e0
    refine draw_plan gx_ok (Ext w) 13 [(true, 0), (true, 1), (true, 2), (true, 3), (true, 4), (true, 6), (true, 7), (true, 8), (true, 9), (true, 10), (false, 5), (false, 11), (true, 12)] (by kernel_rfl) (Ext.drew w) ?_
    refine qloadN (vs := [.slice D.A D.n D.c, .int .i64 D.ra]) rfl (fun w' hw' j v hj => by
      rw [add_add, (h.blk.ext hw').cell]
      match j, hj with
      | 0, hj => exact hj
      | 1, hj => exact hj) ?_
    refine qloadN (vs := [.slice D.B D.m D.d, .int .i64 D.rb]) rfl (fun w' hw' j v hj => by
      rw [add_add, (h.blk.ext hw').cell]
      match j, hj with
      | 0, hj => exact hj
      | 1, hj => exact hj) ?_
    refine call (rlevel_fn D.A D.n D.c D.ra x D.a _ (h.as_.ext (hE0.trans (Ext.drew w))) hx) ?_
    rintro v w1 ⟨rfl, hE1⟩
    have hE01 := (Ext.drew w).trans hE1
    refine ⟨hE01, ?_⟩
    refine call (rlevel_fn D.B D.m D.d D.rb y D.b w1 (h.bs.ext (hE0.trans hE01)) hy) ?_
    rintro v w2 ⟨rfl, hE2⟩
    have hE02 := hE01.trans hE2
    refine ⟨hE02, ?_⟩
    refine norm (m := min (lvlD D.a x) (lvlD D.b y)) (by rw [Int.min_def]; split <;> split <;> omega) ?_
    have hv64 : min (lvlD D.a x) (lvlD D.b y) < 64 := by
      by_cases c : x < 2
      · have := lvl_lt hb (n := y) (fun c2 => hxy ⟨c, c2⟩) (by omega)
        rw [Int.min_def]; split <;> omega
      · have := lvl_lt ha (n := x) c (by omega)
        rw [Int.min_def]; split <;> omega
    have hvx : lvlD D.a x = min (lvlD D.a x) (lvlD D.b y) ∨ lvlD D.b y = min (lvlD D.a x) (lvlD D.b y) := by rw [Int.min_def]; split <;> simp
    have hnew := at2_n (a := D.a) (b := D.b) (op := D.op) (m := m) hxy hnone _ rfl
    rw [hnew] at hl1 hl2 ⊢
    generalize min (lvlD D.a x) (lvlD D.b y) = v at *
    obtain ⟨s1, s2, s3, s4, s5⟩ := sideD_le ha (n := x) x0 hv64
    obtain ⟨t1, t2, t3, t4, t5⟩ := sideD_le hb (n := y) y0 hv64
    have dec : (sideD D.a x v).1 + (sideD D.b y v).1 < m ∧ (sideD D.a x v).2 + (sideD D.b y v).2 < m := by
      rcases hvx with e | e
      · have := s5 e; omega
      · have := t5 e; omega
    have h2 := h.grow hE02
    refine loadN_at (vs := [.slice D.A D.n D.c, .int .i64 D.ra]) rfl (fun j v hj => by
      rw [add_add, h2.blk.cell]
      match j, hj with
      | 0, hj => exact hj
      | 1, hj => exact hj) ?_
    refine call (sides_fn D.A D.n D.c D.ra x v D.a w2 (h2.as_.ext h2.e0) hx hv64) ?_
    rintro _ w3 ⟨rfl, hE3⟩
    have h3' := h2.grow hE3
    refine loadN_at (vs := [.slice D.B D.m D.d, .int .i64 D.rb]) rfl (fun j v hj => by
      rw [add_add, h3'.blk.cell]
      match j, hj with
      | 0, hj => exact hj
      | 1, hj => exact hj) ?_
    refine call (sides_fn D.B D.m D.d D.rb y v D.b w3 (h3'.bs.ext h3'.e0) hy hv64) ?_
    rintro _ w4 ⟨rfl, hE4⟩
    have hE04 := (hE02.trans hE3).trans hE4
    have h4 := h3'.grow hE4
    have mono1 := at2_mono D.a D.b D.op m (sideD D.a x v).1 (sideD D.b y v).1 st
    have mono2 := at2_mono D.a D.b D.op m (sideD D.a x v).2 (sideD D.b y v).2 (at2 D.a D.b D.op m (sideD D.a x v).1 (sideD D.b y v).1 st).2
    simp only [List.length_append, List.length_cons, List.length_nil] at hl1 hl2
    have ulen := uniqD_len ⟨v, (at2 D.a D.b D.op m (sideD D.a x v).1 (sideD D.b y v).1 st).1, (at2 D.a D.b D.op m (sideD D.a x v).2 (sideD D.b y v).2 (at2 D.a D.b D.op m (sideD D.a x v).1 (sideD D.b y v).1 st).2).1⟩ (at2 D.a D.b D.op m (sideD D.a x v).2 (sideD D.b y v).2 (at2 D.a D.b D.op m (sideD D.a x v).1 (sideD D.b y v).1 st).2).2.1
    refine call (ih _ _ st NA SA nc sc w4 h4 s1 t1 dec.1 (by omega) (by omega) (by omega) (by omega)) ?_
    rintro _ w5 ⟨rfl, NA5, nc5, SA5, sc5, h5, hM5, hV5, hU5⟩
    refine call (ih _ _ _ NA5 SA5 nc5 sc5 w5 h5 s3 t3 dec.2 (by omega) (by omega) (by omega) (by omega)) ?_
    rintro _ w6 ⟨rfl, NA6, nc6, SA6, sc6, h6, hM6, hV6, hU6⟩
    have hM46 := hM5.trans hM6 (AS.moved hV5 hU5)
    have hV46 := hV5.trans hV6 hM5.size
    have hU46 := hU5.trans hU6 hM5.size
    generalize (at2 D.a D.b D.op m (sideD D.a x v).1 (sideD D.b y v).1 st) = r0 at *
    generalize (at2 D.a D.b D.op m (sideD D.a x v).2 (sideD D.b y v).2 r0.2) = r1 at *
    have hnr6 := h6.nown.rows
    have hsr6 := h6.sown.rows
    have hlt6 := h6.lt
    have htop6 := h6.top
    refine load_blk h6.blk rfl ?_
    refine call (unique_fn base NA6 _ nc6 r1.2.1 ⟨v, r0.1, r1.1⟩ w6 h6.nown rfl h6.top (by omega)) ?_
    rintro _ w7 ⟨NA7, nc7, rfl, hown7, hM7, hV7⟩
    have hB7 := h6.blk.mod hM7 (fun e => by have := (hnr6 _ e).1; omega)
    have hS7 := h6.sown.mod hM7 (fun i hi e => h6.apart i e hi)
    generalize uniqD ⟨v, r0.1, r1.1⟩ r1.2.1 = u at *
    refine store_mod hB7 (by simp) (fun w8 hM8 hB8 => ?_)
    have hown8 := hown7.mod hM8 (fun i hi e => by have := (hown7.rows i hi).1; omega)
    have hS8 := hS7.mod hM8 (fun i hi e => by have := (hS7.rows i hi).1; omega)
    refine load_blk hB8 rfl ?_
    refine at_buildN gx_ok [Tr3.cells (x, y, u.2)] rfl rfl rfl rfl rfl ⟨rfl, rfl, ⟨⟩⟩ rfl (fun cs h => by simp only [List.mem_singleton] at h; subst h; rfl) rfl (by decide) (by decide) ?_
    intro w9 hE9 hz9 hB9
    have hs9 : Sl w9 3 (some ⟨w8.heap.size, 0, none⟩) 1 1 (Tr3.cells (x, y, u.2)) := Sl.own (sz := 3) (n := 1) hB9 (Nat.le_refl _) (by decide) (by simp [Tr3.cells])
    have z7 := hM7.size
    have z8 := hM8.size
    have z9 := hE9.size
    refine at_app gx_ok rfl rfl rfl rfl rfl (by decide) rfl rfl ⟨_, rfl⟩ rfl rfl (hS8.ext hE9) hs9 (by intro u hu; simp [Tr3.cells] at hu; rcases hu with rfl | rfl | rfl <;> rfl) (by unfold maxLen; omega) (by show _ * 24 ≤ _; omega) (by omega) ?_
    intro SA10 sc10 w10 hM10 hown10 hU10
    have hsr8 := hS8.rows
    refine store_mod ((hB8.ext hE9).mod hM10 (fun e => by have := (hsr8 _ e).1; omega)) (by simp) (fun w11 hM11 hB11 => ?_)
    have hap7 : ∀ i, rowS NA7 i → ¬ rowS SA6 i := fun i hi e => by
      rcases hV7.rows i hi with hh | hh
      · exact h6.apart i hh e
      · have := (hsr6 i e).2; omega
    have hap10 : ∀ i, rowS NA7 i → ¬ rowS SA10 i := fun i hi e => by
      rcases hU10.rows i e with hh | hh
      · exact hap7 i hi hh
      · have := (hown7.rows i hi).2; omega
    have hown11 := ((hown8.ext hE9).mod hM10 (fun i hi e => hap7 i hi e)).mod hM11 (fun i hi e => by have := (hown7.rows i hi).1; omega)
    have hS11 := hown10.mod hM11 (fun i hi e => by have := (hown10.rows i hi).1; omega)
    have hM611 : Mod (AS pb NA6 SA6) w6 w11 := ((((hM7.mono (fun i hi => .inl (.inr (.inl hi)))).trans hM8 (fun i hi => .inl (.inl hi))).trans (Mod.of_ext (AS pb NA6 SA6) hE9) (fun i hi => .inl hi)).trans hM10 (fun i hi => .inl (.inr (.inr hi)))).trans hM11 (fun i hi => .inl (.inl hi))
    have hM4_11 := hM46.trans hM611 (AS.moved hV46 hU46)
    have el : (r1.2.2 ++ [((x, y, u.2) : Tr3)]).length = r1.2.2.length + 1 := by simp
    refine ⟨rfl, NA7, nc7, SA10, sc10, ⟨hM611.ext h6.e0 h6.kept, h.as_, h.bs, h.p0, ?_, hown11, ?_, hap10, h.lt, ?_⟩, (Mod.of_ext (AS pb NA SA) hE04).trans hM4_11 (fun i hi => .inl hi), ?_, ?_⟩
    · show Blk w11 pb _ [_, _, _, _, _, _, .slice SA10 (r1.2.2 ++ [((x, y, u.2) : Tr3)]).length sc10]
      rw [el]; exact hB11
    · show Own w11 base _ 3 SA10 (r1.2.2 ++ [((x, y, u.2) : Tr3)]).length sc10 (trV (r1.2.2 ++ [((x, y, u.2) : Tr3)]))
      rw [el, trV_snoc]; exact hS11
    · have := hM10.size; have := hM11.size; omega
    · exact (hV46.back hE04.size).trans hV7 (by have := hE04.size; have := hM46.size; omega)
    · exact (hU46.back hE04.size).trans (hU10.back (by omega)) (by have := hE04.size; have := hM46.size; omega)
end

section
open Go Go.RowKit

def AtInv (st : List Br × List Tr3) : Prop := WfB st.1 ∧ ∀ t ∈ st.2, 0 ≤ t.2.2 ∧ t.2.2 < st.1.length + 2
theorem uniqD_inv {b : Br} {l : List Br} (hw : WfB l) (h1 : 0 ≤ b.l) (h2 : b.l < l.length + 2) (h3 : 0 ≤ b.h) (h4 : b.h < l.length + 2) : WfB (uniqD b l).1 ∧ 0 ≤ (uniqD b l).2 ∧ (uniqD b l).2 < (uniqD b l).1.length + 2 := by
  have idx : ∀ {l : List Br} {i : Nat}, fstIdx b l = some i → i < l.length := by
    intro l
    induction l with
    | nil => intro i h; cases h
    | cons x l ih =>
      intro i h
      unfold fstIdx at h
      split at h
      · cases h; simp
      · cases hf : fstIdx b l with
        | none => rw [hf] at h; cases h
        | some k => rw [hf] at h; cases h; have := ih hf; simp; omega
  unfold uniqD
  split
  · exact ⟨hw, h1, h2⟩
  · split
    · rename_i i hi
      have := idx hi
      exact ⟨hw, by omega, by simp only; omega⟩
    · refine ⟨fun j x hx => ?_, by omega, by simp only [List.length_append, List.length_cons, List.length_nil]; omega⟩
      by_cases hj : j < l.length
      · rw [List.getElem?_append_left hj] at hx
        exact hw j x hx
      · rw [List.getElem?_append_right (by omega)] at hx
        have hj0 : j - l.length = 0 := by
          cases hk : j - l.length with
          | zero => rfl
          | succ k => rw [hk] at hx; simp at hx
        rw [hj0] at hx
        simp at hx
        subst hx
        omega
theorem constD_in {op x y : Int} (x0 : 0 ≤ x) (x1 : x < 2) (y0 : 0 ≤ y) (y1 : y < 2) : 0 ≤ constD op x y ∧ constD op x y < 2 := by
  unfold constD
  rcases (by omega : x = 0 ∨ x = 1) with rfl | rfl <;> rcases (by omega : y = 0 ∨ y = 1) with rfl | rfl <;> (split <;> first | decide | (split <;> first | decide | (split <;> decide)))
theorem at2_inv {a b : List Br} (ha : DOk a) (hb : DOk b) (op : Int) : ∀ (m : Nat) (x y : Int) (st : List Br × List Tr3), AtInv st → 0 ≤ x → 0 ≤ y → x < a.length + 2 → y < b.length + 2 →
    AtInv (at2 a b op m x y st).2 ∧ 0 ≤ (at2 a b op m x y st).1 ∧ (at2 a b op m x y st).1 < (at2 a b op m x y st).2.1.length + 2
  | 0, x, y, st, h, _, _, _, _ => ⟨h, Int.le_refl _, by show (0 : Int) < st.1.length + 2; omega⟩
  | m + 1, x, y, st, h, x0, y0, hx, hy => by
    by_cases hxy : x < 2 ∧ y < 2
    · rw [at2_c hxy]
      have := constD_in (op := op) x0 hxy.1 y0 hxy.2
      exact ⟨h, this.1, by simp only; omega⟩
    cases k : st.2.find? (fun t => decide (t.1 = x ∧ t.2.1 = y)) with
    | some t =>
      rw [at2_s hxy k]
      have := h.2 t (List.mem_of_find?_eq_some k)
      exact ⟨h, this.1, this.2⟩
    | none =>
      have hv64 : min (lvlD a x) (lvlD b y) < 64 := by
        by_cases c : x < 2
        · have := lvl_lt hb (n := y) (fun c2 => hxy ⟨c, c2⟩) (by omega)
          rw [Int.min_def]; split <;> omega
        · have := lvl_lt ha (n := x) c (by omega)
          rw [Int.min_def]; split <;> omega
      rw [at2_n hxy k _ rfl]
      generalize min (lvlD a x) (lvlD b y) = v at *
      obtain ⟨s1, s2, s3, s4, s5⟩ := sideD_le ha (n := x) x0 hv64
      obtain ⟨t1, t2, t3, t4, t5⟩ := sideD_le hb (n := y) y0 hv64
      have i1 := at2_inv ha hb op m (sideD a x v).1 (sideD b y v).1 st h s1 t1 (by omega) (by omega)
      have m2 := at2_mono a b op m (sideD a x v).2 (sideD b y v).2 (at2 a b op m (sideD a x v).1 (sideD b y v).1 st).2
      generalize (at2 a b op m (sideD a x v).1 (sideD b y v).1 st) = r0 at *
      have i2 := at2_inv ha hb op m (sideD a x v).2 (sideD b y v).2 r0.2 i1.1 s3 t3 (by omega) (by omega)
      generalize (at2 a b op m (sideD a x v).2 (sideD b y v).2 r0.2) = r1 at *
      have hu := uniqD_inv (b := ⟨v, r0.1, r1.1⟩) (l := r1.2.1) i2.1.1 i1.2.1 (by have := i1.2.2; simp only; omega) i2.2.1 i2.2.2
      have hul := uniqD_len ⟨v, r0.1, r1.1⟩ r1.2.1
      generalize uniqD ⟨v, r0.1, r1.1⟩ r1.2.1 = u at *
      refine ⟨⟨hu.1, fun t ht => ?_⟩, hu.2.1, hu.2.2⟩
      simp only [List.mem_append, List.mem_singleton] at ht
      rcases ht with ht | rfl
      · have := i2.1.2 t ht
        exact ⟨this.1, by simp only; omega⟩
      · exact ⟨hu.2.1, hu.2.2⟩

/-- The result of an operation on two valid diagrams. -/
def at2D (a : List Br) (ra : Int) (b : List Br) (rb op : Int) : Int × (List Br × List Tr3) := at2 a b op (ra.toNat + rb.toNat + 1) ra rb ([], [])
def combD (a : List Br) (ra : Int) (b : List Br) (rb op : Int) : List Br × Int := numberedD (at2D a ra b rb op).2.1 (at2D a ra b rb op).1
def limD (d : List Br × Int) : (List Br × Int) × Int := if 4096 < d.1.length then (([], 0), 2) else (d, 0)
noncomputable def opD (a : List Br) (ra : Int) (b : List Br) (rb op : Int) : (List Br × Int) × Int := if chkD a ra ≠ 0 then (([], 0), chkD a ra) else if chkD b rb ≠ 0 then (([], 0), chkD b rb) else limD (combD a ra b rb op)
/-- A diagram and an error number. -/
def DgE (w : World) (r : (List Br × Int) × Int) (v : Value) (w' : World) : Prop := ∃ A n c, v = .tuple #[dgV A n c r.1.2, .int .i64 r.2] ∧ Ext w w' ∧ SB w' A n c r.1.1 ∧ ∀ i, rowS A i → w.heap.size ≤ i

theorem rcombine_fn (A : Option Addr) (n c : Nat) (a : List Br) (ra : Int) (B : Option Addr) (m d : Nat) (b : List Br) (rb op : Int) (w : World) (h : SB w A n c a) (h' : SB w B m d b) (ha : DOk a) (hb : DOk b) (r0 : 0 ≤ ra) (r1 : ra < n + 2) (s0 : 0 ≤ rb) (s1 : rb < m + 2) (hn : n ≤ 1000000000000) (hm : m ≤ 1000000000000)
    (hl1 : (at2D a ra b rb op).2.1.length ≤ 100000000000) (hl2 : (at2D a ra b rb op).2.2.length ≤ 100000000000) (ho : op ≠ 3) :
    Fn Tryz.prog 126 [dgV A n c ra, dgV B m d rb, .int .i64 op] w (DgRes w (combD a ra b rb op)) := by
  have hal := h.2
  have hbl := h'.2
  refine fn_of_exec (c := { c126 with cuts := [] }) gx_ok Tryz.func126 rfl rfl rfl ?_
  refine new (fun w1 hE1 hz1 hB1 => ?_)
  refine new (fun w2 hE2 hz2 hB2 => ?_)
  refine new (fun w3 hE3 hz3 hB3 => ?_)
  have hE03 := (hE1.trans hE2).trans hE3
  have hB13 := (hB1.ext hE2).ext hE3
  have hB23 := hB2.ext hE3
  refine loadN_blk0 hB13 rfl ?_
  refine loadN_blk0 hB23 rfl ?_
  refine new (fun w4 hE4 hz4 hB4 => ?_)
  have hE04 := hE03.trans hE4
  let D : AD := ⟨A, n, c, a, ra, B, m, d, b, rb, op⟩
  have hA : Ap w3 w4 w4.heap.size w3.heap.size D none 0 none 0 ([], []) := ⟨hE4, h.ext hE03, h'.ext hE03, Nat.le_refl _, hB4, Own.nil _ _ _ _, Own.nil _ _ _ _, (fun i hi => by obtain ⟨_, e, _⟩ := hi; cases e), (by omega), Nat.le_refl _⟩
  refine load_blk (hB13.ext hE4) rfl ?_
  refine load_blk (hB23.ext hE4) rfl ?_
  have inv := at2_inv ha hb op (ra.toNat + rb.toNat + 1) ra rb ([], []) ⟨fun j x hx => by simp at hx, fun t ht => by simp at ht⟩ r0 s0 (by omega) (by omega)
  refine call (at_fn w3 w4.heap.size w3.heap.size D ha hb ⟨hn, hm⟩ ho (ra.toNat + rb.toNat + 1) ra rb ([], []) none none 0 0 w4 hA r0 s0 (by omega) r1 s1 hl1 hl2) ?_
  rintro v w5 ⟨rfl, NA, nc, SA, sc1, hA5, hM5, hV5, hU5⟩
  have hE5 : Ext w3 w5 := hA5.e0
  have hE05 := hE03.trans hE5
  refine load_blk hA5.blk rfl ?_
  refine call (rnumbered_fn NA _ nc _ _ w5 ⟨hA5.nown.sl, rfl⟩ inv.1.1 (by have : (at2D a ra b rb op).2.1.length ≤ 100000000000 := hl1; exact Nat.le_trans this (by decide)) inv.2.1 inv.2.2) ?_
  rintro v w6 ⟨OA, k, oc, rfl, hE6, hO6, hR6⟩
  refine storeN_blk0 ((hB3.ext hE5).ext hE6) rfl (sc rfl) (fun w7 hg7 _ hB7 => ?_)
  have hM7 : Mod (· = w2.heap.size) w6 w7 := Mod.of_grown hg7 rfl
  refine loadN_blk0 hB7 rfl ?_
  have z5 := hE5.size
  have nr : ∀ i, rowS OA i → ¬ i = w2.heap.size := fun i hi e => by have := hR6 i hi; omega
  refine ⟨OA, k, oc, rfl, hM7.ext (hE05.trans hE6) (fun i hi => by have := hE1.size; have := hE2.size; omega), ⟨hO6.1.modS hM7 (fun _ i hi => nr i hi), hO6.2⟩, fun i hi => by have := hR6 i hi; have := hE05.size; omega⟩

theorem rlimited_fn (A : Option Addr) (n c : Nat) (a : List Br) (ra : Int) (w0 w : World) (h : SB w A n c a) (hr : ∀ i, rowS A i → w0.heap.size ≤ i) (hE : Ext w0 w) :
    Fn Tryz.prog 178 [dgV A n c ra] w (DgE w0 (limD (a, ra))) := by
  have hal := h.2
  refine fn_of_exec (c := { c178 with cuts := [] }) gx_ok Tryz.func178 rfl rfl rfl ?_
  refine new (fun w1 hE1 hz1 hB1 => ?_)
  refine new (fun w2 hE2 hz2 hB2 => ?_)
  have hE02 := hE1.trans hE2
  refine load_blk0 (hB1.ext hE2) rfl ?_
  refine wif_d (fun c1 => ?_) (fun c1 => ?_)
  · have e : limD (a, ra) = (([], 0), 2) := by unfold limD; rw [if_pos (show 4096 < (a, ra).1.length by simp only; omega)]
    rw [e]
    refine storeN_blk0 hB2 rfl (sc rfl) (fun w3 hg3 _ hB3 => ?_)
    have hM3 : Mod (· = w1.heap.size) w2 w3 := Mod.of_grown hg3 rfl
    refine loadN_blk0 hB3 rfl ?_
    exact ⟨none, 0, 0, rfl, hE.trans (hM3.ext hE02 (fun i hi => by have := hE1.size; omega)), SlS.nil _, fun i ⟨_, e, _⟩ => by cases e⟩
  · have e : limD (a, ra) = ((a, ra), 0) := by unfold limD; rw [if_neg (show ¬ 4096 < (a, ra).1.length by simp only; omega)]
    rw [e]
    refine loadN_blk0 (hB1.ext hE2) rfl ?_
    refine storeN_blk0 hB2 rfl (sc rfl) (fun w3 hg3 _ hB3 => ?_)
    have hM3 : Mod (· = w1.heap.size) w2 w3 := Mod.of_grown hg3 rfl
    refine loadN_blk0 hB3 rfl ?_
    refine ⟨A, n, c, rfl, hE.trans (hM3.ext hE02 (fun i hi => by have := hE1.size; omega)), ⟨(h.ext hE02).1.modS hM3 (fun h0 i hi e => by obtain ⟨ad, rfl, rfl⟩ := hi; have := SB.lt h ad rfl h0; omega), hal⟩, hr⟩

theorem rvar_fn (k : Int) (w : World) (h0 : 0 ≤ k) (h1 : k ≤ 63) : Fn Tryz.prog 42 [.int .i64 k] w (DgE w (([⟨k, 0, 1⟩], 2), 0)) := by
  refine fn_of_exec (c := { c42 with cuts := [] }) gx_ok Tryz.func42 rfl rfl rfl ?_
  refine new (fun w1 hE1 hz1 hB1 => ?_)
  refine wif_df (by omega) ?_
  refine wif_df (by omega) ?_
  refine at_buildN gx_ok [(⟨k, 0, 1⟩ : Br).cells] rfl rfl rfl rfl rfl ⟨rfl, rfl, ⟨⟩⟩ rfl (fun cs h => by simp only [List.mem_singleton] at h; subst h; rfl) rfl (by decide) (by decide) ?_
  intro w2 hE2 hz2 hB2
  refine storeN_blk0 (hB1.ext hE2) rfl (sc rfl) (fun w3 hg3 _ hB3 => ?_)
  have hM3 : Mod (· = w.heap.size) w2 w3 := Mod.of_grown hg3 rfl
  refine loadN_blk0 hB3 rfl ?_
  refine ⟨some ⟨w1.heap.size, 0, none⟩, 1, 1, rfl, hM3.ext (hE1.trans hE2) (fun i hi => by omega), ⟨Sl.own (sz := 3) (n := 1) (hB2.mod hM3 (by omega)) (Nat.le_refl _) (by decide) (by simp [Br.cells]), rfl⟩, fun i ⟨ad, e, hi⟩ => by cases e; simp only at hi; omega⟩
end

section
open Go Go.RowKit

/-- A diagram in memory. -/
structure DV where
  A : Option Addr
  n : Nat
  c : Nat
  nd : List Br
  r : Int
def DV.cells (x : DV) : List Value := [.slice x.A x.n x.c, .int .i64 x.r]
theorem dv_len (x : DV) : x.cells.length = 2 := rfl
noncomputable def firstD : List DV → Int
  | [] => 0
  | x :: l => if chkD x.nd x.r ≠ 0 then chkD x.nd x.r else firstD l
theorem firstD_hit {l : List DV} : ∀ {s : Nat} {x : DV}, (∀ j y, j < s → l[j]? = some y → chkD y.nd y.r = 0) → l[s]? = some x → chkD x.nd x.r ≠ 0 → firstD l = chkD x.nd x.r := by
  induction l with
  | nil => intro s x _ h; simp at h
  | cons y l ih =>
    intro s x hn h hx
    cases s with
    | zero => simp at h; subst h; rw [firstD, if_pos hx]
    | succ s =>
      rw [firstD, if_neg (fun hh => hh (hn 0 y (by omega) rfl))]
      exact ih (s := s) (fun j z hj hz => hn (j + 1) z (by omega) (by simpa using hz)) (by simpa using h) hx
theorem firstD_none {l : List DV} (h : ∀ j y, j < l.length → l[j]? = some y → chkD y.nd y.r = 0) : firstD l = 0 := by
  induction l with
  | nil => rfl
  | cons y l ih =>
    rw [firstD, if_neg (fun hh => hh (h 0 y (by simp) rfl))]
    exact ih (fun j z hj hz => h (j + 1) z (by simpa using hj) (by simpa using hz))

theorem rfirst_fn (F : Option Addr) (m cf : Nat) (L : List DV) (w : World) (h : SlS DV.cells 2 w F m cf L) (hL : ∀ x ∈ L, SB w x.A x.n x.c x.nd) :
    Fn Tryz.prog 97 [.slice F m cf] w (fun v w' => v = .int .i64 (firstD L) ∧ Ext w w') := by
  have hlen := h.2
  have hcap : m ≤ 9223372036854775807 := by have := h.1.le; have := h.1.cap; simp only [maxLen] at this; omega
  refine fn_of_exec (c := { c97 with cuts := [] }) gx_ok Tryz.func97 rfl rfl rfl ?_
  refine loop gx_ok [3] (fun s : Nat => [.int .i64 s]) (fun s w' => Ext w w' ∧ s ≤ m ∧ ∀ (j : Nat) (y : DV), j < s → L[j]? = some y → chkD y.nd y.r = 0) (fun s _ => m - s) 0 rfl ⟨Ext.refl w, Nat.zero_le _, fun j y hj => absurd hj (by omega)⟩ ?_
  rintro s w1 ⟨hE1, hs, hall⟩
  refine wif_d (fun h2 => ?_) (fun h2 => ?_)
  · refine index_sls dv_len (h.ext hE1) rfl (by omega) (fun p x hx hc => ?_)
    refine loadN_at (vs := x.cells) rfl hc ?_
    refine call (rcheck2_fn x.A x.n x.c x.nd x.r w1 ((hL x (List.mem_of_getElem? hx)).ext hE1)) ?_
    rintro v w2 ⟨rfl, hE2⟩
    refine wif_ne (fun c1 => ?_) (fun c1 => ?_)
    · exact ⟨by rw [firstD_hit hall hx c1], hE1.trans hE2⟩
    · refine norm_i64_to ((s + 1 : Nat) : Int) (by omega) (by omega) ?_
      refine ⟨s + 1, rfl, ⟨hE1.trans hE2, by omega, fun j y hj hy => ?_⟩, by show m - (s + 1) < m - s; omega⟩
      by_cases hjs : j < s
      · exact hall j y hjs hy
      · have : j = s := by omega
        subst this
        rw [Option.some.inj (hy.symm.trans hx)]; exact c1
  · exact ⟨by rw [firstD_none (fun j y hj hy => hall j y (by omega) hy)], hE1⟩

theorem roperation_fn (A : Option Addr) (n c : Nat) (a : List Br) (ra : Int) (B : Option Addr) (m d : Nat) (b : List Br) (rb op : Int) (w : World) (h : SB w A n c a) (h' : SB w B m d b)
    (hl : chkD a ra = 0 → chkD b rb = 0 → (at2D a ra b rb op).2.1.length ≤ 100000000000 ∧ (at2D a ra b rb op).2.2.length ≤ 100000000000) (ho : op ≠ 3) :
    Fn Tryz.prog 179 [dgV A n c ra, dgV B m d rb, .int .i64 op] w (DgE w (opD a ra b rb op)) := by
  have hal := h.2
  have hbl := h'.2
  refine fn_of_exec (c := { c179 with cuts := [] }) gx_ok Tryz.func179 rfl rfl rfl ?_
  refine new (fun w1 hE1 hz1 hB1 => ?_)
  refine new (fun w2 hE2 hz2 hB2 => ?_)
  refine new (fun w3 hE3 hz3 hB3 => ?_)
  have hE03 := (hE1.trans hE2).trans hE3
  have hB13 := (hB1.ext hE2).ext hE3
  have hB23 := hB2.ext hE3
  refine loadN_blk0 hB13 rfl ?_
  refine loadN_blk0 hB23 rfl ?_
  refine at_buildN gx_ok [(⟨A, n, c, a, ra⟩ : DV).cells, (⟨B, m, d, b, rb⟩ : DV).cells] rfl rfl rfl rfl rfl ⟨rfl, rfl, rfl, rfl, ⟨⟩⟩ rfl (fun cs h => by simp only [List.mem_cons, List.not_mem_nil, or_false] at h; rcases h with rfl | rfl <;> rfl) rfl (by decide) (by decide) ?_
  intro w4 hE4 hz4 hB4
  have hE04 := hE03.trans hE4
  have hL : SlS DV.cells 2 w4 (some ⟨w3.heap.size, 0, none⟩) 2 2 [⟨A, n, c, a, ra⟩, ⟨B, m, d, b, rb⟩] := ⟨Sl.own (sz := 2) (n := 2) hB4 (Nat.le_refl _) (by decide) (by simp [DV.cells]), rfl⟩
  refine call (rfirst_fn _ 2 2 _ w4 hL (fun x hx => by
    simp only [List.mem_cons, List.not_mem_nil, or_false] at hx
    rcases hx with rfl | rfl
    · exact h.ext hE04
    · exact h'.ext hE04)) ?_
  rintro v w5 ⟨rfl, hE5⟩
  have hE35 := hE4.trans hE5
  have hE05 := hE03.trans hE35
  have hB35 := hB3.ext hE35
  have ef : firstD [(⟨A, n, c, a, ra⟩ : DV), ⟨B, m, d, b, rb⟩] = if chkD a ra ≠ 0 then chkD a ra else if chkD b rb ≠ 0 then chkD b rb else 0 := rfl
  refine wif_ne (fun c1 => ?_) (fun c1 => ?_)
  · have e : opD a ra b rb op = (([], 0), firstD [(⟨A, n, c, a, ra⟩ : DV), ⟨B, m, d, b, rb⟩]) := by
      rw [ef] at c1 ⊢
      unfold opD
      split
      · rfl
      · rename_i hh
        rw [if_neg hh] at c1
        split
        · rfl
        · rename_i hh2; rw [if_neg hh2] at c1; exact absurd rfl c1
    rw [e]
    refine storeN_blk0 hB35 rfl (sc rfl) (fun w6 hg6 _ hB6 => ?_)
    have hM6 : Mod (· = w2.heap.size) w5 w6 := Mod.of_grown hg6 rfl
    refine loadN_blk0 hB6 rfl ?_
    exact ⟨none, 0, 0, rfl, hM6.ext hE05 (fun i hi => by have := hE1.size; have := hE2.size; omega), SlS.nil _, fun i ⟨_, e, _⟩ => by cases e⟩
  · rw [ef] at c1
    have ca : chkD a ra = 0 := by
      by_cases hh : chkD a ra = 0
      · exact hh
      · rw [if_pos hh] at c1; exact c1
    have cb : chkD b rb = 0 := by
      rw [if_neg (fun hh => hh ca)] at c1
      by_cases hh : chkD b rb = 0
      · exact hh
      · rw [if_pos hh] at c1; exact c1
    obtain ⟨sa, va⟩ := chkD_zero.1 ca
    obtain ⟨sb, vb⟩ := chkD_zero.1 cb
    have e : opD a ra b rb op = limD (combD a ra b rb op) := by unfold opD; rw [if_neg (fun hh => hh ca), if_neg (fun hh => hh cb)]
    rw [e]
    refine loadN_blk0 (hB13.ext hE35) rfl ?_
    refine loadN_blk0 (hB23.ext hE35) rfl ?_
    have hll := hl ca cb
    refine call (rcombine_fn A n c a ra B m d b rb op w5 (h.ext hE05) (h'.ext hE05) va.dok vb.dok va.2.1 (by have := va.2.2.1; omega) vb.2.1 (by have := vb.2.2.1; omega) (by omega) (by omega) hll.1 hll.2 ho) ?_
    rintro v w6 ⟨OA, k, oc, rfl, hE6, hO6, hR6⟩
    have hE36 := hE35.trans hE6
    have hE06 := hE03.trans hE36
    have hz35 := hE35.size
    have hz3 := hE03.size
    refine call (rlimited_fn OA k oc _ _ w3 w6 hO6 (fun i hi => by have := hR6 i hi; omega) hE36) ?_
    rintro v w7 ⟨PA, q, pc, rfl, hE7, hP7, hR7⟩
    refine storeN_blk0 (hB3.ext hE7) rfl (sc rfl) (fun w8 hg8 _ hB8 => ?_)
    have hM8 : Mod (· = w2.heap.size) w7 w8 := Mod.of_grown hg8 rfl
    refine loadN_blk0 hB8 rfl ?_
    refine ⟨PA, q, pc, rfl, hM8.ext (hE03.trans hE7) (fun i hi => by have := hE1.size; have := hE2.size; omega), ⟨hP7.1.modS hM8 (fun _ i hi e => by have := hR7 i hi; omega), hP7.2⟩, fun i hi => by have := hR7 i hi; omega⟩
end
end Go.Proofs.YtedopgkbajhanaaGreatDoor
