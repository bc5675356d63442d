/-
  The reference's operands, Postorder, Letters. (Printed by pogen.py.)
  Conditions: none.
-/
import Derived.Test.YtdbhjlpkopnebaaDoorMa2
namespace Go.Proofs.YtdbhjlpkopnebaaDoor
open Go Go.RowKit

theorem operands_fn (o : Int) (w : World) : Fn Tryd.prog 58 [.int .i64 o] w (fun v w' => v = .int .i64 (fAr o) ∧ w = w') := by
  refine fn_of_exec (c := c58) gx_ok Tryd.func58 rfl rfl rfl ?_
  unfold fAr
  refine wif_eq (fun h0 => ?_) (fun h0 => ?_)
  · exact ⟨by rw [if_pos (.inl h0)], rfl⟩
  refine wif_eq (fun h1 => ?_) (fun h1 => ?_)
  · exact ⟨by rw [if_pos (.inr (.inl h1))], rfl⟩
  refine wif_eq (fun h2 => ?_) (fun h2 => ?_)
  · exact ⟨by rw [if_pos (.inr (.inr h2))], rfl⟩
  rw [if_neg (fun h => h.elim h0 (fun h => h.elim h1 h2))]
  refine wif_eq (fun h3 => ?_) (fun h3 => ?_)
  · exact ⟨by rw [if_pos h3], rfl⟩
  rw [if_neg h3]
  refine wif_eq (fun h4 => ?_) (fun h4 => ?_)
  · exact ⟨by rw [if_pos (.inl h4)], rfl⟩
  refine wif_eq (fun h5 => ?_) (fun h5 => ?_)
  · exact ⟨by rw [if_pos (.inr h5)], rfl⟩
  exact ⟨by rw [if_neg (fun h => h.elim h4 h5)], rfl⟩

/-- The nodes so far, and what was appended. -/
def CpTo (base : Nat) (w : World) (A : Option Addr) (out : List Fz) (v : Value) (w' : World) : Prop := ∃ A' c', v = .slice A' out.length c' ∧ Own w' base 62 4 A' out.length c' (fzV out) ∧ Mod (rowS A) w w' ∧ Moved w A A'
def CpC (w0 : World) (base : Nat) (FA : Option Addr) (nf cf : Nat) (f : List Fz) (t : Fm) : Prop := ∀ (i : Nat) (out : List Fz) (A : Option Addr) (c : Nat) (w : World), Ext w0 w → RepF f t i → Own w base 62 4 A out.length c (fzV out) → base ≤ w.heap.size → out.length + szF t ≤ 1000000000000 →
  Fn Tryd.prog 54 [.slice FA nf cf, .int .i64 i, .slice A out.length c] w (fun v w' => CpTo base w A (out ++ postF t out.length) v w')

theorem copied_fn (w0 : World) (base : Nat) (FA : Option Addr) (nf cf : Nat) (f : List Fz) (hF : SF w0 FA nf cf f) (hb0 : w0.heap.size ≤ base) : ∀ t : Fm, CpC w0 base FA nf cf f t := by
  intro t
  have hfl := hF.2
  induction t with
  | c b =>
    cases b with
    | false =>
      intro i out A c w hE hr hO hbt hl
      have hi : i < f.length := RepF.lt hr
      have hx : f[i]? = some ⟨0, 0, 0, 0⟩ := hr
      refine fn_of_exec (c := { c54 with cuts := [] }) gx_ok Tryd.func54 rfl rfl rfl ?_
      refine index_sls fz_len (hF.ext hE) rfl (by omega) (fun p y hy hc => ?_)
      have hyx : y = ⟨0, 0, 0, 0⟩ := Option.some.inj (hy.symm.trans hx)
      subst hyx
      refine loadN_at (vs := (⟨0, 0, 0, 0⟩ : Fz).cells) rfl hc ?_
      refine new (fun w1 hE1 hz1 hB1 => ?_)
      refine storeN_blk0 hB1 rfl (sc rfl) (fun w2 hg2 hz2 hB2 => ?_)
      have hE2 : Ext w w2 := newBox hE1 hB1 hg2
      have hO2 := hO.ext hE2
      have hrow : ∀ k, rowS A k → k < w.heap.size := fun k hk => (hO.rows k hk).2
      refine load_blk0 hB2 rfl ?_
      refine call (operands_fn _ w2) ?_
      rintro _ _ ⟨rfl, rfl⟩
      refine wif_df (show ¬ fAr 0 > 0 by decide) ?_
      refine wif_df (show ¬ fAr 0 > 1 by decide) ?_
      have hM2 : Mod (rowS A) w w2 := Mod.of_ext _ hE2
      have hsz : out.length + 1 ≤ 1000000000000 := hl
      refine loadN_blk0 hB2 rfl ?_
      refine at_buildN gx_ok [(⟨0, 0, 0, 0⟩ : Fz).cells] rfl rfl rfl rfl rfl ⟨rfl, rfl, ⟨⟩⟩ rfl (fun cs h => by simp only [List.mem_singleton] at h; subst h; rfl) rfl (by decide) (by decide) ?_
      intro w8 hE8 hz8 hB8
      have hs8 : Sl w8 4 (some ⟨w2.heap.size, 0, none⟩) 1 1 (⟨0, 0, 0, 0⟩ : Fz).cells := Sl.own (sz := 4) (n := 1) hB8 (Nat.le_refl _) (by decide) (by simp [Fz.cells])
      refine at_app (n := (out).length) gx_ok rfl rfl rfl rfl rfl (by decide) rfl rfl ⟨_, rfl⟩ rfl rfl (hO2.ext hE8) hs8 (by intro u hu; simp [Fz.cells] at hu; rcases hu with rfl | rfl | rfl | rfl <;> rfl) (by unfold maxLen; omega) (by show _ * 32 ≤ _; omega) (by have := (hM2).size; have := hE8.size; omega) ?_
      intro A9 c9 w9 hm9 ho9 hv9
      have el : (out ++ [(⟨0, 0, 0, 0⟩ : Fz)]).length = (out).length + 1 := by rw [List.length_append]; rfl
      have e : out ++ postF (.c false) out.length = out ++ [(⟨0, 0, 0, 0⟩ : Fz)] := rfl
      exact ⟨A9, c9, by rw [e, el], by rw [e, el, fzV_snoc]; exact ho9, (hM2).trans ((Mod.of_ext _ hE8).trans hm9 (fun i hi => .inl hi)) (fun i hi => (Moved.refl w A).rows i hi), ((Moved.refl w A)).trans (hv9.back hE8.size) (hM2).size⟩
    | true =>
      intro i out A c w hE hr hO hbt hl
      have hi : i < f.length := RepF.lt hr
      have hx : f[i]? = some ⟨1, 0, 0, 0⟩ := hr
      refine fn_of_exec (c := { c54 with cuts := [] }) gx_ok Tryd.func54 rfl rfl rfl ?_
      refine index_sls fz_len (hF.ext hE) rfl (by omega) (fun p y hy hc => ?_)
      have hyx : y = ⟨1, 0, 0, 0⟩ := Option.some.inj (hy.symm.trans hx)
      subst hyx
      refine loadN_at (vs := (⟨1, 0, 0, 0⟩ : Fz).cells) rfl hc ?_
      refine new (fun w1 hE1 hz1 hB1 => ?_)
      refine storeN_blk0 hB1 rfl (sc rfl) (fun w2 hg2 hz2 hB2 => ?_)
      have hE2 : Ext w w2 := newBox hE1 hB1 hg2
      have hO2 := hO.ext hE2
      have hrow : ∀ k, rowS A k → k < w.heap.size := fun k hk => (hO.rows k hk).2
      refine load_blk0 hB2 rfl ?_
      refine call (operands_fn _ w2) ?_
      rintro _ _ ⟨rfl, rfl⟩
      refine wif_df (show ¬ fAr 1 > 0 by decide) ?_
      refine wif_df (show ¬ fAr 1 > 1 by decide) ?_
      have hM2 : Mod (rowS A) w w2 := Mod.of_ext _ hE2
      have hsz : out.length + 1 ≤ 1000000000000 := hl
      refine loadN_blk0 hB2 rfl ?_
      refine at_buildN gx_ok [(⟨1, 0, 0, 0⟩ : Fz).cells] rfl rfl rfl rfl rfl ⟨rfl, rfl, ⟨⟩⟩ rfl (fun cs h => by simp only [List.mem_singleton] at h; subst h; rfl) rfl (by decide) (by decide) ?_
      intro w8 hE8 hz8 hB8
      have hs8 : Sl w8 4 (some ⟨w2.heap.size, 0, none⟩) 1 1 (⟨1, 0, 0, 0⟩ : Fz).cells := Sl.own (sz := 4) (n := 1) hB8 (Nat.le_refl _) (by decide) (by simp [Fz.cells])
      refine at_app (n := (out).length) gx_ok rfl rfl rfl rfl rfl (by decide) rfl rfl ⟨_, rfl⟩ rfl rfl (hO2.ext hE8) hs8 (by intro u hu; simp [Fz.cells] at hu; rcases hu with rfl | rfl | rfl | rfl <;> rfl) (by unfold maxLen; omega) (by show _ * 32 ≤ _; omega) (by have := (hM2).size; have := hE8.size; omega) ?_
      intro A9 c9 w9 hm9 ho9 hv9
      have el : (out ++ [(⟨1, 0, 0, 0⟩ : Fz)]).length = (out).length + 1 := by rw [List.length_append]; rfl
      have e : out ++ postF (.c true) out.length = out ++ [(⟨1, 0, 0, 0⟩ : Fz)] := rfl
      exact ⟨A9, c9, by rw [e, el], by rw [e, el, fzV_snoc]; exact ho9, (hM2).trans ((Mod.of_ext _ hE8).trans hm9 (fun i hi => .inl hi)) (fun i hi => (Moved.refl w A).rows i hi), ((Moved.refl w A)).trans (hv9.back hE8.size) (hM2).size⟩
  | v n =>
    intro i out A c w hE hr hO hbt hl
    have hi : i < f.length := RepF.lt hr
    have hx : f[i]? = some ⟨2, (n : Nat), 0, 0⟩ := hr
    refine fn_of_exec (c := { c54 with cuts := [] }) gx_ok Tryd.func54 rfl rfl rfl ?_
    refine index_sls fz_len (hF.ext hE) rfl (by omega) (fun p y hy hc => ?_)
    have hyx : y = ⟨2, (n : Nat), 0, 0⟩ := Option.some.inj (hy.symm.trans hx)
    subst hyx
    refine loadN_at (vs := (⟨2, (n : Nat), 0, 0⟩ : Fz).cells) rfl hc ?_
    refine new (fun w1 hE1 hz1 hB1 => ?_)
    refine storeN_blk0 hB1 rfl (sc rfl) (fun w2 hg2 hz2 hB2 => ?_)
    have hE2 : Ext w w2 := newBox hE1 hB1 hg2
    have hO2 := hO.ext hE2
    have hrow : ∀ k, rowS A k → k < w.heap.size := fun k hk => (hO.rows k hk).2
    refine load_blk0 hB2 rfl ?_
    refine call (operands_fn _ w2) ?_
    rintro _ _ ⟨rfl, rfl⟩
    refine wif_df (show ¬ fAr 2 > 0 by decide) ?_
    refine wif_df (show ¬ fAr 2 > 1 by decide) ?_
    have hM2 : Mod (rowS A) w w2 := Mod.of_ext _ hE2
    have hsz : out.length + 1 ≤ 1000000000000 := hl
    refine loadN_blk0 hB2 rfl ?_
    refine at_buildN gx_ok [(⟨2, (n : Nat), 0, 0⟩ : Fz).cells] rfl rfl rfl rfl rfl ⟨rfl, rfl, ⟨⟩⟩ rfl (fun cs h => by simp only [List.mem_singleton] at h; subst h; rfl) rfl (by decide) (by decide) ?_
    intro w8 hE8 hz8 hB8
    have hs8 : Sl w8 4 (some ⟨w2.heap.size, 0, none⟩) 1 1 (⟨2, (n : Nat), 0, 0⟩ : Fz).cells := Sl.own (sz := 4) (n := 1) hB8 (Nat.le_refl _) (by decide) (by simp [Fz.cells])
    refine at_app (n := (out).length) gx_ok rfl rfl rfl rfl rfl (by decide) rfl rfl ⟨_, rfl⟩ rfl rfl (hO2.ext hE8) hs8 (by intro u hu; simp [Fz.cells] at hu; rcases hu with rfl | rfl | rfl | rfl <;> rfl) (by unfold maxLen; omega) (by show _ * 32 ≤ _; omega) (by have := (hM2).size; have := hE8.size; omega) ?_
    intro A9 c9 w9 hm9 ho9 hv9
    have el : (out ++ [(⟨2, (n : Nat), 0, 0⟩ : Fz)]).length = (out).length + 1 := by rw [List.length_append]; rfl
    have e : out ++ postF (.v n) out.length = out ++ [(⟨2, (n : Nat), 0, 0⟩ : Fz)] := rfl
    exact ⟨A9, c9, by rw [e, el], by rw [e, el, fzV_snoc]; exact ho9, (hM2).trans ((Mod.of_ext _ hE8).trans hm9 (fun i hi => .inl hi)) (fun i hi => (Moved.refl w A).rows i hi), ((Moved.refl w A)).trans (hv9.back hE8.size) (hM2).size⟩
  | not a ih =>
    intro i out A c w hE hr hO hbt hl
    have hi : i < f.length := RepF.lt hr
    obtain ⟨j, hj, hx, hra⟩ := hr
    refine fn_of_exec (c := { c54 with cuts := [] }) gx_ok Tryd.func54 rfl rfl rfl ?_
    refine index_sls fz_len (hF.ext hE) rfl (by omega) (fun p y hy hc => ?_)
    have hyx : y = ⟨3, 0, (j : Nat), 0⟩ := Option.some.inj (hy.symm.trans hx)
    subst hyx
    refine loadN_at (vs := (⟨3, 0, (j : Nat), 0⟩ : Fz).cells) rfl hc ?_
    refine new (fun w1 hE1 hz1 hB1 => ?_)
    refine storeN_blk0 hB1 rfl (sc rfl) (fun w2 hg2 hz2 hB2 => ?_)
    have hE2 : Ext w w2 := newBox hE1 hB1 hg2
    have hO2 := hO.ext hE2
    have hrow : ∀ k, rowS A k → k < w.heap.size := fun k hk => (hO.rows k hk).2
    refine load_blk0 hB2 rfl ?_
    refine call (operands_fn _ w2) ?_
    rintro _ _ ⟨rfl, rfl⟩
    refine wif_dt (show fAr 3 > 0 by decide) ?_
    have hsz : out.length + (szF a + 1) ≤ 1000000000000 := hl
    have pa := szF_pos a
    refine load_blk hB2 rfl ?_
    refine call (ih j out A c w2 (hE.trans hE2) hra hO2 (by have := hE2.size; omega) (by omega)) ?_
    rintro _ w3 ⟨A3, c3, rfl, hO3, hM3, hV3⟩
    have ln3 : (out ++ postF a out.length).length = out.length + szF a := by rw [List.length_append, postF_len]
    have hB3 := hB2.mod hM3 (fun hk => by have := hrow _ hk; omega)
    refine norm_i64_to ((out.length + szF a - 1 : Nat) : Int) (by rw [ln3]; omega) (by omega) ?_
    refine store_mod hB3 (by simp [Fz.cells]) (fun w4 hM4 hB4 => ?_)
    refine wif_df (show ¬ fAr 3 > 1 by decide) ?_
    have hO4 := hO3.mod hM4 (fun k hk e => by have := (hO3.rows k hk).1; rcases hV3.rows k hk with h | h; · have := hrow k h; omega
                                              · have := hE2.size; omega)
    have hM24 : Mod (rowS A) w w4 := ((Mod.of_ext (rowS A) hE2).trans hM3 (fun i hi => .inl hi)).trans hM4 (fun i hi => .inr (by omega))
    have hV24 : Moved w A A3 := hV3.back hE2.size
    refine loadN_blk0 hB4 rfl ?_
    refine at_buildN gx_ok [(⟨3, 0, ((out.length + szF a - 1 : Nat) : Int), 0⟩ : Fz).cells] rfl rfl rfl rfl rfl ⟨rfl, rfl, ⟨⟩⟩ rfl (fun cs h => by simp only [List.mem_singleton] at h; subst h; rfl) rfl (by decide) (by decide) ?_
    intro w8 hE8 hz8 hB8
    have hs8 : Sl w8 4 (some ⟨w4.heap.size, 0, none⟩) 1 1 (⟨3, 0, ((out.length + szF a - 1 : Nat) : Int), 0⟩ : Fz).cells := Sl.own (sz := 4) (n := 1) hB8 (Nat.le_refl _) (by decide) (by simp [Fz.cells])
    refine at_app (n := (out ++ postF a out.length).length) gx_ok rfl rfl rfl rfl rfl (by decide) rfl rfl ⟨_, rfl⟩ rfl rfl (hO4.ext hE8) hs8 (by intro u hu; simp [Fz.cells] at hu; rcases hu with rfl | rfl | rfl | rfl <;> rfl) (by unfold maxLen; omega) (by show _ * 32 ≤ _; omega) (by have := (hM24).size; have := hE8.size; omega) ?_
    intro A9 c9 w9 hm9 ho9 hv9
    have el : (out ++ postF a out.length ++ [(⟨3, 0, ((out.length + szF a - 1 : Nat) : Int), 0⟩ : Fz)]).length = (out ++ postF a out.length).length + 1 := by rw [List.length_append]; rfl
    have e : out ++ postF (.not a) out.length = (out ++ postF a out.length) ++ [⟨3, 0, ((out.length + szF a - 1 : Nat) : Int), 0⟩] := by simp [postF]
    exact ⟨A9, c9, by rw [e, el], by rw [e, el, fzV_snoc]; exact ho9, (hM24).trans ((Mod.of_ext _ hE8).trans hm9 (fun i hi => .inl hi)) (fun i hi => hV24.rows i hi), (hV24).trans (hv9.back hE8.size) (hM24).size⟩
  | and a b iha ihb =>
    intro i out A c w hE hr hO hbt hl
    have hi : i < f.length := RepF.lt hr
    obtain ⟨j, k, hj, hk, hx, hra, hrb⟩ := hr
    refine fn_of_exec (c := { c54 with cuts := [] }) gx_ok Tryd.func54 rfl rfl rfl ?_
    refine index_sls fz_len (hF.ext hE) rfl (by omega) (fun p y hy hc => ?_)
    have hyx : y = ⟨4, 0, (j : Nat), (k : Nat)⟩ := Option.some.inj (hy.symm.trans hx)
    subst hyx
    refine loadN_at (vs := (⟨4, 0, (j : Nat), (k : Nat)⟩ : Fz).cells) rfl hc ?_
    refine new (fun w1 hE1 hz1 hB1 => ?_)
    refine storeN_blk0 hB1 rfl (sc rfl) (fun w2 hg2 hz2 hB2 => ?_)
    have hE2 : Ext w w2 := newBox hE1 hB1 hg2
    have hO2 := hO.ext hE2
    have hrow : ∀ k, rowS A k → k < w.heap.size := fun k hk => (hO.rows k hk).2
    refine load_blk0 hB2 rfl ?_
    refine call (operands_fn _ w2) ?_
    rintro _ _ ⟨rfl, rfl⟩
    refine wif_dt (show fAr 4 > 0 by decide) ?_
    have hsz : out.length + (szF a + szF b + 1) ≤ 1000000000000 := hl
    have pa := szF_pos a
    have pb := szF_pos b
    refine load_blk hB2 rfl ?_
    refine call (iha j out A c w2 (hE.trans hE2) hra hO2 (by have := hE2.size; omega) (by omega)) ?_
    rintro _ w3 ⟨A3, c3, rfl, hO3, hM3, hV3⟩
    have ln3 : (out ++ postF a out.length).length = out.length + szF a := by rw [List.length_append, postF_len]
    have hB3 := hB2.mod hM3 (fun hk => by have := hrow _ hk; omega)
    refine norm_i64_to ((out.length + szF a - 1 : Nat) : Int) (by rw [ln3]; omega) (by omega) ?_
    refine store_mod hB3 (by simp [Fz.cells]) (fun w4 hM4 hB4 => ?_)
    refine wif_dt (show fAr 4 > 1 by decide) ?_
    have ap3 : ∀ i, rowS A3 i → ¬ i = w.heap.size := fun i hi e => by
      rcases hV3.rows i hi with h | h
      · have := hrow i h; omega
      · have := hE2.size; omega
    have hO4 := hO3.mod hM4 (fun i hi e => ap3 i hi e)
    have hM24 : Mod (rowS A) w w4 := ((Mod.of_ext (rowS A) hE2).trans hM3 (fun i hi => .inl hi)).trans hM4 (fun i hi => .inr (by omega))
    have hV24 : Moved w A A3 := hV3.back hE2.size
    have hE04 : Ext w0 w4 := hM24.ext hE (fun i hi => by have := (hO.rows i hi).1; omega)
    refine load_blk hB4 rfl ?_
    refine call (ihb k (out ++ postF a out.length) A3 c3 w4 hE04 hrb hO4 (by have := hM24.size; omega) (by rw [ln3]; omega)) ?_
    rintro _ w5 ⟨A5, c5, rfl, hO5, hM5, hV5⟩
    have ln5 : ((out ++ postF a out.length) ++ postF b (out ++ postF a out.length).length).length = out.length + szF a + szF b := by rw [List.length_append, ln3, postF_len]
    have hB5 := hB4.mod hM5 (fun hk => ap3 _ hk rfl)
    refine norm_i64_to ((out.length + szF a + szF b - 1 : Nat) : Int) (by rw [ln5]; omega) (by omega) ?_
    refine store_mod hB5 (by simp [Fz.cells]) (fun w6 hM6 hB6 => ?_)
    have hO6 := hO5.mod hM6 (fun i hi e => by
      rcases hV5.rows i hi with h | h
      · exact ap3 i h e
      · have := hM24.size; have := hE2.size; have := hM3.size; have := hM4.size; omega)
    have hM26 : Mod (rowS A) w w6 := (hM24.trans hM5 (fun i hi => hV24.rows i hi)).trans hM6 (fun i hi => .inr (by omega))
    have hV26 : Moved w A A5 := hV24.trans hV5 hM24.size
    refine loadN_blk0 hB6 rfl ?_
    refine at_buildN gx_ok [(⟨4, 0, ((out.length + szF a - 1 : Nat) : Int), ((out.length + szF a + szF b - 1 : Nat) : Int)⟩ : Fz).cells] rfl rfl rfl rfl rfl ⟨rfl, rfl, ⟨⟩⟩ rfl (fun cs h => by simp only [List.mem_singleton] at h; subst h; rfl) rfl (by decide) (by decide) ?_
    intro w8 hE8 hz8 hB8
    have hs8 : Sl w8 4 (some ⟨w6.heap.size, 0, none⟩) 1 1 (⟨4, 0, ((out.length + szF a - 1 : Nat) : Int), ((out.length + szF a + szF b - 1 : Nat) : Int)⟩ : Fz).cells := Sl.own (sz := 4) (n := 1) hB8 (Nat.le_refl _) (by decide) (by simp [Fz.cells])
    refine at_app (n := ((out ++ postF a out.length) ++ postF b (out ++ postF a out.length).length).length) gx_ok rfl rfl rfl rfl rfl (by decide) rfl rfl ⟨_, rfl⟩ rfl rfl (hO6.ext hE8) hs8 (by intro u hu; simp [Fz.cells] at hu; rcases hu with rfl | rfl | rfl | rfl <;> rfl) (by unfold maxLen; omega) (by show _ * 32 ≤ _; omega) (by have := (hM26).size; have := hE8.size; omega) ?_
    intro A9 c9 w9 hm9 ho9 hv9
    have el : ((out ++ postF a out.length) ++ postF b (out ++ postF a out.length).length ++ [(⟨4, 0, ((out.length + szF a - 1 : Nat) : Int), ((out.length + szF a + szF b - 1 : Nat) : Int)⟩ : Fz)]).length = ((out ++ postF a out.length) ++ postF b (out ++ postF a out.length).length).length + 1 := by rw [List.length_append]; rfl
    have e : out ++ postF (.and a b) out.length = ((out ++ postF a out.length) ++ postF b (out ++ postF a out.length).length) ++ [(⟨4, 0, ((out.length + szF a - 1 : Nat) : Int), ((out.length + szF a + szF b - 1 : Nat) : Int)⟩ : Fz)] := by simp [postF, ln3]
    exact ⟨A9, c9, by rw [e, el], by rw [e, el, fzV_snoc]; exact ho9, (hM26).trans ((Mod.of_ext _ hE8).trans hm9 (fun i hi => .inl hi)) (fun i hi => hV26.rows i hi), (hV26).trans (hv9.back hE8.size) (hM26).size⟩
  | or a b iha ihb =>
    intro i out A c w hE hr hO hbt hl
    have hi : i < f.length := RepF.lt hr
    obtain ⟨j, k, hj, hk, hx, hra, hrb⟩ := hr
    refine fn_of_exec (c := { c54 with cuts := [] }) gx_ok Tryd.func54 rfl rfl rfl ?_
    refine index_sls fz_len (hF.ext hE) rfl (by omega) (fun p y hy hc => ?_)
    have hyx : y = ⟨5, 0, (j : Nat), (k : Nat)⟩ := Option.some.inj (hy.symm.trans hx)
    subst hyx
    refine loadN_at (vs := (⟨5, 0, (j : Nat), (k : Nat)⟩ : Fz).cells) rfl hc ?_
    refine new (fun w1 hE1 hz1 hB1 => ?_)
    refine storeN_blk0 hB1 rfl (sc rfl) (fun w2 hg2 hz2 hB2 => ?_)
    have hE2 : Ext w w2 := newBox hE1 hB1 hg2
    have hO2 := hO.ext hE2
    have hrow : ∀ k, rowS A k → k < w.heap.size := fun k hk => (hO.rows k hk).2
    refine load_blk0 hB2 rfl ?_
    refine call (operands_fn _ w2) ?_
    rintro _ _ ⟨rfl, rfl⟩
    refine wif_dt (show fAr 5 > 0 by decide) ?_
    have hsz : out.length + (szF a + szF b + 1) ≤ 1000000000000 := hl
    have pa := szF_pos a
    have pb := szF_pos b
    refine load_blk hB2 rfl ?_
    refine call (iha j out A c w2 (hE.trans hE2) hra hO2 (by have := hE2.size; omega) (by omega)) ?_
    rintro _ w3 ⟨A3, c3, rfl, hO3, hM3, hV3⟩
    have ln3 : (out ++ postF a out.length).length = out.length + szF a := by rw [List.length_append, postF_len]
    have hB3 := hB2.mod hM3 (fun hk => by have := hrow _ hk; omega)
    refine norm_i64_to ((out.length + szF a - 1 : Nat) : Int) (by rw [ln3]; omega) (by omega) ?_
    refine store_mod hB3 (by simp [Fz.cells]) (fun w4 hM4 hB4 => ?_)
    refine wif_dt (show fAr 5 > 1 by decide) ?_
    have ap3 : ∀ i, rowS A3 i → ¬ i = w.heap.size := fun i hi e => by
      rcases hV3.rows i hi with h | h
      · have := hrow i h; omega
      · have := hE2.size; omega
    have hO4 := hO3.mod hM4 (fun i hi e => ap3 i hi e)
    have hM24 : Mod (rowS A) w w4 := ((Mod.of_ext (rowS A) hE2).trans hM3 (fun i hi => .inl hi)).trans hM4 (fun i hi => .inr (by omega))
    have hV24 : Moved w A A3 := hV3.back hE2.size
    have hE04 : Ext w0 w4 := hM24.ext hE (fun i hi => by have := (hO.rows i hi).1; omega)
    refine load_blk hB4 rfl ?_
    refine call (ihb k (out ++ postF a out.length) A3 c3 w4 hE04 hrb hO4 (by have := hM24.size; omega) (by rw [ln3]; omega)) ?_
    rintro _ w5 ⟨A5, c5, rfl, hO5, hM5, hV5⟩
    have ln5 : ((out ++ postF a out.length) ++ postF b (out ++ postF a out.length).length).length = out.length + szF a + szF b := by rw [List.length_append, ln3, postF_len]
    have hB5 := hB4.mod hM5 (fun hk => ap3 _ hk rfl)
    refine norm_i64_to ((out.length + szF a + szF b - 1 : Nat) : Int) (by rw [ln5]; omega) (by omega) ?_
    refine store_mod hB5 (by simp [Fz.cells]) (fun w6 hM6 hB6 => ?_)
    have hO6 := hO5.mod hM6 (fun i hi e => by
      rcases hV5.rows i hi with h | h
      · exact ap3 i h e
      · have := hM24.size; have := hE2.size; have := hM3.size; have := hM4.size; omega)
    have hM26 : Mod (rowS A) w w6 := (hM24.trans hM5 (fun i hi => hV24.rows i hi)).trans hM6 (fun i hi => .inr (by omega))
    have hV26 : Moved w A A5 := hV24.trans hV5 hM24.size
    refine loadN_blk0 hB6 rfl ?_
    refine at_buildN gx_ok [(⟨5, 0, ((out.length + szF a - 1 : Nat) : Int), ((out.length + szF a + szF b - 1 : Nat) : Int)⟩ : Fz).cells] rfl rfl rfl rfl rfl ⟨rfl, rfl, ⟨⟩⟩ rfl (fun cs h => by simp only [List.mem_singleton] at h; subst h; rfl) rfl (by decide) (by decide) ?_
    intro w8 hE8 hz8 hB8
    have hs8 : Sl w8 4 (some ⟨w6.heap.size, 0, none⟩) 1 1 (⟨5, 0, ((out.length + szF a - 1 : Nat) : Int), ((out.length + szF a + szF b - 1 : Nat) : Int)⟩ : Fz).cells := Sl.own (sz := 4) (n := 1) hB8 (Nat.le_refl _) (by decide) (by simp [Fz.cells])
    refine at_app (n := ((out ++ postF a out.length) ++ postF b (out ++ postF a out.length).length).length) gx_ok rfl rfl rfl rfl rfl (by decide) rfl rfl ⟨_, rfl⟩ rfl rfl (hO6.ext hE8) hs8 (by intro u hu; simp [Fz.cells] at hu; rcases hu with rfl | rfl | rfl | rfl <;> rfl) (by unfold maxLen; omega) (by show _ * 32 ≤ _; omega) (by have := (hM26).size; have := hE8.size; omega) ?_
    intro A9 c9 w9 hm9 ho9 hv9
    have el : ((out ++ postF a out.length) ++ postF b (out ++ postF a out.length).length ++ [(⟨5, 0, ((out.length + szF a - 1 : Nat) : Int), ((out.length + szF a + szF b - 1 : Nat) : Int)⟩ : Fz)]).length = ((out ++ postF a out.length) ++ postF b (out ++ postF a out.length).length).length + 1 := by rw [List.length_append]; rfl
    have e : out ++ postF (.or a b) out.length = ((out ++ postF a out.length) ++ postF b (out ++ postF a out.length).length) ++ [(⟨5, 0, ((out.length + szF a - 1 : Nat) : Int), ((out.length + szF a + szF b - 1 : Nat) : Int)⟩ : Fz)] := by simp [postF, ln3]
    exact ⟨A9, c9, by rw [e, el], by rw [e, el, fzV_snoc]; exact ho9, (hM26).trans ((Mod.of_ext _ hE8).trans hm9 (fun i hi => .inl hi)) (fun i hi => hV26.rows i hi), (hV26).trans (hv9.back hE8.size) (hM26).size⟩

theorem postorder_fn (FA : Option Addr) (nf cf : Nat) (f : List Fz) (w : World) (hF : SF w FA nf cf f) (hv : FV f) :
    Fn Tryd.prog 21 [.slice FA nf cf] w (fun v w' => ∃ A c, v = .slice A (postF (treeOf f) 0).length c ∧ Ext w w' ∧ SF w' A (postF (treeOf f) 0).length c (postF (treeOf f) 0)) := by
  have hfl := hF.2
  have h0 := hv.2.1
  have h5 := hv.1
  have hsz := szF_total hv
  refine fn_of_exec (c := { c21 with cuts := [] }) gx_ok Tryd.func21 rfl rfl rfl ?_
  refine norm_i64_to ((f.length - 1 : Nat) : Int) (by omega) (by omega) ?_
  refine call (copied_fn w w.heap.size FA nf cf f hF (Nat.le_refl _) (treeOf f) (f.length - 1) [] none 0 w (Ext.refl w) (treeOf_rep hv) (Own.nil _ _ _ _) (Nat.le_refl _) (by simp only [List.length_nil]; omega)) ?_
  rintro _ w1 ⟨A1, c1, rfl, hO1, hM1, hV1⟩
  exact ⟨A1, c1, rfl, hM1.ext (Ext.refl w) (fun i ⟨_, e, _⟩ => by cases e), ⟨hO1.sl, rfl⟩⟩

def letters12 : List (List Nat) := [[65], [66], [67], [68], [108, 111, 110, 103, 95, 110, 97, 109, 101], [95], [120, 49], [84, 82, 85, 69], [116], [102], [116, 114, 117], [102, 97, 108, 115, 101, 101]]
theorem letters_fn (k : Nat) (w : World) (hk : k ≤ 12) :
    Fn Tryd.prog 18 [.int .i64 k] w (fun v w' => ∃ A c, v = .slice A k c ∧ Ext w w' ∧ Sl w' 1 A k c (strsV (letters12.take k))) := by
  refine fn_of_exec (c := { c18 with cuts := [] }) gx_ok Tryd.func18 rfl rfl rfl ?_
  refine at_buildN gx_ok (letters12.map (fun s => [.string (strOf s)])) rfl rfl rfl rfl rfl ⟨rfl, rfl, rfl, rfl, rfl, rfl, rfl, rfl, rfl, rfl, rfl, rfl, rfl, rfl, rfl, rfl, rfl, rfl, rfl, rfl, rfl, rfl, rfl, rfl, ⟨⟩⟩ rfl (fun cs h => by simp only [List.mem_map] at h; obtain ⟨s, _, rfl⟩ := h; rfl) rfl (by decide) (by decide) ?_
  intro w1 hE1 hz1 hB1
  refine at_slice_h gx_ok rfl rfl rfl rfl rfl rfl hk ?_
  have hS : Sl w1 1 (some ⟨w.heap.size, 0, none⟩) 12 12 (strsV letters12) := Sl.own' (n := 12) hB1 rfl (by decide)
  have := hS.take (m := k) hk
  rw [Nat.mul_one] at this
  exact ⟨_, 12, rfl, hE1, by rw [show strsV (letters12.take k) = (strsV letters12).take k by simp [strsV]]; exact this⟩
theorem letters_ok (k : Nat) (hk : k ≤ 12) : NamesOk (letters12.take k) ∧ numsOk (letters12.take k) = true ∧ (letters12.take k).length = k := by
  have hb : NamesOk letters12 := namesOk_of (by decide)
  have hb' : NamesOk (letters12.take k) := fun s hs => hb s (List.mem_of_mem_take hs)
  have hl : (letters12.take k).length = k := by rw [List.length_take]; show min k 12 = k; omega
  refine ⟨hb', (numsOk_iff hb').2 ⟨?_, List.Nodup.sublist (List.take_sublist k letters12) (by decide), by omega⟩, hl⟩
  have : letters12.all nameOk = true := by decide
  exact List.all_eq_true.2 (fun s hs => List.all_eq_true.1 this s (List.mem_of_mem_take hs))
end Go.Proofs.YtdbhjlpkopnebaaDoor
