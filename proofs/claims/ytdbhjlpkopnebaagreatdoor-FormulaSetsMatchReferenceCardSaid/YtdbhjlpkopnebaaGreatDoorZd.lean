/-
  The reference's Diagram of a formula.
  Conditions: none.
-/
import Derived.Test.YtdbhjlpkopnebaaGreatDoorZc
namespace Go.Proofs.YtdbhjlpkopnebaaGreatDoor
open Go Go.RowKit

def dvL (L : List DV) : List Value := L.flatMap DV.cells
theorem dvL_snoc (L : List DV) (x : DV) : dvL (L ++ [x]) = dvL L ++ x.cells := by simp [dvL]
/-- The sets so far, in a slice that grows. -/
structure RdI (w0 : World) (f : List Fz) (k : Nat) (L : List DV) (A : Option Addr) (c : Nat) (w : World) : Prop where
  e : Ext w0 w
  own : Own w w0.heap.size 31 2 A L.length c (dvL L)
  got : ∀ j, j < L.length → ∃ x t, L[j]? = some x ∧ RepF f t j ∧ SB w x.A x.n x.c x.nd ∧ Set1 k x.nd x.r (evF t) ∧ ∀ ad, x.A = some ad → 0 < x.n → ¬ rowS A ad.block ∧ w0.heap.size ≤ ad.block
theorem RdI.ext {w0 w w' : World} {f : List Fz} {k : Nat} {L : List DV} {A : Option Addr} {c : Nat} (h : RdI w0 f k L A c w) (h1 : Ext w w') : RdI w0 f k L A c w' :=
  ⟨h.e.trans h1, h.own.ext h1, fun j hj => by
    obtain ⟨x, t, a1, a2, a3, a4, a5⟩ := h.got j hj
    exact ⟨x, t, a1, a2, a3.ext h1, a4, a5⟩⟩
theorem SB.modr {S : Nat → Prop} {w w' : World} {A : Option Addr} {n c : Nat} {nd : List Br} (h : SB w A n c nd) (hm : Mod S w w') (hr : ∀ ad, A = some ad → 0 < n → ¬ S ad.block) : SB w' A n c nd :=
  ⟨h.1.modS hm (fun h0 i hi => by obtain ⟨ad, e, rfl⟩ := hi; exact hr ad e h0), h.2⟩
theorem RdI.put {w0 w w' : World} {f : List Fz} {k : Nat} {L : List DV} {A A' : Option Addr} {c c' : Nat} (h : RdI w0 f k L A c w) {x : DV} {t : Fm} (ht : RepF f t L.length) (hx : SB w x.A x.n x.c x.nd) (hS : Set1 k x.nd x.r (evF t)) (hr : ∀ ad, x.A = some ad → 0 < x.n → ¬ rowS A ad.block ∧ w0.heap.size ≤ ad.block)
    (hm : Mod (rowS A) w w') (ho : Own w' w0.heap.size 31 2 A' (L.length + 1) c' (dvL L ++ x.cells)) (hv : Moved w A A') : RdI w0 f k (L ++ [x]) A' c' w' := by
  have el : (L ++ [x]).length = L.length + 1 := by simp
  have apart : ∀ (y : DV), SB w y.A y.n y.c y.nd → (∀ ad, y.A = some ad → 0 < y.n → ¬ rowS A ad.block ∧ w0.heap.size ≤ ad.block) → ∀ ad, y.A = some ad → 0 < y.n → ¬ rowS A' ad.block ∧ w0.heap.size ≤ ad.block := fun y hy hn ad e h0 => ⟨fun hr => by
    rcases hv.rows _ hr with h1 | h1
    · exact (hn ad e h0).1 h1
    · have := SB.lt hy ad e h0; omega, (hn ad e h0).2⟩
  refine ⟨hm.ext h.e (fun i hi => (h.own.rows i hi).1), by rw [el, dvL_snoc]; exact ho, fun j hj => ?_⟩
  by_cases hjl : j < L.length
  · obtain ⟨y, u, a1, a2, a3, a4, a5⟩ := h.got j hjl
    exact ⟨y, u, by rw [List.getElem?_append_left hjl]; exact a1, a2, a3.modr hm (fun ad e h0 => (a5 ad e h0).1), a4, apart y a3 a5⟩
  · have hjj : j = L.length := by omega
    subst hjj
    exact ⟨x, t, by simp, ht, hx.modr hm (fun ad e h0 => (hr ad e h0).1), hS, apart x hx hr⟩

theorem rdiagram_fn (F : Option Addr) (n cF : Nat) (f : List Fz) (k : Nat) (hk : k ≤ 12) (w : World) (h : SF w F n cF f) (hv : FV f) (hvk : varsOk k f) :
    Fn Tryz.prog 8 [.slice F n cF] w (fun v w' => ∃ A m c nd r, v = .tuple #[dgV A m c r, .int .i64 0] ∧ Ext w w' ∧ SB w' A m c nd ∧ Set1 k nd r (evF (treeOf f))) := by
  have hn := h.2
  have hvl := hv.1
  have hv0 := hv.2.1
  refine fn_of_exec (c := { c8 with cuts := [] }) gx_ok Tryz.func8 rfl rfl rfl ?_
  refine new (fun w1 hE1 hz1 hB1 => ?_)
  refine call (rcheck_fn F n cF f w1 (h.ext hE1)) ?_
  rintro _ w2 ⟨rfl, hE2⟩
  refine wif_nef (chkF_ok hv) ?_
  have hE02 := hE1.trans hE2
  have hz2 : w1.heap.size ≤ w2.heap.size := hE2.size
  refine loop gx_ok [4, 5] (fun s : List DV × Option Addr × Nat => [.slice s.2.1 s.1.length s.2.2, .int .i64 s.1.length]) (fun s w' => RdI w2 f k s.1 s.2.1 s.2.2 w' ∧ s.1.length ≤ n) (fun s _ => n - s.1.length) ([], none, 0) rfl ⟨⟨Ext.refl _, Own.nil _ _ _ _, fun j hj => absurd hj (by simp)⟩, Nat.zero_le _⟩ ?_
  rintro ⟨L, A, c⟩ w4 ⟨hI, hs⟩
  simp only at hI hs
  have hE4 : Ext w w4 := hE02.trans hI.e
  have hrows := hI.own.rows
  have hz4 := hI.e.size
  refine wif_d (fun h1 => ?_) (fun h1 => ?_)
  · have hsn : L.length < n := by simp only at h1; omega
    refine index_sls fz_len (h.ext hE4) rfl hsn (fun p x hx hc => ?_)
    refine loadN_at (vs := x.cells) rfl hc ?_
    refine new (fun w5 hE5 hz5 hB5 => ?_)
    refine storeN_blk0 hB5 rfl (sc rfl) (fun w6 hg6 hz6 hB6 => ?_)
    have hE46 : Ext w4 w6 := newBox hE5 hB5 hg6
    obtain ⟨t, ht⟩ := hv.rep (i := L.length) (by omega)
    have hlL : L.length ≤ 512 := by omega
    have c0 : ∀ b : Bool, Set1 k [] (if b then 1 else 0) (fun _ => b) := const_set k
    -- the constant that every turn begins with
    have turn : ∀ (b : Bool), (x.o == 1) = b → True := fun _ _ => trivial
    refine load_blk0 hB6 rfl ?_
    refine call (rconst_fn (x.o == 1) w6) ?_
    rintro _ w7 ⟨rfl, hE7⟩
    refine new (fun w8 hE8 hz8 hB8 => ?_)
    refine storeN_blk0 hB8 rfl (sc rfl) (fun w9 hg9 hz9 hB9 => ?_)
    have hE79 : Ext w7 w9 := newBox hE8 hB8 hg9
    have hE69 := hE7.trans hE79
    have hI9 := (hI.ext hE46).ext hE69
    have hB69 := hB6.ext hE69
    have hz46 := hE46.size
    have hz67 := hE7.size
    have hz79 := hE79.size
    have hsz9 : w7.heap.size < w9.heap.size := by omega
    have hnone : ∀ ad : Addr, (none : Option Addr) = some ad → 0 < 0 → ¬ rowS A ad.block ∧ w2.heap.size ≤ ad.block := fun ad e => by cases e
    refine load_blk0 hB69 rfl ?_
    cases t with
    | c b =>
      cases b with
      | false =>
        have hxx : x = ⟨0, 0, 0, 0⟩ := Option.some.inj (hx.symm.trans ht)
        subst hxx
        refine wif_eqf (show ¬ (0 : Int) = 2 by decide) ?_
        refine wif_eqf (show ¬ (0 : Int) = 3 by decide) ?_
        refine wif_eqf (show ¬ (0 : Int) = 4 by decide) ?_
        refine wif_eqf (show ¬ (0 : Int) = 5 by decide) ?_
        have cb : Set1 k [] 0 (fun _ => false) := c0 false
        refine wif_nef rfl ?_
        refine loadN_blk0 hB9 rfl ?_
        refine at_buildN gx_ok [(⟨none, 0, 0, [], 0⟩ : DV).cells] rfl rfl rfl rfl rfl ⟨rfl, rfl, ⟨⟩⟩ rfl (fun cs h => by simp only [List.mem_singleton] at h; subst h; rfl) rfl (by decide) (by decide) ?_
        intro w20 hE20 hz20 hB20
        have hI20 := hI9.ext hE20
        have hs20 : Sl w20 2 (some ⟨w9.heap.size, 0, none⟩) 1 1 (⟨none, 0, 0, [], 0⟩ : DV).cells := Sl.own (sz := 2) (n := 1) hB20 (Nat.le_refl _) (by decide) (by simp [DV.cells])
        refine at_app (sz := 2) (n := L.length) gx_ok rfl rfl rfl rfl rfl (by decide) rfl rfl ⟨_, rfl⟩ rfl rfl hI20.own hs20 (by intro u hu; simp [DV.cells] at hu; rcases hu with rfl | rfl <;> rfl) (by unfold maxLen; omega) (by show _ * 32 ≤ _; omega) (hI20.e.size) ?_
        intro A' c' w21 hm21 ho21 hv21
        have hI21 := hI20.put ht (x := ⟨none, 0, 0, [], 0⟩) (SlS.nil _) cb hnone hm21 ho21 hv21
        refine norm_i64_to ((L.length + 1 : Nat) : Int) (by show ((L.length : Nat) : Int) + 1 = _; omega) (by omega) ?_
        exact ⟨(L ++ [⟨none, 0, 0, [], 0⟩], A', c'), by simp only [List.length_append, List.length_cons, List.length_nil]; rfl, ⟨hI21, by show (L ++ [_]).length ≤ n; simp only [List.length_append, List.length_cons, List.length_nil]; omega⟩, by show n - (L ++ [_]).length < n - L.length; simp only [List.length_append, List.length_cons, List.length_nil]; omega⟩
      | true =>
        have hxx : x = ⟨1, 0, 0, 0⟩ := Option.some.inj (hx.symm.trans ht)
        subst hxx
        refine wif_eqf (show ¬ (1 : Int) = 2 by decide) ?_
        refine wif_eqf (show ¬ (1 : Int) = 3 by decide) ?_
        refine wif_eqf (show ¬ (1 : Int) = 4 by decide) ?_
        refine wif_eqf (show ¬ (1 : Int) = 5 by decide) ?_
        have cb : Set1 k [] 1 (fun _ => true) := c0 true
        refine wif_nef rfl ?_
        refine loadN_blk0 hB9 rfl ?_
        refine at_buildN gx_ok [(⟨none, 0, 0, [], 1⟩ : DV).cells] rfl rfl rfl rfl rfl ⟨rfl, rfl, ⟨⟩⟩ rfl (fun cs h => by simp only [List.mem_singleton] at h; subst h; rfl) rfl (by decide) (by decide) ?_
        intro w20 hE20 hz20 hB20
        have hI20 := hI9.ext hE20
        have hs20 : Sl w20 2 (some ⟨w9.heap.size, 0, none⟩) 1 1 (⟨none, 0, 0, [], 1⟩ : DV).cells := Sl.own (sz := 2) (n := 1) hB20 (Nat.le_refl _) (by decide) (by simp [DV.cells])
        refine at_app (sz := 2) (n := L.length) gx_ok rfl rfl rfl rfl rfl (by decide) rfl rfl ⟨_, rfl⟩ rfl rfl hI20.own hs20 (by intro u hu; simp [DV.cells] at hu; rcases hu with rfl | rfl <;> rfl) (by unfold maxLen; omega) (by show _ * 32 ≤ _; omega) (hI20.e.size) ?_
        intro A' c' w21 hm21 ho21 hv21
        have hI21 := hI20.put ht (x := ⟨none, 0, 0, [], 1⟩) (SlS.nil _) cb hnone hm21 ho21 hv21
        refine norm_i64_to ((L.length + 1 : Nat) : Int) (by show ((L.length : Nat) : Int) + 1 = _; omega) (by omega) ?_
        exact ⟨(L ++ [⟨none, 0, 0, [], 1⟩], A', c'), by simp only [List.length_append, List.length_cons, List.length_nil]; rfl, ⟨hI21, by show (L ++ [_]).length ≤ n; simp only [List.length_append, List.length_cons, List.length_nil]; omega⟩, by show n - (L ++ [_]).length < n - L.length; simp only [List.length_append, List.length_cons, List.length_nil]; omega⟩
    | v q =>
      have hxx : x = ⟨2, (q : Nat), 0, 0⟩ := Option.some.inj (hx.symm.trans ht)
      subst hxx
      have hq : (q : Int) < k := hvk _ (List.mem_of_getElem? hx) rfl
      refine wif_eqt rfl ?_
      refine load_blk hB69 rfl ?_
      refine call (rvar_fn (q : Nat) w9 (by omega) (by omega)) ?_
      rintro _ w10 ⟨PA, pn, pc, rfl, hE10, hP10', hR10⟩
      have hP10 : SB w10 PA pn pc [⟨(q : Nat), 0, 1⟩] := hP10'
      have hSv : Set1 k [⟨(q : Nat), 0, 1⟩] 2 (evF (.v q)) := var_set (by omega) (by omega)
      refine storeN_blk0 (hB9.ext hE10) rfl (sc rfl) (fun w11 hg11 hz11 hB11 => ?_)
      have hM11 : Mod (· = w7.heap.size) w10 w11 := Mod.of_grown hg11 rfl
      have hE911 : Ext w6 w11 := hM11.ext (hE69.trans hE10) (fun i hi => by omega)
      have hI11 := (hI.ext hE46).ext hE911
      have hz10 := hE10.size
      have hP11 := hP10.modr hM11 (fun ad e h0 hh => by have := hR10 ad.block ⟨ad, e, rfl⟩; omega)
      have hrow11 : ∀ ae, PA = some ae → 0 < pn → ¬ rowS A ae.block ∧ w2.heap.size ≤ ae.block := fun ae e _ => ⟨fun hh => by
        have h1 := hR10 ae.block ⟨ae, e, rfl⟩
        have h2 := (hrows _ hh).2
        omega, by have h1 := hR10 ae.block ⟨ae, e, rfl⟩; omega⟩
      refine wif_nef rfl ?_
      refine loadN_blk0 hB11 rfl ?_
      refine at_buildN gx_ok [(⟨PA, pn, pc, [⟨(q : Nat), 0, 1⟩], 2⟩ : DV).cells] rfl rfl rfl rfl rfl ⟨rfl, rfl, ⟨⟩⟩ rfl (fun cs h => by simp only [List.mem_singleton] at h; subst h; rfl) rfl (by decide) (by decide) ?_
      intro w20 hE20 hz20 hB20
      have hI20 := hI11.ext hE20
      have hs20 : Sl w20 2 (some ⟨w11.heap.size, 0, none⟩) 1 1 (⟨PA, pn, pc, [⟨(q : Nat), 0, 1⟩], 2⟩ : DV).cells := Sl.own (sz := 2) (n := 1) hB20 (Nat.le_refl _) (by decide) (by simp [DV.cells])
      refine at_app (sz := 2) (n := L.length) gx_ok rfl rfl rfl rfl rfl (by decide) rfl rfl ⟨_, rfl⟩ rfl rfl hI20.own hs20 (by intro u hu; simp [DV.cells] at hu; rcases hu with rfl | rfl <;> rfl) (by unfold maxLen; omega) (by show _ * 32 ≤ _; omega) (hI20.e.size) ?_
      intro A' c' w21 hm21 ho21 hv21
      have hI21 := hI20.put ht (x := ⟨PA, pn, pc, [⟨(q : Nat), 0, 1⟩], 2⟩) (hP11.ext hE20) hSv hrow11 hm21 ho21 hv21
      refine norm_i64_to ((L.length + 1 : Nat) : Int) (by show ((L.length : Nat) : Int) + 1 = _; omega) (by omega) ?_
      exact ⟨(L ++ [⟨PA, pn, pc, [⟨(q : Nat), 0, 1⟩], 2⟩], A', c'), by simp only [List.length_append, List.length_cons, List.length_nil]; rfl, ⟨hI21, by show (L ++ [_]).length ≤ n; simp only [List.length_append, List.length_cons, List.length_nil]; omega⟩, by show n - (L ++ [_]).length < n - L.length; simp only [List.length_append, List.length_cons, List.length_nil]; omega⟩
    | not a =>
      obtain ⟨j, hj, hxj, hra⟩ := ht
      have hxx : x = ⟨3, 0, (j : Nat), 0⟩ := Option.some.inj (hx.symm.trans hxj)
      subst hxx
      obtain ⟨y, u, hy, hu, hyS, hyM, hyr⟩ := hI9.got j hj
      obtain rfl : u = a := RepF.det hu hra
      have ht : RepF f (.not u) L.length := ⟨j, hj, hxj, hra⟩
      refine wif_eqf (show ¬ (3 : Int) = 2 by decide) ?_
      refine wif_eqt rfl ?_
      refine load_blk hB69 rfl ?_
      refine index_sls dv_len (l := L) (j := j) ⟨hI9.own.sl, rfl⟩ rfl hj (fun p2 y2 hy2 hc2 => ?_)
      have hyy : y2 = y := Option.some.inj (hy2.symm.trans hy)
      subst hyy
      refine loadN_at (vs := y2.cells) rfl hc2 ?_
      refine call (rnot_fn hk y2.A y2.n y2.c w9 hyS hyM) ?_
      rintro _ w10 ⟨PA, pn, pc, D1, D2, rfl, hE10, hP10, hSv0, hR10⟩
      have hSv : Set1 k D1 D2 (evF (.not u)) := hSv0
      refine storeN_blk0 (hB9.ext hE10) rfl (sc rfl) (fun w11 hg11 hz11 hB11 => ?_)
      have hM11 : Mod (· = w7.heap.size) w10 w11 := Mod.of_grown hg11 rfl
      have hE911 : Ext w6 w11 := hM11.ext (hE69.trans hE10) (fun i hi => by omega)
      have hI11 := (hI.ext hE46).ext hE911
      have hz10 := hE10.size
      have hP11 := hP10.modr hM11 (fun ad e h0 hh => by have := hR10 ad.block ⟨ad, e, rfl⟩; omega)
      have hrow11 : ∀ ae, PA = some ae → 0 < pn → ¬ rowS A ae.block ∧ w2.heap.size ≤ ae.block := fun ae e _ => ⟨fun hh => by
        have h1 := hR10 ae.block ⟨ae, e, rfl⟩
        have h2 := (hrows _ hh).2
        omega, by have h1 := hR10 ae.block ⟨ae, e, rfl⟩; omega⟩
      refine wif_nef rfl ?_
      refine loadN_blk0 hB11 rfl ?_
      refine at_buildN gx_ok [(⟨PA, pn, pc, D1, D2⟩ : DV).cells] rfl rfl rfl rfl rfl ⟨rfl, rfl, ⟨⟩⟩ rfl (fun cs h => by simp only [List.mem_singleton] at h; subst h; rfl) rfl (by decide) (by decide) ?_
      intro w20 hE20 hz20 hB20
      have hI20 := hI11.ext hE20
      have hs20 : Sl w20 2 (some ⟨w11.heap.size, 0, none⟩) 1 1 (⟨PA, pn, pc, D1, D2⟩ : DV).cells := Sl.own (sz := 2) (n := 1) hB20 (Nat.le_refl _) (by decide) (by simp [DV.cells])
      refine at_app (sz := 2) (n := L.length) gx_ok rfl rfl rfl rfl rfl (by decide) rfl rfl ⟨_, rfl⟩ rfl rfl hI20.own hs20 (by intro u hu; simp [DV.cells] at hu; rcases hu with rfl | rfl <;> rfl) (by unfold maxLen; omega) (by show _ * 32 ≤ _; omega) (hI20.e.size) ?_
      intro A' c' w21 hm21 ho21 hv21
      have hI21 := hI20.put ht (x := ⟨PA, pn, pc, D1, D2⟩) (hP11.ext hE20) hSv hrow11 hm21 ho21 hv21
      refine norm_i64_to ((L.length + 1 : Nat) : Int) (by show ((L.length : Nat) : Int) + 1 = _; omega) (by omega) ?_
      exact ⟨(L ++ [⟨PA, pn, pc, D1, D2⟩], A', c'), by simp only [List.length_append, List.length_cons, List.length_nil]; rfl, ⟨hI21, by show (L ++ [_]).length ≤ n; simp only [List.length_append, List.length_cons, List.length_nil]; omega⟩, by show n - (L ++ [_]).length < n - L.length; simp only [List.length_append, List.length_cons, List.length_nil]; omega⟩
    | and a b =>
      obtain ⟨j, l, hj, hl, hxj, hra, hrb⟩ := ht
      have hxx : x = ⟨4, 0, (j : Nat), (l : Nat)⟩ := Option.some.inj (hx.symm.trans hxj)
      subst hxx
      obtain ⟨y, u, hy, hu, hyS, hyM, hyr⟩ := hI9.got j hj
      obtain rfl : u = a := RepF.det hu hra
      obtain ⟨z, u', hz, hu', hzS, hzM, hzr⟩ := hI9.got l hl
      obtain rfl : u' = b := RepF.det hu' hrb
      have ht : RepF f (.and u u') L.length := ⟨j, l, hj, hl, hxj, hra, hrb⟩
      obtain ⟨ad, hAe, hcl⟩ := hI9.own.sl.at_ (by omega)
      subst hAe
      have hadb : ad.block < w4.heap.size := (hrows ad.block ⟨ad, rfl, rfl⟩).2
      refine wif_eqf (show ¬ (4 : Int) = 2 by decide) ?_
      refine wif_eqf (show ¬ (4 : Int) = 3 by decide) ?_
      refine wif_eqt rfl ?_
      refine draw_plan gx_ok (Mod (· = w7.heap.size) w9) 16 [(true, 0), (true, 1), (true, 2), (true, 3), (true, 4), (true, 5), (true, 6), (true, 7), (true, 8), (true, 9), (false, 10), (true, 11), (true, 12), (true, 13), (false, 14), (true, 15)] (by kernel_rfl) (Mod.of_ext _ (Ext.drew w9)) ?_
      have hn6 : ¬ w4.heap.size = w7.heap.size := by omega
      refine qload (v := .int .i64 (j : Nat)) (fun w' hw' => by rw [(hB69.mod hw' hn6).cell]; rfl) ?_
      refine index_n (j := j) hj ?_
      refine qloadN (vs := y.cells) rfl (fun w' hw' i v hi => hw'.cell (by rw [add_add]; exact hcl _ _ (flat_get dv_len _ _ _ _ _ hy hi)) (by rw [block_add, block_add]; omega)) ?_
      refine qload (v := .int .i64 (l : Nat)) (fun w' hw' => by rw [(hB69.mod hw' hn6).cell]; rfl) ?_
      refine index_n (j := l) hl ?_
      refine qloadN (vs := z.cells) rfl (fun w' hw' i v hi => hw'.cell (by rw [add_add]; exact hcl _ _ (flat_get dv_len _ _ _ _ _ hz hi)) (by rw [block_add, block_add]; omega)) ?_
      refine call (rand_fn hk y.A y.n y.c z.A z.n z.c _ (hyS.ext (Ext.drew w9)) (hzS.ext (Ext.drew w9)) hyM hzM) ?_
      rintro _ w10 ⟨PA, pn, pc, D1, D2, rfl, hE10', hP10, hSv0, hR10'⟩
      have hE10 : Ext w9 w10 := (Ext.drew w9).trans hE10'
      have hzd := (Ext.drew w9).size
      have hR10 : ∀ i, rowS PA i → w9.heap.size ≤ i := fun i hi => by have := hR10' i hi; omega
      have hSv : Set1 k D1 D2 (evF (.and u u')) := hSv0.congr (fun e => by simp [opB, evF])
      refine ⟨Mod.of_ext _ hE10, ?_⟩
      refine storeN_blk0 (hB9.ext hE10) rfl (sc rfl) (fun w11 hg11 hz11 hB11 => ?_)
      have hM11 : Mod (· = w7.heap.size) w10 w11 := Mod.of_grown hg11 rfl
      have hE911 : Ext w6 w11 := hM11.ext (hE69.trans hE10) (fun i hi => by omega)
      have hI11 := (hI.ext hE46).ext hE911
      refine ⟨(Mod.of_ext (· = w7.heap.size) hE10).trans hM11 (fun i hi => .inl hi), ?_⟩
      have hz10 := hE10.size
      have hP11 := hP10.modr hM11 (fun ad e h0 hh => by have := hR10 ad.block ⟨ad, e, rfl⟩; omega)
      have hrow11 : ∀ ae, PA = some ae → 0 < pn → ¬ rowS (some ad) ae.block ∧ w2.heap.size ≤ ae.block := fun ae e _ => ⟨fun hh => by
        have h1 := hR10 ae.block ⟨ae, e, rfl⟩
        have h2 := (hrows _ hh).2
        omega, by have h1 := hR10 ae.block ⟨ae, e, rfl⟩; omega⟩
      refine wif_nef rfl ?_
      refine loadN_blk0 hB11 rfl ?_
      refine at_buildN gx_ok [(⟨PA, pn, pc, D1, D2⟩ : DV).cells] rfl rfl rfl rfl rfl ⟨rfl, rfl, ⟨⟩⟩ rfl (fun cs h => by simp only [List.mem_singleton] at h; subst h; rfl) rfl (by decide) (by decide) ?_
      intro w20 hE20 hz20 hB20
      have hI20 := hI11.ext hE20
      have hs20 : Sl w20 2 (some ⟨w11.heap.size, 0, none⟩) 1 1 (⟨PA, pn, pc, D1, D2⟩ : DV).cells := Sl.own (sz := 2) (n := 1) hB20 (Nat.le_refl _) (by decide) (by simp [DV.cells])
      refine at_app (sz := 2) (n := L.length) gx_ok rfl rfl rfl rfl rfl (by decide) rfl rfl ⟨_, rfl⟩ rfl rfl hI20.own hs20 (by intro u hu; simp [DV.cells] at hu; rcases hu with rfl | rfl <;> rfl) (by unfold maxLen; omega) (by show _ * 32 ≤ _; omega) (hI20.e.size) ?_
      intro A' c' w21 hm21 ho21 hv21
      have hI21 := hI20.put ht (x := ⟨PA, pn, pc, D1, D2⟩) (hP11.ext hE20) hSv hrow11 hm21 ho21 hv21
      refine norm_i64_to ((L.length + 1 : Nat) : Int) (by show ((L.length : Nat) : Int) + 1 = _; omega) (by omega) ?_
      exact ⟨(L ++ [⟨PA, pn, pc, D1, D2⟩], A', c'), by simp only [List.length_append, List.length_cons, List.length_nil]; rfl, ⟨hI21, by show (L ++ [_]).length ≤ n; simp only [List.length_append, List.length_cons, List.length_nil]; omega⟩, by show n - (L ++ [_]).length < n - L.length; simp only [List.length_append, List.length_cons, List.length_nil]; omega⟩
    | or a b =>
      obtain ⟨j, l, hj, hl, hxj, hra, hrb⟩ := ht
      have hxx : x = ⟨5, 0, (j : Nat), (l : Nat)⟩ := Option.some.inj (hx.symm.trans hxj)
      subst hxx
      obtain ⟨y, u, hy, hu, hyS, hyM, hyr⟩ := hI9.got j hj
      obtain rfl : u = a := RepF.det hu hra
      obtain ⟨z, u', hz, hu', hzS, hzM, hzr⟩ := hI9.got l hl
      obtain rfl : u' = b := RepF.det hu' hrb
      have ht : RepF f (.or u u') L.length := ⟨j, l, hj, hl, hxj, hra, hrb⟩
      obtain ⟨ad, hAe, hcl⟩ := hI9.own.sl.at_ (by omega)
      subst hAe
      have hadb : ad.block < w4.heap.size := (hrows ad.block ⟨ad, rfl, rfl⟩).2
      refine wif_eqf (show ¬ (5 : Int) = 2 by decide) ?_
      refine wif_eqf (show ¬ (5 : Int) = 3 by decide) ?_
      refine wif_eqf (show ¬ (5 : Int) = 4 by decide) ?_
      refine wif_eqt rfl ?_
      refine draw_plan gx_ok (Mod (· = w7.heap.size) w9) 16 [(true, 0), (true, 1), (true, 2), (true, 3), (true, 4), (true, 5), (true, 6), (true, 7), (true, 8), (true, 9), (false, 10), (true, 11), (true, 12), (true, 13), (false, 14), (true, 15)] (by kernel_rfl) (Mod.of_ext _ (Ext.drew w9)) ?_
      have hn6 : ¬ w4.heap.size = w7.heap.size := by omega
      refine qload (v := .int .i64 (j : Nat)) (fun w' hw' => by rw [(hB69.mod hw' hn6).cell]; rfl) ?_
      refine index_n (j := j) hj ?_
      refine qloadN (vs := y.cells) rfl (fun w' hw' i v hi => hw'.cell (by rw [add_add]; exact hcl _ _ (flat_get dv_len _ _ _ _ _ hy hi)) (by rw [block_add, block_add]; omega)) ?_
      refine qload (v := .int .i64 (l : Nat)) (fun w' hw' => by rw [(hB69.mod hw' hn6).cell]; rfl) ?_
      refine index_n (j := l) hl ?_
      refine qloadN (vs := z.cells) rfl (fun w' hw' i v hi => hw'.cell (by rw [add_add]; exact hcl _ _ (flat_get dv_len _ _ _ _ _ hz hi)) (by rw [block_add, block_add]; omega)) ?_
      refine call (ror_fn hk y.A y.n y.c z.A z.n z.c _ (hyS.ext (Ext.drew w9)) (hzS.ext (Ext.drew w9)) hyM hzM) ?_
      rintro _ w10 ⟨PA, pn, pc, D1, D2, rfl, hE10', hP10, hSv0, hR10'⟩
      have hE10 : Ext w9 w10 := (Ext.drew w9).trans hE10'
      have hzd := (Ext.drew w9).size
      have hR10 : ∀ i, rowS PA i → w9.heap.size ≤ i := fun i hi => by have := hR10' i hi; omega
      have hSv : Set1 k D1 D2 (evF (.or u u')) := hSv0.congr (fun e => by simp [opB, evF])
      refine ⟨Mod.of_ext _ hE10, ?_⟩
      refine storeN_blk0 (hB9.ext hE10) rfl (sc rfl) (fun w11 hg11 hz11 hB11 => ?_)
      have hM11 : Mod (· = w7.heap.size) w10 w11 := Mod.of_grown hg11 rfl
      have hE911 : Ext w6 w11 := hM11.ext (hE69.trans hE10) (fun i hi => by omega)
      have hI11 := (hI.ext hE46).ext hE911
      refine ⟨(Mod.of_ext (· = w7.heap.size) hE10).trans hM11 (fun i hi => .inl hi), ?_⟩
      have hz10 := hE10.size
      have hP11 := hP10.modr hM11 (fun ad e h0 hh => by have := hR10 ad.block ⟨ad, e, rfl⟩; omega)
      have hrow11 : ∀ ae, PA = some ae → 0 < pn → ¬ rowS (some ad) ae.block ∧ w2.heap.size ≤ ae.block := fun ae e _ => ⟨fun hh => by
        have h1 := hR10 ae.block ⟨ae, e, rfl⟩
        have h2 := (hrows _ hh).2
        omega, by have h1 := hR10 ae.block ⟨ae, e, rfl⟩; omega⟩
      refine wif_nef rfl ?_
      refine loadN_blk0 hB11 rfl ?_
      refine at_buildN gx_ok [(⟨PA, pn, pc, D1, D2⟩ : DV).cells] rfl rfl rfl rfl rfl ⟨rfl, rfl, ⟨⟩⟩ rfl (fun cs h => by simp only [List.mem_singleton] at h; subst h; rfl) rfl (by decide) (by decide) ?_
      intro w20 hE20 hz20 hB20
      have hI20 := hI11.ext hE20
      have hs20 : Sl w20 2 (some ⟨w11.heap.size, 0, none⟩) 1 1 (⟨PA, pn, pc, D1, D2⟩ : DV).cells := Sl.own (sz := 2) (n := 1) hB20 (Nat.le_refl _) (by decide) (by simp [DV.cells])
      refine at_app (sz := 2) (n := L.length) gx_ok rfl rfl rfl rfl rfl (by decide) rfl rfl ⟨_, rfl⟩ rfl rfl hI20.own hs20 (by intro u hu; simp [DV.cells] at hu; rcases hu with rfl | rfl <;> rfl) (by unfold maxLen; omega) (by show _ * 32 ≤ _; omega) (hI20.e.size) ?_
      intro A' c' w21 hm21 ho21 hv21
      have hI21 := hI20.put ht (x := ⟨PA, pn, pc, D1, D2⟩) (hP11.ext hE20) hSv hrow11 hm21 ho21 hv21
      refine norm_i64_to ((L.length + 1 : Nat) : Int) (by show ((L.length : Nat) : Int) + 1 = _; omega) (by omega) ?_
      exact ⟨(L ++ [⟨PA, pn, pc, D1, D2⟩], A', c'), by simp only [List.length_append, List.length_cons, List.length_nil]; rfl, ⟨hI21, by show (L ++ [_]).length ≤ n; simp only [List.length_append, List.length_cons, List.length_nil]; omega⟩, by show n - (L ++ [_]).length < n - L.length; simp only [List.length_append, List.length_cons, List.length_nil]; omega⟩
  · have hsn : L.length = n := by simp only at h1; omega
    obtain ⟨y, u, hy, hu, hyS, hyM, hyr⟩ := hI.got (L.length - 1) (by omega)
    have htr := treeOf_eq (f := f) (t := u) (by rw [show f.length - 1 = L.length - 1 by omega]; exact hu)
    refine norm_i64_to ((L.length - 1 : Nat) : Int) (by show ((L.length : Nat) : Int) - 1 = _; omega) (by omega) ?_
    refine index_sls dv_len (l := L) (j := L.length - 1) ⟨hI.own.sl, rfl⟩ rfl (by omega) (fun p2 y2 hy2 hc2 => ?_)
    have hyy : y2 = y := Option.some.inj (hy2.symm.trans hy)
    subst hyy
    refine loadN_at (vs := y2.cells) rfl hc2 ?_
    have hB4 := (hB1.ext hE2).ext hI.e
    refine storeN_blk0 hB4 rfl (sc rfl) (fun w5 hg5 hz5 hB5 => ?_)
    have hM5 : Mod (· = w.heap.size) w4 w5 := Mod.of_grown hg5 rfl
    refine loadN_blk0 hB5 rfl ?_
    exact ⟨y2.A, y2.n, y2.c, y2.nd, y2.r, rfl, hM5.ext hE4 (fun i hi => by omega), hyS.modr hM5 (fun ad e h0 hh => by have := (hyr ad e h0).2; omega), by rw [htr]; exact hyM⟩
end Go.Proofs.YtdbhjlpkopnebaaGreatDoor
