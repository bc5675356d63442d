/-
  formula.Holds, diagram.Holds.
  Conditions: none.
-/
import Derived.Test.YtdbhjlpkopnebaaDoorDf
namespace Go.Proofs.YtdbhjlpkopnebaaDoor
open Go Go.RowKit

/-- The conditions of a configuration. -/
def bitE (c : Nat) : Nat → Bool := fun i => decide (c / 2 ^ i % 2 = 1)
theorem and_one (x : Nat) (hx : x < 18446744073709551616) : IntKind.u64.wrap ((BitVec.ofInt 64 (x : Int) &&& BitVec.ofInt 64 1).toNat) = ((x % 2 : Nat) : Int) := by
  have e : (BitVec.ofInt 64 (x : Int) &&& BitVec.ofInt 64 1).toNat = x % 2 := by
    rw [BitVec.ofInt_natCast, show BitVec.ofInt 64 1 = BitVec.ofNat 64 1 from rfl, BitVec.toNat_and, BitVec.toNat_ofNat, BitVec.toNat_ofNat]
    rw [Nat.mod_eq_of_lt (by omega), show 1 % 2 ^ 64 = 1 by decide, Nat.and_one_is_mod]
  rw [e]
  rcases (show x % 2 = 0 ∨ x % 2 = 1 by omega) with h | h <;> rw [h] <;> decide

theorem dholds_fn (A : Option Addr) (n c : Nat) (nd : List Br) (root : Int) (cfg : Nat) (hcf : cfg ≤ 18446744073709551615) (w : World) (h : SB w A n c nd) (hc : chkD nd root = 0) :
    Fn Tryd.prog 35 [dgV A n c root, .int .u64 cfg] w (fun v w' => v = .bool (ev nd root (bitE cfg)) ∧ Ext w w') := by
  have hlen := h.2
  obtain ⟨hsm, hv⟩ := chkD_zero.1 hc
  refine fn_of_exec (c := { c35 with cuts := [] }) gx_ok Tryd.func35 rfl rfl rfl ?_
  refine new (fun w1 hE1 hz1 hB1 => ?_)
  refine loadN_blk0 hB1 rfl ?_
  refine call (check2_fn A n c nd root w1 (h.ext hE1)) ?_
  rintro _ w2 ⟨rfl, hE2⟩
  have hE02 := hE1.trans hE2
  have hB2 := hB1.ext hE2
  refine wif_nef hc ?_
  refine load_blk hB2 rfl ?_
  refine loop gx_ok [5] (fun s : Int => [.int .i64 s]) (fun s w' => Ext w2 w' ∧ 0 ≤ s ∧ s < n + 2 ∧ ev nd s (bitE cfg) = ev nd root (bitE cfg)) (fun s _ => s.toNat) root rfl ⟨Ext.refl _, hv.2.1, by have := hv.2.2.1; omega, rfl⟩ ?_
  rintro s w3 ⟨hE3, s0, s1, hs⟩
  have hE03 := hE02.trans hE3
  refine wif_d (fun h1 => ?_) (fun h1 => ?_)
  · refine load_blk0 (hB2.ext hE3) rfl ?_
    refine norm_i64_to (((s - 2).toNat : Nat) : Int) (by omega) (by omega) ?_
    refine index_sls br_len (h.ext hE03) rfl (by omega) (fun p x hx hcx => ?_)
    refine loadN_at (vs := x.cells) rfl hcx ?_
    refine new (fun w4 hE4 hz4 hB4 => ?_)
    refine storeN_blk0 hB4 rfl (sc rfl) (fun w5 hg5 hz5 hB5 => ?_)
    have hE35 : Ext w3 w5 := newBox hE4 hB4 hg5
    obtain ⟨b1, b2, b3, b4, b5, b6, b7, b8, b9, b10⟩ := hv.1 _ _ hx
    have hev := ev_ge hv.wf (n := s) (e := bitE cfg) (by omega) hx
    refine load_blk0 hB5 rfl ?_
    refine norm_shr x.v.toNat (2 ^ x.v.toNat) b1 (by show min x.v.toNat 64 = _; omega) rfl ?_
    have hlt : cfg / 2 ^ x.v.toNat < 18446744073709551616 := Nat.lt_of_le_of_lt (Nat.div_le_self _ _) (by omega)
    refine norm (m := ((cfg / 2 ^ x.v.toNat % 2 : Nat) : Int)) (and_one _ hlt) ?_
    refine wif_eq (fun h2 => ?_) (fun h2 => ?_)
    · have hb : bitE cfg x.v.toNat = true := decide_eq_true (by omega)
      rw [hb, if_pos rfl] at hev
      refine load_blk hB5 rfl ?_
      exact ⟨x.h, rfl, ⟨hE3.trans hE35, b5, by omega, by rw [← hev]; exact hs⟩, by show x.h.toNat < s.toNat; omega⟩
    · have hb : bitE cfg x.v.toNat = false := decide_eq_false (by omega)
      rw [hb, if_neg (by decide)] at hev
      refine load_blk hB5 rfl ?_
      exact ⟨x.l, rfl, ⟨hE3.trans hE35, b3, by omega, by rw [← hev]; exact hs⟩, by show x.l.toNat < s.toNat; omega⟩
  · refine ⟨?_, hE03⟩
    rw [← hs, ev_lt (by omega)]
    rfl

/-! ### Formulas -/
def bvL (l : List Bool) : List Value := l.map Value.bool
theorem bvL_get {l : List Bool} {j : Nat} {b : Bool} (h : l[j]? = some b) : (bvL l)[j]? = some (.bool b) := by simp [bvL, h]
theorem bvL_set (l : List Bool) (j : Nat) (b : Bool) : bvL (l.set j b) = (bvL l).set j (.bool b) := by simp [bvL, List.map_set]
theorem bvL_len (l : List Bool) : (bvL l).length = l.length := by simp [bvL]
/-- The values so far. -/
structure FhI (w0 : World) (g : Nat) (f : List Fz) (e : Nat → Bool) (n s : Nat) (L : List Bool) (w : World) : Prop where
  m : Mod (· = g) w0 w
  blk : Blk w g 4 (bvL L)
  len : L.length = n
  got : ∀ j, j < s → ∃ t, RepF f t j ∧ L[j]? = some (evF t e)
  rest : ∀ j, s ≤ j → j < n → L[j]? = some false
theorem FhI.ext {w0 w w' : World} {g : Nat} {f : List Fz} {e : Nat → Bool} {n s : Nat} {L : List Bool} (h : FhI w0 g f e n s L w) (k1 : Ext w w') : FhI w0 g f e n s L w' :=
  ⟨h.m.trans (Mod.of_ext (· = g) k1) (fun _ hi => .inl hi), h.blk.ext k1, h.len, h.got, h.rest⟩
theorem FhI.put {w0 w w' : World} {g : Nat} {f : List Fz} {e : Nat → Bool} {n s : Nat} {L : List Bool} (h : FhI w0 g f e n s L w) (hs : s < n) {t : Fm} (ht : RepF f t s) {b : Bool} (hb : b = evF t e) (hm : Mod (· = g) w w')
    (hB : Blk w' g 4 ((bvL L).set s (.bool b))) : FhI w0 g f e n (s + 1) (L.set s b) w' := by
  have hl := h.len
  refine ⟨h.m.trans hm (fun _ hi => .inl hi), by rw [bvL_set]; exact hB, by rw [List.length_set]; exact hl, fun j hj => ?_, fun j hj hjn => ?_⟩
  · by_cases hjs : j = s
    · subst hjs
      exact ⟨t, ht, by rw [List.getElem?_set_self (by omega), hb]⟩
    · obtain ⟨u, h1, h2⟩ := h.got j (by omega)
      exact ⟨u, h1, by rw [List.getElem?_set_ne (fun e => hjs e.symm)]; exact h2⟩
  · rw [List.getElem?_set_ne (by omega)]; exact h.rest j (by omega) hjn
theorem FhI.skip {w0 w : World} {g : Nat} {f : List Fz} {e : Nat → Bool} {n s : Nat} {L : List Bool} (h : FhI w0 g f e n s L w) (hs : s < n) (ht : RepF f (.c false) s) : FhI w0 g f e n (s + 1) L w :=
  ⟨h.m, h.blk, h.len, fun j hj => by
    by_cases hjs : j = s
    · subst hjs; exact ⟨_, ht, h.rest j (Nat.le_refl _) hs⟩
    · exact h.got j (by omega), fun j hj hjn => h.rest j (by omega) hjn⟩
theorem FhI.at_ {w0 w : World} {g : Nat} {f : List Fz} {e : Nat → Bool} {n s : Nat} {L : List Bool} (h : FhI w0 g f e n s L w) {j : Nat} (hj : j < s) {t : Fm} (ht : RepF f t j) : (bvL L)[j]? = some (.bool (evF t e)) := by
  obtain ⟨u, h1, h2⟩ := h.got j hj
  rw [RepF.det ht h1]; exact bvL_get h2

open Classical in
/-- What Holds answers. -/
noncomputable def holdsP (f : List Fz) (cfg : Nat) : Bool := if FV f then evF (treeOf f) (bitE cfg) else false

theorem fholds_fn (F : Option Addr) (n cF : Nat) (f : List Fz) (cfg : Nat) (hcf : cfg ≤ 18446744073709551615) (w : World) (h : SF w F n cF f) :
    Fn Tryd.prog 27 [.slice F n cF, .int .u64 cfg] w (fun v w' => v = .bool (holdsP f cfg) ∧ Ext w w') := by
  have hn := h.2
  refine fn_of_exec (c := { c27 with cuts := [] }) gx_ok Tryd.func27 rfl rfl rfl ?_
  refine call (check_fn F n cF f w h) ?_
  rintro _ w2 ⟨rfl, hE2⟩
  by_cases hv : FV f
  rotate_left
  · refine wif_net (by rw [chkF_no hv]; decide) ?_
    exact ⟨by unfold holdsP; rw [if_neg hv], hE2⟩
  have hh : holdsP f cfg = evF (treeOf f) (bitE cfg) := if_pos hv
  have hvl := hv.1
  have hv0 := hv.2.1
  refine wif_nef (chkF_ok hv) ?_
  refine at_make gx_ok rfl rfl rfl rfl rfl rfl rfl rfl (by show 1 * n ≤ _; omega) (by unfold maxLen; omega) (fun w3 hE3 hz3 hB3 => ?_)
  have hE03 := hE2.trans hE3
  have hz2 := hE2.size
  have hB3' : Blk w3 w2.heap.size 4 (bvL (List.replicate n false)) := by unfold bvL; rw [List.map_replicate]; exact hB3
  refine loop gx_ok [16] (fun s : Nat × List Bool => [.int .i64 s.1]) (fun s w' => FhI w3 w2.heap.size f (bitE cfg) n s.1 s.2 w' ∧ s.1 ≤ n) (fun s _ => n - s.1) (0, List.replicate n false) rfl ⟨⟨Mod.refl _ _, hB3', by simp, fun j hj => absurd hj (by simp), fun j _ hj => by rw [List.getElem?_replicate, if_pos hj]⟩, Nat.zero_le _⟩ ?_
  rintro ⟨s, L⟩ w4 ⟨hI, hs⟩
  simp only at hI hs
  have hE4 : Ext w w4 := hI.m.ext hE03 (fun i hi => by omega)
  have hL := hI.len
  refine wif_d (fun h1 => ?_) (fun h1 => ?_)
  · have hsn : s < n := by simp only at h1; omega
    refine index_sls fz_len (h.ext hE4) rfl hsn (fun p x hx hc => ?_)
    refine loadN_at (vs := x.cells) rfl hc ?_
    refine new (fun w5 hE5 hz5 hB5 => ?_)
    refine storeN_blk0 hB5 rfl (sc rfl) (fun w6 hg6 hz6 hB6 => ?_)
    have hE46 : Ext w4 w6 := newBox hE5 hB5 hg6
    have hI6 := hI.ext hE46
    obtain ⟨t, ht⟩ := hv.rep (i := s) (by omega)
    have hnode := hv.2.2.1 _ _ hx
    have hbl : (bvL L).length = n := by rw [bvL_len]; exact hL
    cases t with
    | c b =>
      cases b with
      | false =>
        have hxx : x = ⟨0, 0, 0, 0⟩ := Option.some.inj (hx.symm.trans ht)
        subst hxx
        refine load_blk0 hB6 rfl ?_
        refine wif_eqf (show ¬ (0 : Int) = 1 by decide) ?_
        refine wif_eqf (show ¬ (0 : Int) = 2 by decide) ?_
        refine wif_eqf (show ¬ (0 : Int) = 3 by decide) ?_
        refine wif_eqf (show ¬ (0 : Int) = 4 by decide) ?_
        refine wif_eqf (show ¬ (0 : Int) = 5 by decide) ?_
        refine norm_i64_to ((s + 1 : Nat) : Int) (by show ((s : Nat) : Int) + 1 = _; omega) (by omega) ?_
        exact ⟨(s + 1, L), rfl, ⟨hI6.skip hsn ht, by show s + 1 ≤ n; omega⟩, by show n - (s + 1) < n - s; omega⟩
      | true =>
        have hxx : x = ⟨1, 0, 0, 0⟩ := Option.some.inj (hx.symm.trans ht)
        subst hxx
        refine load_blk0 hB6 rfl ?_
        refine wif_eqt rfl ?_
        refine index (j := s) hsn ?_
        refine store_mod (j := s) hI6.blk (by rw [hbl]; exact hsn) (fun w7 hM7 hB7 => ?_)
        have hI7 := hI6.put hsn ht (b := true) rfl hM7 hB7
        refine norm_i64_to ((s + 1 : Nat) : Int) (by show ((s : Nat) : Int) + 1 = _; omega) (by omega) ?_
        exact ⟨(s + 1, L.set s true), rfl, ⟨hI7, by show s + 1 ≤ n; omega⟩, by show n - (s + 1) < n - s; omega⟩
    | v q =>
      have hxx : x = ⟨2, (q : Nat), 0, 0⟩ := Option.some.inj (hx.symm.trans ht)
      subst hxx
      have hq : (q : Int) < 64 := by
        have := hnode.2.1
        rw [if_pos rfl] at this
        exact this.2
      refine load_blk0 hB6 rfl ?_
      refine wif_eqf (show ¬ (2 : Int) = 1 by decide) ?_
      refine wif_eqt rfl ?_
      refine load_blk hB6 rfl ?_
      refine norm_shr q (2 ^ q) (show (0 : Int) ≤ ((q : Nat) : Int) by omega) (by show min ((q : Nat) : Int).toNat 64 = _; omega) rfl ?_
      have hlt : cfg / 2 ^ q < 18446744073709551616 := Nat.lt_of_le_of_lt (Nat.div_le_self _ _) (by omega)
      refine norm (m := ((cfg / 2 ^ q % 2 : Nat) : Int)) (and_one _ hlt) ?_
      have hbit : (((cfg / 2 ^ q % 2 : Nat) : Int) == 1) = evF (.v q) (bitE cfg) := by
        show _ = decide (cfg / 2 ^ q % 2 = 1)
        rcases (show cfg / 2 ^ q % 2 = 0 ∨ cfg / 2 ^ q % 2 = 1 by omega) with h | h <;> rw [h] <;> rfl
      refine index (j := s) hsn ?_
      refine store_mod (j := s) hI6.blk (by rw [hbl]; exact hsn) (fun w7 hM7 hB7 => ?_)
      have hI7 := hI6.put hsn ht (b := (((cfg / 2 ^ q % 2 : Nat) : Int) == 1)) hbit hM7 hB7
      refine norm_i64_to ((s + 1 : Nat) : Int) (by show ((s : Nat) : Int) + 1 = _; omega) (by omega) ?_
      exact ⟨(s + 1, L.set s (((cfg / 2 ^ q % 2 : Nat) : Int) == 1)), rfl, ⟨hI7, by show s + 1 ≤ n; omega⟩, by show n - (s + 1) < n - s; omega⟩
    | not a =>
      obtain ⟨j, hj, hxj, hra⟩ := ht
      have hxx : x = ⟨3, 0, (j : Nat), 0⟩ := Option.some.inj (hx.symm.trans hxj)
      subst hxx
      have hga := hI6.at_ hj hra
      have ht : RepF f (.not a) s := ⟨j, hj, hxj, hra⟩
      have hjn : j < n := by omega
      refine load_blk0 hB6 rfl ?_
      refine wif_eqf (show ¬ (3 : Int) = 1 by decide) ?_
      refine wif_eqf (show ¬ (3 : Int) = 2 by decide) ?_
      refine wif_eqt rfl ?_
      refine load_blk hB6 rfl ?_
      refine index (j := j) hjn ?_
      refine load_blk hI6.blk hga ?_
      refine index (j := s) hsn ?_
      refine store_mod (j := s) hI6.blk (by rw [hbl]; exact hsn) (fun w7 hM7 hB7 => ?_)
      have hI7 := hI6.put hsn ht (b := (!(evF a (bitE cfg)))) rfl hM7 hB7
      refine norm_i64_to ((s + 1 : Nat) : Int) (by show ((s : Nat) : Int) + 1 = _; omega) (by omega) ?_
      exact ⟨(s + 1, L.set s (!(evF a (bitE cfg)))), rfl, ⟨hI7, by show s + 1 ≤ n; omega⟩, by show n - (s + 1) < n - s; omega⟩
    | and a b =>
      obtain ⟨j, l, hj, hl, hxj, hra, hrb⟩ := ht
      have hxx : x = ⟨4, 0, (j : Nat), (l : Nat)⟩ := Option.some.inj (hx.symm.trans hxj)
      subst hxx
      have hga := hI6.at_ hj hra
      have hgb := hI6.at_ hl hrb
      have ht : RepF f (.and a b) s := ⟨j, l, hj, hl, hxj, hra, hrb⟩
      have hjn : j < n := by omega
      have hln : l < n := by omega
      refine load_blk0 hB6 rfl ?_
      refine wif_eqf (show ¬ (4 : Int) = 1 by decide) ?_
      refine wif_eqf (show ¬ (4 : Int) = 2 by decide) ?_
      refine wif_eqf (show ¬ (4 : Int) = 3 by decide) ?_
      refine wif_eqt rfl ?_
      refine load_blk hB6 rfl ?_
      refine index (j := j) hjn ?_
      refine load_blk hI6.blk hga ?_
      cases hea : evF a (bitE cfg) with
      | true =>
        refine wif_t rfl ?_
        refine load_blk hB6 rfl ?_
        refine index (j := l) hln ?_
        refine load_blk hI6.blk hgb ?_
        refine index (j := s) hsn ?_
        refine store_mod (j := s) hI6.blk (by rw [hbl]; exact hsn) (fun w7 hM7 hB7 => ?_)
        have hI7 := hI6.put hsn ht (b := (evF b (bitE cfg))) (by simp [evF, hea]) hM7 hB7
        refine norm_i64_to ((s + 1 : Nat) : Int) (by show ((s : Nat) : Int) + 1 = _; omega) (by omega) ?_
        exact ⟨(s + 1, L.set s (evF b (bitE cfg))), rfl, ⟨hI7, by show s + 1 ≤ n; omega⟩, by show n - (s + 1) < n - s; omega⟩
      | false =>
        refine wif_f rfl ?_
        refine index (j := s) hsn ?_
        refine store_mod (j := s) hI6.blk (by rw [hbl]; exact hsn) (fun w7 hM7 hB7 => ?_)
        have hI7 := hI6.put hsn ht (b := false) (by simp [evF, hea]) hM7 hB7
        refine norm_i64_to ((s + 1 : Nat) : Int) (by show ((s : Nat) : Int) + 1 = _; omega) (by omega) ?_
        exact ⟨(s + 1, L.set s false), rfl, ⟨hI7, by show s + 1 ≤ n; omega⟩, by show n - (s + 1) < n - s; omega⟩
    | or a b =>
      obtain ⟨j, l, hj, hl, hxj, hra, hrb⟩ := ht
      have hxx : x = ⟨5, 0, (j : Nat), (l : Nat)⟩ := Option.some.inj (hx.symm.trans hxj)
      subst hxx
      have hga := hI6.at_ hj hra
      have hgb := hI6.at_ hl hrb
      have ht : RepF f (.or a b) s := ⟨j, l, hj, hl, hxj, hra, hrb⟩
      have hjn : j < n := by omega
      have hln : l < n := by omega
      refine load_blk0 hB6 rfl ?_
      refine wif_eqf (show ¬ (5 : Int) = 1 by decide) ?_
      refine wif_eqf (show ¬ (5 : Int) = 2 by decide) ?_
      refine wif_eqf (show ¬ (5 : Int) = 3 by decide) ?_
      refine wif_eqf (show ¬ (5 : Int) = 4 by decide) ?_
      refine wif_eqt rfl ?_
      refine load_blk hB6 rfl ?_
      refine index (j := j) hjn ?_
      refine load_blk hI6.blk hga ?_
      cases hea : evF a (bitE cfg) with
      | true =>
        refine wif_t rfl ?_
        refine index (j := s) hsn ?_
        refine store_mod (j := s) hI6.blk (by rw [hbl]; exact hsn) (fun w7 hM7 hB7 => ?_)
        have hI7 := hI6.put hsn ht (b := true) (by simp [evF, hea]) hM7 hB7
        refine norm_i64_to ((s + 1 : Nat) : Int) (by show ((s : Nat) : Int) + 1 = _; omega) (by omega) ?_
        exact ⟨(s + 1, L.set s true), rfl, ⟨hI7, by show s + 1 ≤ n; omega⟩, by show n - (s + 1) < n - s; omega⟩
      | false =>
        refine wif_f rfl ?_
        refine load_blk hB6 rfl ?_
        refine index (j := l) hln ?_
        refine load_blk hI6.blk hgb ?_
        refine index (j := s) hsn ?_
        refine store_mod (j := s) hI6.blk (by rw [hbl]; exact hsn) (fun w7 hM7 hB7 => ?_)
        have hI7 := hI6.put hsn ht (b := (evF b (bitE cfg))) (by simp [evF, hea]) hM7 hB7
        refine norm_i64_to ((s + 1 : Nat) : Int) (by show ((s : Nat) : Int) + 1 = _; omega) (by omega) ?_
        exact ⟨(s + 1, L.set s (evF b (bitE cfg))), rfl, ⟨hI7, by show s + 1 ≤ n; omega⟩, by show n - (s + 1) < n - s; omega⟩
  · have hsn : s = n := by simp only at h1; omega
    subst hsn
    obtain ⟨u, hu, hy⟩ := hI.got (s - 1) (by omega)
    have htr := treeOf_eq (f := f) (t := u) (by rw [hn]; exact hu)
    refine norm_i64_to ((s - 1 : Nat) : Int) (by omega) (by omega) ?_
    refine index (j := s - 1) (by omega) ?_
    refine load_blk hI.blk (bvL_get hy) ?_
    exact ⟨by rw [hh, htr], hE4⟩
end Go.Proofs.YtdbhjlpkopnebaaDoor
