/-
  The program's operations on diagrams: sides, branch, check, limited, constants, conditions.
  Conditions: none.
-/
import Derived.Test.YtedopgkbajhanaaGreatDoorKh
namespace Go.Proofs.YtedopgkbajhanaaGreatDoor
open Go Go.RowKit

theorem dsides_fn (A : Option Addr) (n c : Nat) (r m v : Int) (nd : List Br) (w : World) (h : SB w A n c nd) (hm : m < n + 2) (h64 : v < 64) :
    Fn Tryz.prog 102 [dgV A n c r, .int .i64 m, .int .i64 v] w (fun u w' => u = .tuple #[.int .i64 (sideD nd m v).1, .int .i64 (sideD nd m v).2] ∧ Ext w w') := by
  have hlen := h.2
  have hcap : n ≤ 9223372036854775807 := by have := h.1.le; have := h.1.cap; simp only [maxLen] at this; omega
  refine fn_of_exec (c := { c102 with cuts := [] }) gx_ok Tryz.func102 rfl rfl rfl ?_
  refine new (fun w1 hE1 hz1 hB1 => ?_)
  refine loadN_blk0 hB1 rfl ?_
  refine call (level_fn A n c r m nd w1 (h.ext hE1) hm) ?_
  rintro u w2 ⟨rfl, hE2⟩
  have hE02 := hE1.trans hE2
  have hB2 := hB1.ext hE2
  refine wif_ne (fun c1 => ?_) (fun c1 => ?_)
  · exact ⟨by unfold sideD; rw [if_pos c1], hE02⟩
  · have h2n : ¬ m < 2 := fun h2 => by
      unfold lvlD at c1
      rw [if_pos h2] at c1
      omega
    have hx := List.getElem?_eq_getElem (show (m - 2).toNat < nd.length by omega)
    generalize nd[(m - 2).toNat] = b at hx
    have e : sideD nd m v = (b.l, b.h) := by unfold sideD; rw [if_neg (by omega), hx]
    rw [e]
    refine draw_plan gx_ok (Ext w2) 16 [(true, 0), (true, 1), (true, 2), (true, 3), (true, 4), (true, 5), (true, 6), (true, 7), (true, 8), (true, 9), (true, 10), (true, 11), (true, 12), (true, 13), (true, 14), (true, 15)] (by kernel_rfl) (Ext.drew w2) ?_
    refine qload (v := .slice A n c) (fun w' hw' => by rw [(hB2.ext hw').cell]; rfl) ?_
    refine norm_i64_to (((m - 2).toNat : Nat) : Int) (by omega) (by omega) ?_
    refine index_sls br_len (h.ext hE02) rfl (by omega) (fun p z hz hc => ?_)
    have hzb : z = b := Option.some.inj (hz.symm.trans hx)
    subst hzb
    refine qload (v := .int .i64 z.l) (fun w' hw' => hw'.cell (hc 1 _ rfl)) ?_
    refine qload (v := .slice A n c) (fun w' hw' => by rw [(hB2.ext hw').cell]; rfl) ?_
    refine norm_i64_to (((m - 2).toNat : Nat) : Int) (by omega) (by omega) ?_
    refine index_sls br_len (h.ext hE02) rfl (by omega) (fun p' z' hz' hc' => ?_)
    have hzb' : z' = z := Option.some.inj (hz'.symm.trans hx)
    subst hzb'
    refine qload (v := .int .i64 z'.h) (fun w' hw' => hw'.cell (hc' 2 _ rfl)) ?_
    exact ⟨rfl, hE02.trans (Ext.drew w2)⟩

/-! ### The builder -/
def idxV (nd : List Br) (b : Br) : Option Value := (fstIdx b nd).map fun i => .int .i64 ((i + 2 : Nat) : Int)
/-- A builder: its branches, and the map that knows them. -/
structure Bd (w : World) (base pb km : Nat) (NA : Option Addr) (nc : Nat) (nd : List Br) : Prop where
  blk : Blk w pb 159 [.slice NA nd.length nc, .map (some km)]
  own : Own w base 116 3 NA nd.length nc (brV nd)
  known : ∃ m, MapQ brK w km m ∧ ∀ b, assoc b m = idxV nd b
  lt : pb < base ∧ km < base ∧ pb ≠ km
  top : base ≤ w.heap.size
theorem Bd.ext {w w' : World} {base pb km : Nat} {NA : Option Addr} {nc : Nat} {nd : List Br} (h : Bd w base pb km NA nc nd) (k : Ext w w') : Bd w' base pb km NA nc nd :=
  ⟨h.blk.ext k, h.own.ext k, let ⟨m, h1, h2⟩ := h.known; ⟨m, h1.ext k, h2⟩, h.lt, Nat.le_trans h.top k.size⟩
def BS (pb km : Nat) (NA : Option Addr) : Nat → Prop := fun k => k = pb ∨ k = km ∨ rowS NA k
theorem BS.moved {w : World} {pb km : Nat} {A A' : Option Addr} (h : Moved w A A') : ∀ k, BS pb km A' k → BS pb km A k ∨ w.heap.size ≤ k := by
  rintro k (rfl | rfl | hk)
  · exact .inl (.inl rfl)
  · exact .inl (.inr (.inl rfl))
  · rcases h.rows k hk with h | h
    · exact .inl (.inr (.inr h))
    · exact .inr h
def BdTo (w : World) (base pb km : Nat) (NA : Option Addr) (nd : List Br) (w' : World) : Prop := ∃ NA' nc', Bd w' base pb km NA' nc' nd ∧ Mod (BS pb km NA) w w' ∧ Moved w NA NA'

theorem fst_snoc (b x : Br) : ∀ l : List Br, fstIdx x l = none → fstIdx b (l ++ [x]) = if b = x then some l.length else fstIdx b l
  | [], _ => by
    show (if x = b then some 0 else (none : Option Nat).map (· + 1)) = _
    by_cases h : x = b
    · rw [if_pos h, if_pos h.symm]; rfl
    · rw [if_neg h, if_neg (fun e => h e.symm)]; rfl
  | y :: l, hx => by
    have hy : y ≠ x := fun e => by rw [fstIdx, if_pos e] at hx; cases hx
    have hl : fstIdx x l = none := by
      rw [fstIdx, if_neg hy] at hx
      cases hh : fstIdx x l with
      | none => rfl
      | some k => rw [hh] at hx; cases hx
    have ih := fst_snoc b x l hl
    show (if y = b then some 0 else (fstIdx b (l ++ [x])).map (· + 1)) = if b = x then some (l.length + 1) else if y = b then some 0 else (fstIdx b l).map (· + 1)
    rw [ih]
    by_cases h1 : b = x
    · rw [if_pos h1, if_pos h1, if_neg (fun e => hy (e.trans h1))]; rfl
    · rw [if_neg h1, if_neg h1]

theorem uniq_some {b : Br} {nd : List Br} {i : Nat} (h : b.l ≠ b.h) (k : fstIdx b nd = some i) : uniqD b nd = (nd, ((i + 2 : Nat) : Int)) := by unfold uniqD; rw [if_neg h, k]
theorem uniq_none {b : Br} {nd : List Br} (h : b.l ≠ b.h) (k : fstIdx b nd = none) : uniqD b nd = (nd ++ [b], ((nd.length + 2 : Nat) : Int)) := by unfold uniqD; rw [if_neg h, k]

theorem dbranch_fn (base pb km : Nat) (NA : Option Addr) (nc : Nat) (nd : List Br) (b : Br) (w : World) (h : Bd w base pb km NA nc nd) (hl : nd.length + 1 ≤ 1000000000000) :
    Fn Tryz.prog 136 [.pointer (some ⟨pb, 0, none⟩), .int .i64 b.v, .int .i64 b.l, .int .i64 b.h] w (fun u w' => u = .int .i64 (uniqD b nd).2 ∧ BdTo w base pb km NA (uniqD b nd).1 w') := by
  obtain ⟨p1, p2, p3⟩ := h.lt
  have htop := h.top
  have hrows := h.own.rows
  refine fn_of_exec (c := { c136 with cuts := [] }) gx_ok Tryz.func136 rfl rfl rfl ?_
  refine wif_eq (fun c1 => ?_) (fun c1 => ?_)
  · have e : uniqD b nd = (nd, b.l) := by unfold uniqD; rw [if_pos c1]
    rw [e]
    exact ⟨rfl, NA, nc, h, Mod.refl _ _, Moved.refl _ _⟩
  refine new (fun w1 hE1 hz1 hB1 => ?_)
  refine storeN_blk0 hB1 rfl (sc rfl) (fun w2 hg2 hz2 hB2 => ?_)
  have hE2 : Ext w w2 := newBox hE1 hB1 hg2
  replace hB2 : Blk w2 w.heap.size 116 b.cells := hB2
  have h2 := h.ext hE2
  obtain ⟨m, hm, hmem⟩ := h2.known
  refine draw_plan gx_ok (Ext w2) 11 [(true, 0), (true, 1), (true, 2), (true, 3), (true, 4), (false, 5), (true, 6), (true, 7), (true, 8), (true, 9), (true, 10)] (by kernel_rfl) (Ext.drew w2) ?_
  refine qload (v := .map (some km)) (fun w' hw' => by rw [(h2.blk.ext hw').cell]; rfl) ?_
  refine qloadN (vs := b.cells) rfl (fun w' hw' j v hj => by rw [(hB2.ext hw').cell]; exact hj) ?_
  refine at_lookupQ_ok (kv := brK) (a := b) gx_ok rfl rfl rfl rfl brKey rfl rfl (hm.ext (Ext.drew w2)) ?_
  refine ⟨Ext.drew w2, ?_⟩
  have hE02 := hE2.trans (Ext.drew w2)
  have hB3 := hB2.ext (Ext.drew w2)
  have h3 := h2.ext (Ext.drew w2)
  have hm3 := hm.ext (Ext.drew w2)
  have hz3 : w2.heap.size ≤ w2.drew.heap.size := (Ext.drew w2).size
  generalize w2.drew = w3 at *
  cases hf : fstIdx b nd with
  | some i =>
    have ha : assoc b m = some (.int .i64 ((i + 2 : Nat) : Int)) := by rw [hmem, idxV, hf]; rfl
    have hx0 := uniq_some c1 hf
    refine wif_not (wif_t (by rw [ha]; rfl) ?_)
    rw [hx0]
    exact ⟨by rw [ha]; rfl, NA, nc, h3, Mod.of_ext _ hE02, Moved.refl _ _⟩
  | none =>
    have ha : assoc b m = none := by rw [hmem, idxV, hf]; rfl
    have hx0 := uniq_none c1 hf
    refine wif_not (wif_f (by rw [ha]; rfl) ?_)
    rw [hx0]
    have n3 : w1.heap.size = w.heap.size + 1 := hz1
    have hpr : ¬ rowS NA pb := fun hr => by have := (hrows _ hr).1; omega
    have hxr : ¬ rowS NA w.heap.size := fun hr => by have := (hrows _ hr).2; omega
    refine draw_plan gx_ok (Mod (rowS NA) w3) 8 [(true, 0), (true, 1), (true, 2), (true, 3), (true, 4), (true, 5), (false, 6), (false, 7)] (by kernel_rfl) (Mod.of_ext _ (Ext.drew w3)) ?_
    refine qload (v := .slice NA nd.length nc) (fun w' hw' => by rw [(h3.blk.mod hw' hpr).cell]; rfl) ?_
    refine qloadN (vs := b.cells) rfl (fun w' hw' j v hj => by rw [(hB3.mod hw' hxr).cell]; exact hj) ?_
    refine at_buildN gx_ok [b.cells] rfl rfl rfl rfl rfl ⟨rfl, rfl, ⟨⟩⟩ rfl (fun cs h => by simp only [List.mem_singleton] at h; subst h; rfl) rfl (by decide) (by decide) ?_
    intro w4 hE4 hz4 hB4
    have hE34 := (Ext.drew w3).trans hE4
    have h4 := h3.ext hE34
    refine ⟨Mod.of_ext _ hE34, ?_⟩
    have hs4 : Sl w4 3 (some ⟨w3.drew.heap.size, 0, none⟩) 1 1 b.cells := Sl.own (sz := 3) (n := 1) hB4 (Nat.le_refl _) (by decide) (by simp [Br.cells])
    refine at_app (n := nd.length) gx_ok rfl rfl rfl rfl rfl (by decide) rfl rfl ⟨_, rfl⟩ rfl rfl h4.own hs4 (by intro u hu; simp [Br.cells] at hu; rcases hu with rfl | rfl | rfl <;> rfl) (by unfold maxLen; omega) (by show _ * 24 ≤ _; omega) h4.top ?_
    intro A' c' w5 hm5 hown5 hmv5
    have hM35 : Mod (rowS NA) w3 w5 := (Mod.of_ext (rowS NA) hE34).trans hm5 (fun i hi => .inl hi)
    refine ⟨hM35, ?_⟩
    have hz5 := hM35.size
    have hz34 := hE34.size
    have hz02 := hE02.size
    refine store_mod (h3.blk.mod hM35 hpr) (by simp) (fun w6 hm6 hB6 => ?_)
    have hz6 := hm6.size
    have ar : ∀ i, rowS A' i → base ≤ i := fun i hi => (hown5.rows i hi).1
    have hB6' : Blk w6 pb 159 [.slice A' (nd.length + 1) c', .map (some km)] := hB6
    refine load_blk0 hB6' rfl ?_
    refine norm_i64_to ((nd.length + 2 : Nat) : Int) (by show ((nd.length + 1 : Nat) : Int) + 1 = _; omega) (by omega) ?_
    have hx6 := (hB3.mod hM35 hxr).mod hm6 (by show ¬ w.heap.size = pb; omega)
    have hq6 : MapQ brK w6 km m := (hm3.mod hM35 (fun hr => by have := (hrows _ hr).1; omega)).mod hm6 (by show ¬ km = pb; omega)
    refine draw_plan gx_ok (Ext w6) 6 [(true, 0), (true, 1), (true, 2), (true, 3), (true, 4), (true, 5)] (by kernel_rfl) (Ext.drew w6) ?_
    refine qload (v := .map (some km)) (fun w' hw' => by rw [(hB6'.ext hw').cell]; rfl) ?_
    refine qloadN (vs := b.cells) rfl (fun w' hw' j v hj => by rw [(hx6.ext hw').cell]; exact hj) ?_
    refine at_mapUpdateQ (kv := brK) (a := b) gx_ok rfl rfl rfl rfl brKey rfl rfl rfl (hq6.ext (Ext.drew w6)) (fun w8 hm8 hz8 hq8 => ?_)
    have hM68 : Mod (· = km) w6 w8 := (Mod.of_ext (· = km) (Ext.drew w6)).trans hm8 (fun i hi => .inl hi)
    have hM3 : Mod (BS pb km NA) w w3 := Mod.of_ext _ hE02
    have hM5 : Mod (BS pb km NA) w w5 := hM3.trans hM35 (fun i hi => .inl (.inr (.inr hi)))
    have hM6 : Mod (BS pb km NA) w w6 := hM5.trans hm6 (fun i hi => .inl (.inl hi))
    have hM8 : Mod (BS pb km NA) w w8 := hM6.trans hM68 (fun i hi => .inl (.inr (.inl hi)))
    have el : (nd ++ [b]).length = nd.length + 1 := by simp
    refine ⟨rfl, A', c', ⟨?_, ?_, ⟨_, hq8, fun x => ?_⟩, h.lt, Nat.le_trans htop hM8.size⟩, hM8, hmv5.back (by omega)⟩
    · rw [el]; exact hB6'.mod hM68 (by show ¬ pb = km; omega)
    · rw [el, brV_snoc]
      exact (hown5.mod hm6 (fun i hi e => by have := ar i hi; have e' : i = pb := e; omega)).mod hM68 (fun i hi e => by have := ar i hi; have e' : i = km := e; omega)
    · rw [assoc_set, hmem, idxV, idxV, fst_snoc x b nd hf]
      by_cases hxb : x = b
      · rw [if_pos hxb, if_pos hxb]; rfl
      · rw [if_neg hxb, if_neg hxb]

/-! ### Check of several, limited, Constant, Var, the closures -/
theorem dcheck_fn (F : Option Addr) (m cf : Nat) (L : List DV) (w : World) (h : SlS DV.cells 2 w F m cf L) (hL : ∀ x ∈ L, SB w x.A x.n x.c x.nd) :
    Fn Tryz.prog 62 [.slice F m cf] w (fun v w' => v = .int .i64 (firstD L) ∧ Ext w w') := by
  have hlen := h.2
  have hcap : m ≤ 9223372036854775807 := by have := h.1.le; have := h.1.cap; simp only [maxLen] at this; omega
  refine fn_of_exec (c := { c62 with cuts := [] }) gx_ok Tryz.func62 rfl rfl rfl ?_
  refine loop gx_ok [8] (fun s : Nat => [.int .i64 s]) (fun s w' => Ext w w' ∧ s ≤ m ∧ ∀ (j : Nat) (y : DV), j < s → L[j]? = some y → chkD y.nd y.r = 0) (fun s _ => m - s) 0 rfl ⟨Ext.refl w, Nat.zero_le _, fun j y hj => absurd hj (by omega)⟩ ?_
  rintro s w1 ⟨hE1, hs, hall⟩
  refine wif_d (fun h2 => ?_) (fun h2 => ?_)
  · refine index_sls dv_len (h.ext hE1) rfl (by omega) (fun p x hx hc => ?_)
    refine loadN_at (vs := x.cells) rfl hc ?_
    refine new (fun w2 hE2 hz2 hB2 => ?_)
    refine storeN_blk0 hB2 rfl (sc rfl) (fun w3 hg3 hz3 hB3 => ?_)
    have hE3 : Ext w w3 := hE1.trans (newBox hE2 hB2 hg3)
    refine loadN_blk0 hB3 rfl ?_
    refine call (check2_fn x.A x.n x.c x.nd x.r w3 ((hL x (List.mem_of_getElem? hx)).ext hE3)) ?_
    rintro v w4 ⟨rfl, hE4⟩
    refine wif_ne (fun c1 => ?_) (fun c1 => ?_)
    · exact ⟨by rw [firstD_hit hall hx c1], hE3.trans hE4⟩
    · refine norm_i64_to ((s + 1 : Nat) : Int) (by omega) (by omega) ?_
      refine ⟨s + 1, rfl, ⟨hE3.trans hE4, by omega, fun j y hj hy => ?_⟩, by show m - (s + 1) < m - s; omega⟩
      by_cases hjs : j < s
      · exact hall j y hjs hy
      · have : j = s := by omega
        subst this
        rw [Option.some.inj (hy.symm.trans hx)]; exact c1
  · exact ⟨by rw [firstD_none (fun j y hj hy => hall j y (by omega) hy)], hE1⟩

theorem dlimited_fn (A : Option Addr) (n c : Nat) (a : List Br) (ra : Int) (w0 w : World) (h : SB w A n c a) (hr : ∀ i, rowS A i → w0.heap.size ≤ i) (hE : Ext w0 w) :
    Fn Tryz.prog 103 [dgV A n c ra] w (DgE w0 (limD (a, ra))) := by
  have hal := h.2
  refine fn_of_exec (c := { c103 with cuts := [] }) gx_ok Tryz.func103 rfl rfl rfl ?_
  refine new (fun w1 hE1 hz1 hB1 => ?_)
  refine new (fun w2 hE2 hz2 hB2 => ?_)
  have hE02 := hE1.trans hE2
  refine load_blk0 (hB1.ext hE2) rfl ?_
  refine wif_d (fun c1 => ?_) (fun c1 => ?_)
  · have e : limD (a, ra) = (([], 0), 2) := by unfold limD; rw [if_pos (show 4096 < (a, ra).1.length by simp only; omega)]
    rw [e]
    refine storeN_blk0 hB2 rfl (sc rfl) (fun w3 hg3 _ hB3 => ?_)
    have hM3 : Mod (· = w1.heap.size) w2 w3 := Mod.of_grown hg3 rfl
    refine loadN_blk0 hB3 rfl ?_
    exact ⟨none, 0, 0, rfl, hE.trans (hM3.ext hE02 (fun i hi => by have := hE1.size; omega)), SlS.nil _, fun i ⟨_, e, _⟩ => by cases e⟩
  · have e : limD (a, ra) = ((a, ra), 0) := by unfold limD; rw [if_neg (show ¬ 4096 < (a, ra).1.length by simp only; omega)]
    rw [e]
    refine loadN_blk0 (hB1.ext hE2) rfl ?_
    refine storeN_blk0 hB2 rfl (sc rfl) (fun w3 hg3 _ hB3 => ?_)
    have hM3 : Mod (· = w1.heap.size) w2 w3 := Mod.of_grown hg3 rfl
    refine loadN_blk0 hB3 rfl ?_
    refine ⟨A, n, c, rfl, hE.trans (hM3.ext hE02 (fun i hi => by have := hE1.size; omega)), ⟨(h.ext hE02).1.modS hM3 (fun h0 i hi e => by obtain ⟨ad, rfl, rfl⟩ := hi; have := SB.lt h ad rfl h0; omega), hal⟩, hr⟩

theorem dvar_fn (k : Int) (w : World) (h0 : 0 ≤ k) (h1 : k ≤ 63) : Fn Tryz.prog 148 [.int .i64 k] w (DgE w (([⟨k, 0, 1⟩], 2), 0)) := by
  refine fn_of_exec (c := { c148 with cuts := [] }) gx_ok Tryz.func148 rfl rfl rfl ?_
  refine new (fun w1 hE1 hz1 hB1 => ?_)
  refine wif_df (by omega) ?_
  refine wif_df (by omega) ?_
  refine at_buildN gx_ok [(⟨k, 0, 1⟩ : Br).cells] rfl rfl rfl rfl rfl ⟨rfl, rfl, ⟨⟩⟩ rfl (fun cs h => by simp only [List.mem_singleton] at h; subst h; rfl) rfl (by decide) (by decide) ?_
  intro w2 hE2 hz2 hB2
  refine storeN_blk0 (hB1.ext hE2) rfl (sc rfl) (fun w3 hg3 _ hB3 => ?_)
  have hM3 : Mod (· = w.heap.size) w2 w3 := Mod.of_grown hg3 rfl
  refine loadN_blk0 hB3 rfl ?_
  refine ⟨some ⟨w1.heap.size, 0, none⟩, 1, 1, rfl, hM3.ext (hE1.trans hE2) (fun i hi => by omega), ⟨Sl.own (sz := 3) (n := 1) (hB2.mod hM3 (by omega)) (Nat.le_refl _) (by decide) (by simp [Br.cells]), rfl⟩, fun i ⟨ad, e, hi⟩ => by cases e; simp only at hi; omega⟩

theorem dconst_fn (b : Bool) (w : World) : Fn Tryz.prog 34 [.bool b] w (fun v w' => v = dgV none 0 0 (if b then 1 else 0) ∧ Ext w w') := by
  refine fn_of_exec (c := { c34 with cuts := [] }) gx_ok Tryz.func34 rfl rfl rfl ?_
  refine new (fun w1 hE1 hz1 hB1 => ?_)
  cases b with
  | true =>
    refine wif_t rfl ?_
    refine storeN_blk0 hB1 rfl (sc rfl) (fun w3 hg3 _ hB3 => ?_)
    refine loadN_blk0 hB3 rfl ?_
    exact ⟨rfl, newBox hE1 hB1 hg3⟩
  | false =>
    refine wif_f rfl ?_
    refine storeN_blk0 hB1 rfl (sc rfl) (fun w3 hg3 _ hB3 => ?_)
    refine loadN_blk0 hB3 rfl ?_
    exact ⟨rfl, newBox hE1 hB1 hg3⟩

/-- The closures and their operations. -/
def CloOp (F : Nat) (op : Int) : Prop := (F = 149 ∧ op = 0) ∨ (F = 65 ∧ op = 1) ∨ (F = 150 ∧ op = 3)
theorem clo_fn {F : Nat} {op : Int} (h : CloOp F op) (x y : Bool) (w : World) : Fn Tryz.prog F [.bool x, .bool y] w (fun v w' => v = .bool (opB op x y) ∧ w = w') := by
  rcases h with ⟨rfl, rfl⟩ | ⟨rfl, rfl⟩ | ⟨rfl, rfl⟩
  · refine fn_of_exec (c := { c149 with cuts := [] }) gx_ok Tryz.func149 rfl rfl rfl ?_
    cases x with
    | true =>
      refine wif_t rfl ?_
      exact ⟨rfl, rfl⟩
    | false =>
      refine wif_f rfl ?_
      exact ⟨rfl, rfl⟩
  · refine fn_of_exec (c := { c65 with cuts := [] }) gx_ok Tryz.func65 rfl rfl rfl ?_
    cases x with
    | true =>
      refine wif_t rfl ?_
      exact ⟨rfl, rfl⟩
    | false =>
      refine wif_f rfl ?_
      exact ⟨rfl, rfl⟩
  · refine fn_of_exec (c := { c150 with cuts := [] }) gx_ok Tryz.func150 rfl rfl rfl ?_
    exact ⟨rfl, rfl⟩
theorem bin1_fn {F : Nat} {op : Int} (h : CloOp F op) (ob : Nat) (x y z : Bool) (w : World) (hB : Blk w ob 113 [.func (.func F) #[] #[]]) :
    Fn Tryz.prog 105 [.bool x, .bool y, .bool z, .pointer (some ⟨ob, 0, none⟩)] w (fun v w' => v = .bool (opB op x y) ∧ w = w') := by
  rcases h with ⟨rfl, rfl⟩ | ⟨rfl, rfl⟩ | ⟨rfl, rfl⟩
  · refine fn_of_exec (c := { c105 with cuts := [] }) gx_ok Tryz.func105 rfl rfl rfl ?_
    refine load_blk0 hB rfl ?_
    refine call (clo_fn (op := 0) (.inl ⟨rfl, rfl⟩) x y w) ?_
    rintro _ _ ⟨rfl, rfl⟩
    exact ⟨rfl, rfl⟩
  · refine fn_of_exec (c := { c105 with cuts := [] }) gx_ok Tryz.func105 rfl rfl rfl ?_
    refine load_blk0 hB rfl ?_
    refine call (clo_fn (op := 1) (.inr (.inl ⟨rfl, rfl⟩)) x y w) ?_
    rintro _ _ ⟨rfl, rfl⟩
    exact ⟨rfl, rfl⟩
  · refine fn_of_exec (c := { c105 with cuts := [] }) gx_ok Tryz.func105 rfl rfl rfl ?_
    refine load_blk0 hB rfl ?_
    refine call (clo_fn (op := 3) (.inr (.inr ⟨rfl, rfl⟩)) x y w) ?_
    rintro _ _ ⟨rfl, rfl⟩
    exact ⟨rfl, rfl⟩
end Go.Proofs.YtedopgkbajhanaaGreatDoor
