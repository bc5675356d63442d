/-
  The program's operations on diagrams: the closure of combine.
  Conditions: none.
-/
import Derived.Test.YtedopgkbajhanaaGreatDoorDb
namespace Go.Proofs.YtedopgkbajhanaaGreatDoor
open Go Go.RowKit

/-- The variables of combine. -/
structure CP where
  ox : Nat
  ob : Nat
  mx : Nat
  lx : Nat
  ax : Nat
  bx : Nat
  pb : Nat
  km : Nat
  mm : Nat
  F : Nat
  D : AD
def CP.caps (p : CP) : List Value := [VP.ptr p.ox, VP.ptr p.mx, VP.ptr p.lx, VP.ptr p.ax, VP.ptr p.bx]
def CP.clo (p : CP) : Value := .func (.func 135) #[] #[VP.ptr p.ox, VP.ptr p.mx, VP.ptr p.lx, VP.ptr p.ax, VP.ptr p.bx]
def CP.lC (p : CP) : List Value := [.slice p.D.A p.D.n p.D.c, .int .i64 p.D.ra, .slice p.D.B p.D.m p.D.d, .int .i64 p.D.rb, .slice none 0 0, .int .i64 0]
/-- What stays. -/
structure CK (w : World) (base : Nat) (p : CP) : Prop where
  hF : CloOp p.F p.D.op
  oxb : Blk w p.ox 176 [.func (.func 105) #[] #[VP.ptr p.ob]]
  obb : Blk w p.ob 113 [.func (.func p.F) #[] #[]]
  mxb : Blk w p.mx 197 [.map (some p.mm)]
  lxb : Blk w p.lx 175 p.lC
  axb : Blk w p.ax 198 [p.clo]
  bxb : Blk w p.bx 156 [VP.ptr p.pb]
  as_ : SB w p.D.A p.D.n p.D.c p.D.a
  bs : SB w p.D.B p.D.m p.D.d p.D.b
  off : ∀ k, k = p.ox ∨ k = p.ob ∨ k = p.mx ∨ k = p.lx ∨ k = p.ax ∨ k = p.bx → k < base ∧ k ≠ p.pb ∧ k ≠ p.km ∧ k ≠ p.mm
  rowA : ∀ ad, p.D.A = some ad → 0 < p.D.n → ad.block < base ∧ ad.block ≠ p.pb ∧ ad.block ≠ p.km ∧ ad.block ≠ p.mm
  rowB : ∀ ad, p.D.B = some ad → 0 < p.D.m → ad.block < base ∧ ad.block ≠ p.pb ∧ ad.block ≠ p.km ∧ ad.block ≠ p.mm
/-- What the closure writes. -/
def CS (p : CP) (NA : Option Addr) : Nat → Prop := fun k => k = p.mm ∨ BS p.pb p.km NA k
theorem CS.moved {w : World} {p : CP} {A A' : Option Addr} (h : Moved w A A') : ∀ k, CS p A' k → CS p A k ∨ w.heap.size ≤ k := by
  rintro k (rfl | hk)
  · exact .inl (.inl rfl)
  · rcases BS.moved h k hk with h | h
    · exact .inl (.inr h)
    · exact .inr h
theorem CS.trans {w w1 w2 : World} {p : CP} {A A1 : Option Addr} (hm : Mod (CS p A) w w1) (hv : Moved w A A1) (h : Mod (CS p A1) w1 w2) : Mod (CS p A) w w2 := hm.trans h (CS.moved hv)
theorem CS.no {p : CP} {base : Nat} {NA : Option Addr} (hr : ∀ i, rowS NA i → base ≤ i) {k : Nat} (h : k < base ∧ k ≠ p.pb ∧ k ≠ p.km ∧ k ≠ p.mm) : ¬ CS p NA k := fun e => by
  obtain ⟨h1, h2, h3, h4⟩ := h
  rcases e with e | e | e | e
  · exact h4 e
  · exact h2 e
  · exact h3 e
  · have := hr k e; omega
theorem CK.mod {w w' : World} {base : Nat} {p : CP} {NA : Option Addr} (h : CK w base p) (hr : ∀ i, rowS NA i → base ≤ i) (hm : Mod (CS p NA) w w') : CK w' base p := by
  have k := fun k hk => CS.no (p := p) hr (h.off k hk)
  refine ⟨h.hF, h.oxb.mod hm (k _ (by simp)), h.obb.mod hm (k _ (by simp)), h.mxb.mod hm (k _ (by simp)), h.lxb.mod hm (k _ (by simp)), h.axb.mod hm (k _ (by simp)), h.bxb.mod hm (k _ (by simp)), ⟨h.as_.1.modS hm ?_, h.as_.2⟩, ⟨h.bs.1.modS hm ?_, h.bs.2⟩, h.off, h.rowA, h.rowB⟩
  · rintro h0 i ⟨ad, e, rfl⟩
    exact CS.no hr (h.rowA ad e h0)
  · rintro h0 i ⟨ad, e, rfl⟩
    exact CS.no hr (h.rowB ad e h0)
theorem CK.ext {w w' : World} {base : Nat} {p : CP} (h : CK w base p) (k : Ext w w') : CK w' base p :=
  h.mod (NA := none) (fun i hi => by obtain ⟨_, e, _⟩ := hi; cases e) (Mod.of_ext _ k)
def memV (l : List Tr3) (x y : Int) : Option Value := (l.find? (fun t => decide (t.1 = x ∧ t.2.1 = y))).map fun t => .int .i64 t.2.2
/-- What changes. -/
structure CSt (w : World) (base : Nat) (p : CP) (NA : Option Addr) (nc : Nat) (st : List Br × List Tr3) : Prop where
  bd : Bd w base p.pb p.km NA nc st.1
  memo : ∃ m, MapQ i3K w p.mm m ∧ ∀ x y : Int, assoc ((x, y, 0) : I3) m = memV st.2 x y
  lt : p.mm < base ∧ p.mm ≠ p.pb ∧ p.mm ≠ p.km
theorem CSt.ext {w w' : World} {base : Nat} {p : CP} {NA : Option Addr} {nc : Nat} {st : List Br × List Tr3} (h : CSt w base p NA nc st) (k : Ext w w') : CSt w' base p NA nc st :=
  ⟨h.bd.ext k, let ⟨m, h1, h2⟩ := h.memo; ⟨m, h1.ext k, h2⟩, h.lt⟩
def CTo (w : World) (base : Nat) (p : CP) (NA : Option Addr) (st : List Br × List Tr3) (w' : World) : Prop := ∃ NA' nc', CSt w' base p NA' nc' st ∧ Mod (CS p NA) w w' ∧ Moved w NA NA'

theorem constB {op x y : Int} (x0 : 0 ≤ x) (x1 : x < 2) (y0 : 0 ≤ y) (y1 : y < 2) : constD op x y = if opB op (decide (x = 1)) (decide (y = 1)) then 1 else 0 := by
  have h1 := const_mean (op := op) x0 x1 y0 y1
  have h2 := constD_in (op := op) x0 x1 y0 y1
  rw [← h1]
  by_cases h : constD op x y = 1
  · rw [decide_eq_true h]; exact h
  · rw [decide_eq_false h]; show constD op x y = 0; omega

theorem at2_sum {a b : List Br} (ha : DOk a) (hb : DOk b) (op : Int) : ∀ (f : Nat) (x y : Int) (st : List Br × List Tr3), 0 ≤ x → 0 ≤ y → x < a.length + 2 → y < b.length + 2 →
    ∀ t ∈ (at2 a b op f x y st).2.2, t ∈ st.2 ∨ t.1 + t.2.1 ≤ x + y
  | 0, x, y, st, _, _, _, _ => fun t ht => .inl ht
  | f + 1, x, y, st, x0, y0, hx, hy => by
    by_cases hxy : x < 2 ∧ y < 2
    · rw [at2_c hxy]; exact fun t ht => .inl ht
    cases k : st.2.find? (fun t => decide (t.1 = x ∧ t.2.1 = y)) with
    | some t => rw [at2_s hxy k]; exact fun t ht => .inl ht
    | none =>
      have hv64 : min (lvlD a x) (lvlD b y) < 64 := by
        by_cases c : x < 2
        · have := lvl_lt hb (n := y) (fun c2 => hxy ⟨c, c2⟩) (by omega)
          rw [Int.min_def]; split <;> omega
        · have := lvl_lt ha (n := x) c (by omega)
          rw [Int.min_def]; split <;> omega
      rw [at2_n hxy k _ rfl]
      generalize min (lvlD a x) (lvlD b y) = v at *
      obtain ⟨s1, s2, s3, s4, s5⟩ := sideD_le ha (n := x) x0 hv64
      obtain ⟨t1, t2, t3, t4, t5⟩ := sideD_le hb (n := y) y0 hv64
      have j1 := at2_sum ha hb op f _ _ st s1 t1 (by omega) (by omega)
      generalize (at2 a b op f (sideD a x v).1 (sideD b y v).1 st) = r0 at *
      have j2 := at2_sum ha hb op f _ _ r0.2 s3 t3 (by omega) (by omega)
      generalize (at2 a b op f (sideD a x v).2 (sideD b y v).2 r0.2) = r1 at *
      intro t ht
      simp only [List.mem_append, List.mem_singleton] at ht
      rcases ht with ht | rfl
      · rcases j2 t ht with h1 | h1
        · rcases j1 t h1 with h2 | h2
          · exact .inl h2
          · exact .inr (by omega)
        · exact .inr (by omega)
      · exact .inr (by simp only; omega)

theorem at3_fn (base : Nat) (p : CP) (ha : DOk p.D.a) (hb : DOk p.D.b) (hlim : p.D.n ≤ 1000000000000 ∧ p.D.m ≤ 1000000000000) : ∀ (m : Nat) (x y : Int) (st : List Br × List Tr3) (NA : Option Addr) (nc : Nat) (w : World),
    CK w base p → CSt w base p NA nc st → 0 ≤ x → 0 ≤ y → x + y < m → x < p.D.n + 2 → y < p.D.m + 2 → (at2 p.D.a p.D.b p.D.op m x y st).2.1.length ≤ 100000000000 →
    Fn Tryz.prog 135 (i3K (x, y, 0) :: p.caps) w (fun v w' => v = .int .i64 (at2 p.D.a p.D.b p.D.op m x y st).1 ∧ CTo w base p NA (at2 p.D.a p.D.b p.D.op m x y st).2 w')
  | 0, x, y, st, NA, nc, w, _, _, x0, y0, hm, _, _, _ => by omega
  | m + 1, x, y, st, NA, nc, w, hK, hS, x0, y0, hm, hx, hy, hl1 => by
    have ih := at3_fn base p ha hb hlim m
    have hal : p.D.a.length = p.D.n := hK.as_.2
    have hbl : p.D.b.length = p.D.m := hK.bs.2
    have htop := hS.bd.top
    have hrw : ∀ i, rowS NA i → base ≤ i := fun i hi => (hS.bd.own.rows i hi).1
    refine fn_of_exec (c := { c135 with cuts := [1] }) gx_ok Tryz.func135 rfl rfl rfl ?_
    refine new (fun w1 hE1 hz1 hB1 => ?_)
    replace hB1 : Blk w1 w.heap.size 199 (i3C (x, y, 0)) := hB1
    have hK1 := hK.ext hE1
    have hS1 := hS.ext hE1
    have oB : w.heap.size < w1.heap.size := by omega
    refine cutIn [] gx_ok [] (fun _ : Unit => []) (fun _ w' => w1 = w' ∧ ¬ (x < 2 ∧ y < 2)) ?_ ?_
    · refine index (j := 0) (by decide) ?_
      refine load_blk hB1 rfl ?_
      refine wif_d (fun c1 => ?_) (fun c1 => ?_)
      · refine index (j := 1) (by decide) ?_
        refine load_blk hB1 rfl ?_
        refine wif_d (fun c2 => ?_) (fun c2 => ?_)
        · refine index (j := 2) (by decide) ?_
          refine load_blk hB1 rfl ?_
          refine wif_dt (show (0 : Int) < 2 by decide) ?_
          refine load_blk0 hK1.oxb rfl ?_
          refine index (j := 0) (by decide) ?_
          refine load_blk hB1 rfl ?_
          refine index (j := 1) (by decide) ?_
          refine load_blk hB1 rfl ?_
          refine index (j := 2) (by decide) ?_
          refine load_blk hB1 rfl ?_
          rw [at2_c ⟨c1, c2⟩, constB x0 c1 y0 c2]
          refine call (bin1_fn hK.hF p.ob (decide (x = 1)) (decide (y = 1)) (decide ((0 : Int) = 1)) w1 hK1.obb) ?_
          rintro v _ ⟨rfl, rfl⟩
          cases opB p.D.op (decide (x = 1)) (decide (y = 1)) with
          | true =>
            refine wif_t rfl ?_
            exact ⟨rfl, NA, nc, hS1, Mod.of_ext _ hE1, Moved.refl _ _⟩
          | false =>
            refine wif_f rfl ?_
            exact ⟨rfl, NA, nc, hS1, Mod.of_ext _ hE1, Moved.refl _ _⟩
        · exact ⟨(), rfl, rfl, fun hh => c2 hh.2⟩
      · exact ⟨(), rfl, rfl, fun hh => c1 hh.1⟩
    rintro ⟨⟩ _ ⟨rfl, hxy⟩
    obtain ⟨mq, hmq, hmem⟩ := hS1.memo
    refine load_blk0 hK1.mxb rfl ?_
    refine loadN_blk0 hB1 rfl ?_
    refine at_lookupQ_ok (kv := i3K) (a := ((x, y, 0) : I3)) gx_ok rfl rfl rfl rfl i3Key rfl rfl hmq ?_
    cases k : st.2.find? (fun t => decide (t.1 = x ∧ t.2.1 = y)) with
    | some t =>
      have hat : assoc ((x, y, 0) : I3) mq = some (.int .i64 t.2.2) := by rw [hmem, memV, k]; rfl
      refine wif_t (by rw [hat]; rfl) ?_
      rw [at2_s hxy k]
      exact ⟨by rw [hat]; rfl, NA, nc, hS1, Mod.of_ext _ hE1, Moved.refl _ _⟩
    | none =>
    have hat : assoc ((x, y, 0) : I3) mq = none := by rw [hmem, memV, k]; rfl
    refine wif_f (by rw [hat]; rfl) ?_
    have hv64 : min (lvlD p.D.a x) (lvlD p.D.b y) < 64 := by
      by_cases c : x < 2
      · have := lvl_lt hb (n := y) (fun c2 => hxy ⟨c, c2⟩) (by omega)
        rw [Int.min_def]; split <;> omega
      · have := lvl_lt ha (n := x) c (by omega)
        rw [Int.min_def]; split <;> omega
    have hSC : SB w1 none 0 0 [] := SlS.nil _
    have qL : ∀ w', Ext w1 w' → ∀ (j : Nat) (v : Value), p.lC[j]? = some v → w'.cell? ((⟨p.lx, 0, none⟩ : Addr).add j) = some v := fun w' hw' j v hj => by rw [(hK1.lxb.ext hw').cell]; exact hj
    have qN : ∀ w', Ext w1 w' → ∀ (j : Nat) (v : Value), (i3C (x, y, 0))[j]? = some v → w'.cell? ((⟨w.heap.size, 0, none⟩ : Addr).add j) = some v := fun w' hw' j v hj => by rw [(hB1.ext hw').cell]; exact hj
    refine draw_plan gx_ok (Ext w1) 17 [(true, 0), (true, 1), (true, 2), (true, 3), (true, 5), (true, 6), (true, 7), (true, 8), (true, 10), (true, 11), (true, 12), (true, 13), (false, 4), (false, 9), (false, 14), (true, 15), (true, 16)] (by kernel_rfl) (Ext.drew w1) ?_
    refine index_n (j := 0) (by decide) ?_
    refine qloadN (vs := [.slice p.D.A p.D.n p.D.c, .int .i64 p.D.ra]) rfl (fun w' hw' j v hj => by
      rw [add_add, (hK1.lxb.ext hw').cell]
      match j, hj with
      | 0, hj => exact hj
      | 1, hj => exact hj) ?_
    refine index (j := 0) (by decide) ?_
    refine qload (v := .int .i64 x) (fun w' hw' => qN w' hw' 0 _ rfl) ?_
    refine index_n (j := 1) (by decide) ?_
    refine qloadN (vs := [.slice p.D.B p.D.m p.D.d, .int .i64 p.D.rb]) rfl (fun w' hw' j v hj => by
      rw [add_add, (hK1.lxb.ext hw').cell]
      match j, hj with
      | 0, hj => exact hj
      | 1, hj => exact hj) ?_
    refine index (j := 1) (by decide) ?_
    refine qload (v := .int .i64 y) (fun w' hw' => qN w' hw' 1 _ rfl) ?_
    refine index_n (j := 2) (by decide) ?_
    refine qloadN (vs := [.slice none 0 0, .int .i64 0]) rfl (fun w' hw' j v hj => by
      rw [add_add, (hK1.lxb.ext hw').cell]
      match j, hj with
      | 0, hj => exact hj
      | 1, hj => exact hj) ?_
    refine index (j := 2) (by decide) ?_
    refine qload (v := .int .i64 0) (fun w' hw' => qN w' hw' 2 _ rfl) ?_
    refine call (level_fn p.D.A p.D.n p.D.c p.D.ra x p.D.a _ (hK1.as_.ext (Ext.drew w1)) (by omega)) ?_
    rintro u w2 ⟨rfl, hE2⟩
    have hE12 := (Ext.drew w1).trans hE2
    refine ⟨hE12, ?_⟩
    refine call (level_fn p.D.B p.D.m p.D.d p.D.rb y p.D.b _ (hK1.bs.ext hE12) (by omega)) ?_
    rintro u w3 ⟨rfl, hE3⟩
    have hE13 := hE12.trans hE3
    refine ⟨hE13, ?_⟩
    refine call (level_fn none 0 0 0 0 [] _ (hSC.ext hE13) (by simp)) ?_
    rintro u w4 ⟨rfl, hE4⟩
    have hE14 := hE13.trans hE4
    refine ⟨hE14, ?_⟩
    have l64 : lvlD [] 0 = 64 := rfl
    rw [l64]
    have hvn : -9223372036854775808 ≤ min (lvlD p.D.a x) (lvlD p.D.b y) := by
      have pos : ∀ {d : List Br}, DOk d → ∀ {n : Int}, n < d.length + 2 → 0 ≤ lvlD d n := fun {d} hd {n} hn => by
        by_cases h2 : n < 2
        · rw [lvl_one h2]; omega
        · obtain ⟨z, hz⟩ := getE h2 hn
          rw [lvl_some h2 hz]; exact (hd.2 _ _ hz).1
      have p1 := pos ha (n := x) (by omega)
      have p2 := pos hb (n := y) (by omega)
      rw [Int.min_def]; split <;> omega
    have hmin3 : (if (64 : Int) < (if lvlD p.D.b y < lvlD p.D.a x then lvlD p.D.b y else lvlD p.D.a x) then 64 else (if lvlD p.D.b y < lvlD p.D.a x then lvlD p.D.b y else lvlD p.D.a x)) = min (lvlD p.D.a x) (lvlD p.D.b y) := by
      rw [Int.min_def] at hv64 ⊢
      split at hv64 <;> split <;> split <;> omega
    refine norm (m := min (lvlD p.D.a x) (lvlD p.D.b y)) hmin3 ?_
    rw [at2_n hxy k _ rfl] at hl1 ⊢
    generalize hveq : min (lvlD p.D.a x) (lvlD p.D.b y) = v at *
    have hB4 := hB1.ext hE14
    have hK4 := hK1.ext hE14
    have hS4 := hS1.ext hE14
    have hE04 := hE1.trans hE14
    have hz14 := hE14.size
    refine new (fun w5 hE5 hz5 hL5 => ?_)
    refine new (fun w6 hE6 hz6 hH6 => ?_)
    have hE46 := hE5.trans hE6
    have hL6 := hL5.ext hE6
    have hB6 := hB4.ext hE46
    have hK6 := hK4.ext hE46
    have hS6 := hS4.ext hE46
    have hE06 := hE04.trans hE46
    obtain ⟨s1, s2, s3, s4, s5⟩ := sideD_le ha (n := x) x0 hv64
    obtain ⟨t1, t2, t3, t4, t5⟩ := sideD_le hb (n := y) y0 hv64
    refine loop gx_ok [64] (fun s : Nat => [.int .i64 s]) (fun s w' => Mod (fun i => i = w4.heap.size ∨ i = w5.heap.size) w6 w' ∧ s ≤ 3 ∧ Blk w' w4.heap.size 199 (i3C (if 0 < s then (sideD p.D.a x v).1 else 0, if 1 < s then (sideD p.D.b y v).1 else 0, 0)) ∧ Blk w' w5.heap.size 199 (i3C (if 0 < s then (sideD p.D.a x v).2 else 0, if 1 < s then (sideD p.D.b y v).2 else 0, 0))) (fun s _ => 3 - s) 0 rfl ⟨Mod.refl _ _, Nat.zero_le _, hL6, hH6⟩ ?_
    rintro s w7 ⟨hM7, hs3, hL7, hH7⟩
    have hbz : base ≤ w4.heap.size := by have := hE1.size; omega
    have hz45 : w5.heap.size = w4.heap.size + 1 := hz5
    have hwz : w.heap.size < w4.heap.size := by omega
    have hlow : ∀ k, k < w4.heap.size → ¬ (k = w4.heap.size ∨ k = w5.heap.size) := fun k hk e => by omega
    have hlx := hK.off p.lx (by simp)
    have hE7 : Ext w w7 := hM7.ext hE06 (fun i hi => by omega)
    have hE17 : Ext w1 w7 := hM7.ext (hE14.trans hE46) (fun i hi => by omega)
    have hE47 : Ext w4 w7 := hM7.ext hE46 (fun i hi => by omega)
    have hB7 := hB4.ext hE47
    have hK7 := hK4.ext hE47
    have hS7 := hS4.ext hE47
    have hz7 := hM7.size
    have nLX := hlow p.lx (by omega)
    have nB := hlow w.heap.size hwz
    have h0 : sideD [] 0 v = (0, 0) := by unfold sideD; rw [if_pos (show lvlD [] 0 ≠ v by rw [l64]; omega)]
    by_cases hs : s < 3
    · rcases (show s = 0 ∨ s = 1 ∨ s = 2 by omega) with rfl | rfl | rfl
      · refine wif_dt (show ((0 : Nat) : Int) < 3 by decide) ?_
        refine draw_plan gx_ok (Mod (fun i => i = w4.heap.size ∨ i = w5.heap.size) w7) 17 [(true, 0), (true, 1), (true, 2), (true, 3), (true, 4), (true, 5), (true, 6), (true, 7), (true, 8), (false, 9), (true, 10), (true, 11), (true, 12), (true, 13), (false, 14), (true, 15), (false, 16)] (by kernel_rfl) (Mod.of_ext _ (Ext.drew w7)) ?_
        refine index_n (j := 0) (by decide) ?_
        refine qloadN (vs := [.slice p.D.A p.D.n p.D.c, .int .i64 p.D.ra]) rfl (fun w' hw' j v hj => by
          rw [add_add, (hK7.lxb.mod hw' nLX).cell]
          match j, hj with
          | 0, hj => exact hj
          | 1, hj => exact hj) ?_
        refine index (j := 0) (by decide) ?_
        refine qload (v := .int .i64 x) (fun w' hw' => by rw [(hB7.mod hw' nB).cell]; rfl) ?_
        refine call (dsides_fn p.D.A p.D.n p.D.c p.D.ra x v p.D.a _ (hK7.as_.ext (Ext.drew w7)) (by omega) hv64) ?_
        rintro u w8 ⟨rfl, hE8⟩
        have hE78 := (Ext.drew w7).trans hE8
        refine ⟨Mod.of_ext _ hE78, ?_⟩
        refine index (j := 0) (by decide) ?_
        refine store_mod (hL7.ext hE78) (by simp) (fun w9 hM9 hL9 => ?_)
        have hM79 : Mod (fun i => i = w4.heap.size ∨ i = w5.heap.size) w7 w9 := (Mod.of_ext _ hE78).trans hM9 (fun i hi => .inl (.inl hi))
        refine ⟨hM79, ?_⟩
        have hz9 := hM79.size
        refine index (j := 0) (by decide) ?_
        refine store_mod (((hH7.ext hE78).mod hM9 (by show ¬ w5.heap.size = w4.heap.size; omega))) (by simp) (fun w10 hM10 hH10 => ?_)
        have hM710 : Mod (fun i => i = w4.heap.size ∨ i = w5.heap.size) w7 w10 := hM79.trans hM10 (fun i hi => .inl (.inr hi))
        refine ⟨hM710, ?_⟩
        have hL10 := hL9.mod hM10 (by show ¬ w4.heap.size = w5.heap.size; omega)
        refine norm_i64_to ((1 : Nat) : Int) (by decide) (by decide) ?_
        exact ⟨1, rfl, ⟨hM7.trans hM710 (fun i hi => .inl hi), by decide, hL10, hH10⟩, by show 3 - 1 < 3 - 0; decide⟩
      · refine wif_dt (show ((1 : Nat) : Int) < 3 by decide) ?_
        refine draw_plan gx_ok (Mod (fun i => i = w4.heap.size ∨ i = w5.heap.size) w7) 17 [(true, 0), (true, 1), (true, 2), (true, 3), (true, 4), (true, 5), (true, 6), (true, 7), (true, 8), (false, 9), (true, 10), (true, 11), (true, 12), (true, 13), (false, 14), (true, 15), (false, 16)] (by kernel_rfl) (Mod.of_ext _ (Ext.drew w7)) ?_
        refine index_n (j := 1) (by decide) ?_
        refine qloadN (vs := [.slice p.D.B p.D.m p.D.d, .int .i64 p.D.rb]) rfl (fun w' hw' j v hj => by
          rw [add_add, (hK7.lxb.mod hw' nLX).cell]
          match j, hj with
          | 0, hj => exact hj
          | 1, hj => exact hj) ?_
        refine index (j := 1) (by decide) ?_
        refine qload (v := .int .i64 y) (fun w' hw' => by rw [(hB7.mod hw' nB).cell]; rfl) ?_
        refine call (dsides_fn p.D.B p.D.m p.D.d p.D.rb y v p.D.b _ (hK7.bs.ext (Ext.drew w7)) (by omega) hv64) ?_
        rintro u w8 ⟨rfl, hE8⟩
        have hE78 := (Ext.drew w7).trans hE8
        refine ⟨Mod.of_ext _ hE78, ?_⟩
        refine index (j := 1) (by decide) ?_
        refine store_mod (hL7.ext hE78) (by simp) (fun w9 hM9 hL9 => ?_)
        have hM79 : Mod (fun i => i = w4.heap.size ∨ i = w5.heap.size) w7 w9 := (Mod.of_ext _ hE78).trans hM9 (fun i hi => .inl (.inl hi))
        refine ⟨hM79, ?_⟩
        have hz9 := hM79.size
        refine index (j := 1) (by decide) ?_
        refine store_mod (((hH7.ext hE78).mod hM9 (by show ¬ w5.heap.size = w4.heap.size; omega))) (by simp) (fun w10 hM10 hH10 => ?_)
        have hM710 : Mod (fun i => i = w4.heap.size ∨ i = w5.heap.size) w7 w10 := hM79.trans hM10 (fun i hi => .inl (.inr hi))
        refine ⟨hM710, ?_⟩
        have hL10 := hL9.mod hM10 (by show ¬ w4.heap.size = w5.heap.size; omega)
        refine norm_i64_to ((2 : Nat) : Int) (by decide) (by decide) ?_
        exact ⟨2, rfl, ⟨hM7.trans hM710 (fun i hi => .inl hi), by decide, hL10, hH10⟩, by show 3 - 2 < 3 - 1; decide⟩
      · refine wif_dt (show ((2 : Nat) : Int) < 3 by decide) ?_
        refine draw_plan gx_ok (Mod (fun i => i = w4.heap.size ∨ i = w5.heap.size) w7) 17 [(true, 0), (true, 1), (true, 2), (true, 3), (true, 4), (true, 5), (true, 6), (true, 7), (true, 8), (false, 9), (true, 10), (true, 11), (true, 12), (true, 13), (false, 14), (true, 15), (false, 16)] (by kernel_rfl) (Mod.of_ext _ (Ext.drew w7)) ?_
        refine index_n (j := 2) (by decide) ?_
        refine qloadN (vs := [.slice none 0 0, .int .i64 0]) rfl (fun w' hw' j v hj => by
          rw [add_add, (hK7.lxb.mod hw' nLX).cell]
          match j, hj with
          | 0, hj => exact hj
          | 1, hj => exact hj) ?_
        refine index (j := 2) (by decide) ?_
        refine qload (v := .int .i64 0) (fun w' hw' => by rw [(hB7.mod hw' nB).cell]; rfl) ?_
        refine call (dsides_fn none 0 0 0 0 v [] _ (SlS.nil _) (by decide) hv64) ?_
        rintro u w8 ⟨rfl, hE8⟩
        have hE78 := (Ext.drew w7).trans hE8
        refine ⟨Mod.of_ext _ hE78, ?_⟩
        refine index (j := 2) (by decide) ?_
        refine store_mod (hL7.ext hE78) (by simp) (fun w9 hM9 hL9 => ?_)
        have hM79 : Mod (fun i => i = w4.heap.size ∨ i = w5.heap.size) w7 w9 := (Mod.of_ext _ hE78).trans hM9 (fun i hi => .inl (.inl hi))
        refine ⟨hM79, ?_⟩
        have hz9 := hM79.size
        refine index (j := 2) (by decide) ?_
        refine store_mod (((hH7.ext hE78).mod hM9 (by show ¬ w5.heap.size = w4.heap.size; omega))) (by simp) (fun w10 hM10 hH10 => ?_)
        have hM710 : Mod (fun i => i = w4.heap.size ∨ i = w5.heap.size) w7 w10 := hM79.trans hM10 (fun i hi => .inl (.inr hi))
        refine ⟨hM710, ?_⟩
        have hL10 := hL9.mod hM10 (by show ¬ w4.heap.size = w5.heap.size; omega)
        refine norm_i64_to ((3 : Nat) : Int) (by decide) (by decide) ?_
        rw [h0] at hL10 hH10
        exact ⟨3, rfl, ⟨hM7.trans hM710 (fun i hi => .inl hi), by decide, hL10, hH10⟩, by show 3 - 3 < 3 - 2; decide⟩
    · have : s = 3 := by omega
      subst this
      refine wif_df (show ¬ ((3 : Nat) : Int) < 3 by decide) ?_
      replace hL7 : Blk w7 w4.heap.size 199 (i3C ((sideD p.D.a x v).1, (sideD p.D.b y v).1, 0)) := hL7
      replace hH7 : Blk w7 w5.heap.size 199 (i3C ((sideD p.D.a x v).2, (sideD p.D.b y v).2, 0)) := hH7
      have hvx : lvlD p.D.a x = v ∨ lvlD p.D.b y = v := by rw [← hveq, Int.min_def]; split <;> simp
      have dec : (sideD p.D.a x v).1 + (sideD p.D.b y v).1 < x + y ∧ (sideD p.D.a x v).2 + (sideD p.D.b y v).2 < x + y := by
        rcases hvx with e | e
        · have := s5 e; omega
        · have := t5 e; omega
      have sm1 := at2_sum ha hb p.D.op m (sideD p.D.a x v).1 (sideD p.D.b y v).1 st s1 t1 (by omega) (by omega)
      have sm2 := at2_sum ha hb p.D.op m (sideD p.D.a x v).2 (sideD p.D.b y v).2 (at2 p.D.a p.D.b p.D.op m (sideD p.D.a x v).1 (sideD p.D.b y v).1 st).2 s3 t3 (by omega) (by omega)
      have mo2 := at2_mono p.D.a p.D.b p.D.op m (sideD p.D.a x v).2 (sideD p.D.b y v).2 (at2 p.D.a p.D.b p.D.op m (sideD p.D.a x v).1 (sideD p.D.b y v).1 st).2
      have c1 := ih (sideD p.D.a x v).1 (sideD p.D.b y v).1 st NA nc w7 hK7 hS7 s1 t1 (by omega) (by omega) (by omega)
      have c2 := fun N1 n1 w' h1 h2 => ih (sideD p.D.a x v).2 (sideD p.D.b y v).2 (at2 p.D.a p.D.b p.D.op m (sideD p.D.a x v).1 (sideD p.D.b y v).1 st).2 N1 n1 w' h1 h2 s3 t3 (by omega) (by omega) (by omega)
      generalize (at2 p.D.a p.D.b p.D.op m (sideD p.D.a x v).1 (sideD p.D.b y v).1 st) = r0 at *
      generalize (at2 p.D.a p.D.b p.D.op m (sideD p.D.a x v).2 (sideD p.D.b y v).2 r0.2) = r1 at *
      have ul := uniqD_len ⟨v, r0.1, r1.1⟩ r1.2.1
      have ul2 : (uniqD ⟨v, r0.1, r1.1⟩ r1.2.1).1.length ≤ r1.2.1.length + 1 := by
        unfold uniqD
        split
        · exact Nat.le_succ _
        · split
          · exact Nat.le_succ _
          · simp
      simp only at hl1
      refine load_blk0 hK7.axb rfl ?_
      refine loadN_blk0 hL7 rfl ?_
      refine call (c1 (by omega)) ?_
      rintro _ w11 ⟨rfl, N1, n1, hS11, hM11, hV11⟩
      have hlt5 := hH7.lt
      have hr0 := hS.bd.own.rows
      obtain ⟨l1, l2, l3⟩ := hS.lt
      obtain ⟨b1, b2, b3⟩ := hS.bd.lt
      have new : ∀ k, w.heap.size ≤ k → ¬ CS p NA k := fun k hk e => by
        rcases e with e | e | e | e
        · omega
        · omega
        · omega
        · have := (hr0 k e).2; omega
      have hK11 := hK7.mod hrw hM11
      have hH11 := hH7.mod hM11 (new _ (by omega))
      have hB11 := hB7.mod hM11 (new _ (Nat.le_refl _))
      have hr1 : ∀ i, rowS N1 i → base ≤ i := fun i hi => (hS11.bd.own.rows i hi).1
      have nw1 : ∀ k, w.heap.size ≤ k → k < w7.heap.size → ¬ CS p N1 k := fun k hk h7 e => by
        rcases CS.moved hV11 k e with e | e
        · exact new k hk e
        · omega
      have hz11 := hM11.size
      have hB7lt := hB7.lt
      refine draw_plan gx_ok (Mod (CS p N1) w11) 8 [(true, 0), (true, 1), (true, 2), (true, 3), (true, 4), (false, 5), (false, 6), (true, 7)] (by kernel_rfl) (Mod.of_ext _ (Ext.drew w11)) ?_
      have nof := fun k hk => CS.no (p := p) hr1 (hK11.off k hk)
      refine qload (v := VP.ptr p.pb) (fun w' hw' => by rw [(hK11.bxb.mod hw' (nof _ (by simp))).cell0]; rfl) ?_
      refine qload (v := p.clo) (fun w' hw' => by rw [(hK11.axb.mod hw' (nof _ (by simp))).cell0]; rfl) ?_
      refine qloadN (vs := i3C ((sideD p.D.a x v).2, (sideD p.D.b y v).2, 0)) rfl (fun w' hw' j v hj => by rw [(hH11.mod hw' (nw1 _ (by omega) hlt5)).cell]; exact hj) ?_
      refine call (c2 N1 n1 _ (hK11.ext (Ext.drew w11)) (hS11.ext (Ext.drew w11)) (by omega)) ?_
      rintro _ w12 ⟨rfl, N2, n2, hS12, hM12, hV12⟩
      have hM112 : Mod (CS p N1) w11 w12 := (Mod.of_ext _ (Ext.drew w11)).trans hM12 (fun i hi => .inl hi)
      have hV112 : Moved w11 N1 N2 := hV12.back (Ext.drew w11).size
      refine ⟨hM112, ?_⟩
      have hr2 : ∀ i, rowS N2 i → base ≤ i := fun i hi => (hS12.bd.own.rows i hi).1
      refine call (dbranch_fn base p.pb p.km N2 n2 r1.2.1 ⟨v, r0.1, r1.1⟩ w12 hS12.bd (by omega)) ?_
      rintro _ w13 ⟨rfl, N3, n3, hD13, hM13, hV13⟩
      have hM213 : Mod (CS p N2) w12 w13 := hM13.mono (fun i hi => .inl (.inr hi))
      have hM113 : Mod (CS p N1) w11 w13 := CS.trans hM112 hV112 hM213
      refine ⟨hM113, ?_⟩
      have hK12 := hK11.mod hr1 hM112
      have hK13 := hK11.mod hr1 hM113
      have hB13 := hB11.mod hM113 (nw1 _ (Nat.le_refl _) hB7lt)
      obtain ⟨mq2, hq2, hmem2⟩ := hS12.memo
      have hq13 : MapQ i3K w13 p.mm mq2 := hq2.mod hM13 (fun e => by
        rcases e with e | e | e
        · exact l2 e
        · exact l3 e
        · have := hr2 _ e; omega)
      refine load_blk0 hK13.mxb rfl ?_
      refine loadN_blk0 hB13 rfl ?_
      refine at_mapUpdateQ (kv := i3K) (a := ((x, y, 0) : I3)) gx_ok rfl rfl rfl rfl i3Key rfl rfl rfl hq13 (fun w14 hM14 hz14' hq14 => ?_)
      have hmm : ∀ k, k ≠ p.mm → ¬ (k = p.mm) := fun k h => h
      obtain ⟨d1, d2, d3⟩ := hD13.lt
      have hr3 : ∀ i, rowS N3 i → base ≤ i := fun i hi => (hD13.own.rows i hi).1
      obtain ⟨kq, hkq, hkm⟩ := hD13.known
      have hD14 : Bd w14 base p.pb p.km N3 n3 (uniqD ⟨v, r0.1, r1.1⟩ r1.2.1).1 := ⟨hD13.blk.mod hM14 (fun e => l2 e.symm), hD13.own.mod hM14 (fun i hi e => by have := hr3 i hi; have e' : i = p.mm := e; omega), ⟨kq, hkq.mod hM14 (fun e => l3 e.symm), hkm⟩, hD13.lt, Nat.le_trans hD13.top hM14.size⟩
      have hMw7 : Mod (CS p NA) w w7 := Mod.of_ext _ hE7
      have hVw7 : Moved w NA NA := Moved.refl _ _
      have hM011 : Mod (CS p NA) w w11 := hMw7.trans hM11 (fun i hi => .inl hi)
      have hV011 : Moved w NA N1 := hV11.back hE7.size
      have hM013 : Mod (CS p NA) w w13 := CS.trans hM011 hV011 hM113
      have hM014 : Mod (CS p NA) w w14 := hM013.trans hM14 (fun i hi => .inl (.inl hi))
      have hV013 : Moved w NA N3 := hV011.trans (hV112.trans hV13 hM112.size) hM011.size
      refine ⟨rfl, N3, n3, ⟨hD14, ⟨_, hq14, fun x' y' => ?_⟩, hS.lt⟩, hM014, hV013⟩
      have hno : r1.2.2.find? (fun t => decide (t.1 = x ∧ t.2.1 = y)) = none := by
        rw [List.find?_eq_none]
        intro t ht hh
        simp only [decide_eq_true_eq] at hh
        rcases sm2 t ht with h1 | h1
        · rcases sm1 t h1 with h2 | h2
          · have := List.find?_eq_none.1 k t h2
            simp only [decide_eq_true_eq] at this
            exact this hh
          · omega
        · omega
      rw [assoc_set, hmem2, memV, memV, List.find?_append]
      by_cases hxx : (x', y') = (x, y)
      · cases hxx
        rw [if_pos rfl, hno]
        simp
      · rw [if_neg (fun e => hxx (by cases e; rfl))]
        have : [(x, y, (uniqD ⟨v, r0.1, r1.1⟩ r1.2.1).2)].find? (fun t : Tr3 => decide (t.1 = x' ∧ t.2.1 = y')) = none := by
          rw [List.find?_cons_of_neg]
          · rfl
          · simp only [decide_eq_true_eq]
            exact fun e => hxx (by rw [e.1, e.2])
        rw [this]
        simp
end Go.Proofs.YtedopgkbajhanaaGreatDoor
