/-
  What PSourceSelection rests on, part 5: the texts of this work, without what it does not use; printed by a program (wip/shake.py).
  Conditions: none.
-/
import Derived.Test.YtedopgkbajhanaaGreatDoorQPSourceSelectiond
namespace Go.Proofs.YtedopgkbajhanaaGreatDoor
section
section
open Go Go.RowKit

/-! ### Segments -/
structure Sx where
  f : Int
  t : Int
  fl : Int
  at_ : Int
  x : DV
def Sx.cells (y : Sx) : List Value := [.int .i64 y.f, .int .i64 y.t, .int .i64 y.fl, .int .i64 y.at_, .slice y.x.A y.x.n y.x.c, .int .i64 y.x.r]
theorem sx_len (y : Sx) : y.cells.length = 6 := rfl
/-- Segments in memory. -/
structure SX (w : World) (A : Option Addr) (n c : Nat) (L : List Sx) : Prop where
  sl : SlS Sx.cells 6 w A n c L
  dg : ∀ y ∈ L, SB w y.x.A y.x.n y.x.c y.x.nd
theorem SX.ext {w w' : World} {A : Option Addr} {n c : Nat} {L : List Sx} (h : SX w A n c L) (k : Ext w w') : SX w' A n c L := ⟨h.sl.ext k, fun y hy => (h.dg y hy).ext k⟩
def segOk (tx : List Nat) (at_ : Int) (y : Sx) : Prop := y.f = at_ ∧ at_ < y.t ∧ y.t ≤ tx.length ∧ tx[(y.t - 1).toNat]? = some 10 ∧ chkD y.x.nd y.x.r = 0 ∧ 0 ≤ y.fl ∧ 0 ≤ y.at_ ∧ y.at_ ≤ 1048576 - (y.t - y.f)
def chkL (tx : List Nat) : Int → List Sx → Prop
  | at_, [] => at_ = tx.length
  | at_, y :: L => segOk tx at_ y ∧ chkL tx y.t L
open Classical in
noncomputable def chkS (tx : List Nat) (L : List Sx) : Int := if 1048576 < tx.length ∨ 65536 < L.length then 2 else if chkL tx 0 L then 0 else 70
theorem chkS_zero {tx : List Nat} {L : List Sx} : chkS tx L = 0 ↔ tx.length ≤ 1048576 ∧ L.length ≤ 65536 ∧ chkL tx 0 L := by
  unfold chkS
  by_cases h1 : 1048576 < tx.length ∨ 65536 < L.length
  · rw [if_pos h1]; constructor
    · intro h; cases h
    · rintro ⟨a, b, _⟩; omega
  · rw [if_neg h1]
    by_cases h2 : chkL tx 0 L
    · rw [if_pos h2]; exact ⟨fun _ => ⟨by omega, by omega, h2⟩, fun _ => rfl⟩
    · rw [if_neg h2]; constructor
      · intro h; cases h
      · rintro ⟨_, _, h⟩; exact absurd h h2

/-- What Check has seen. -/
structure ChkI (w0 : World) (tx : List Nat) (L : List Sx) (i : Nat) (at_ : Int) (w : World) : Prop where
  e : Ext w0 w
  le : i ≤ L.length
  a0 : 0 ≤ at_
  al : at_ ≤ tx.length
  rs : chkL tx 0 L ↔ chkL tx at_ (L.drop i)

set_option maxHeartbeats 1600000 in
theorem scheck_fn (tx : List Nat) (A : Option Addr) (n c : Nat) (L : List Sx) (w : World) (h : SX w A n c L) (h8 : ∀ x ∈ tx, x < 256) :
    Fn Tryz.prog 27 [srcV tx A n c] w (fun u w' => u = .int .i64 (chkS tx L) ∧ Ext w w') := by
  have hlen := h.sl.2
  have hts := strOf_size tx
  refine fn_of_exec (c := { c27 with cuts := [] }) gx_ok Tryz.func27 rfl rfl rfl ?_
  refine new (fun w1 hE1 hz1 hB1 => ?_)
  refine load_blk0 hB1 rfl ?_
  refine wif_d (fun c1 => ?_) (fun c1 => ?_)
  · exact ⟨by unfold chkS; rw [if_pos (.inl (by omega))], hE1⟩
  refine load_blk hB1 rfl ?_
  refine wif_d (fun c2 => ?_) (fun c2 => ?_)
  · exact ⟨by unfold chkS; rw [if_pos (.inr (by omega))], hE1⟩
  have hcs : chkS tx L = open Classical in if chkL tx 0 L then 0 else 70 := by unfold chkS; rw [if_neg (by omega)]
  refine load_blk hB1 rfl ?_
  refine loop gx_ok [19, 3] (fun s : Nat × Int => [.int .i64 s.1, .int .i64 s.2]) (fun s w' => ChkI w1 tx L s.1 s.2 w') (fun s _ => L.length - s.1) (0, 0) rfl ⟨Ext.refl _, Nat.zero_le _, Int.le_refl _, by omega, Iff.rfl⟩ ?_
  rintro ⟨i, at_⟩ w2 hI
  have hE02 := hE1.trans hI.e
  have a0 := hI.a0
  have al := hI.al
  simp only at a0 al
  refine wif_d (fun c3 => ?_) (fun c3 => ?_)
  · have hi : i < n := by omega
    refine index_sls sx_len (h.sl.ext hE02) rfl hi (fun p y hy hc => ?_)
    refine loadN_at (vs := y.cells) rfl hc ?_
    refine new (fun w3 hE3 hz3 hB3 => ?_)
    refine storeN_blk0 hB3 rfl (sc rfl) (fun w4 hg4 _ hB4 => ?_)
    have hE24 : Ext w2 w4 := newBox hE3 hB3 hg4
    have hE04 := hE02.trans hE24
    have hB1' := hB1.ext (hI.e.trans hE24)
    have hdrop : L.drop i = y :: L.drop (i + 1) := by
      rw [List.drop_eq_getElem_cons (by omega)]
      congr 1
      exact Option.some.inj ((List.getElem?_eq_getElem (by omega)).symm.trans hy)
    have hrs := hI.rs
    simp only at hrs
    rw [hdrop, chkL] at hrs
    have bad : ¬ segOk tx at_ y → ∀ w', Ext w w' → (Value.int .i64 70 = .int .i64 (chkS tx L)) ∧ Ext w w' := fun hno w' hE => ⟨by rw [hcs, if_neg (fun hh => hno (hrs.1 hh).1)], hE⟩
    refine load_blk0 hB4 rfl ?_
    refine wif_ne (fun d1 => ?_) (fun d1 => ?_)
    · exact bad (fun hb => d1 hb.1) _ hE04
    refine load_blk hB4 rfl ?_
    refine wif_d (fun d2 => ?_) (fun d2 => ?_)
    · exact bad (fun hb => by have := hb.2.1; omega) _ hE04
    refine load_blk hB4 rfl ?_
    refine load_blk0 hB1' rfl ?_
    refine wif_d (fun d3 => ?_) (fun d3 => ?_)
    · exact bad (fun hb => by have := hb.2.2.1; omega) _ hE04
    have hyt : y.t ≤ tx.length := by omega
    refine load_blk0 hB1' rfl ?_
    refine load_blk hB4 rfl ?_
    have hj : (y.t - 1).toNat < tx.length := by omega
    refine norm_i64_to (((y.t - 1).toNat : Nat) : Int) (by omega) (by omega) ?_
    refine sindex' (by rw [hts]; exact hj) (fun b hb _ => ?_)
    rw [bytesOf_strOf h8] at hb
    refine wif_ne (fun d4 => ?_) (fun d4 => ?_)
    · exact bad (fun hh => by have := hh.2.2.2.1; rw [hb] at this; exact d4 (by have := Option.some.inj this; omega)) _ hE04
    have hb10 : tx[(y.t - 1).toNat]? = some 10 := by rw [hb]; congr 1; omega
    refine loadN_at (vs := [.slice y.x.A y.x.n y.x.c, .int .i64 y.x.r]) rfl (fun j v hj => by rw [Addr.add_add]; exact (hB4.cell _).trans (by match j, hj with | 0, hj => exact hj | 1, hj => exact hj)) ?_
    refine call (check2_fn y.x.A y.x.n y.x.c y.x.nd y.x.r w4 ((h.dg y (List.mem_of_getElem? hy)).ext hE04)) ?_
    rintro _ w5 ⟨rfl, hE5⟩
    have hE05 := hE04.trans hE5
    have hB5 := hB4.ext hE5
    refine wif_ne (fun d5 => ?_) (fun d5 => ?_)
    · exact bad (fun hh => d5 hh.2.2.2.2.1) _ hE05
    refine load_blk hB5 rfl ?_
    refine wif_d (fun d6 => ?_) (fun d6 => ?_)
    · exact bad (fun hh => by have := hh.2.2.2.2.2.1; omega) _ hE05
    refine load_blk hB5 rfl ?_
    refine wif_d (fun d7 => ?_) (fun d7 => ?_)
    · exact bad (fun hh => by have := hh.2.2.2.2.2.2.1; omega) _ hE05
    refine load_blk hB5 rfl ?_
    refine load_blk hB5 rfl ?_
    refine load_blk0 hB5 rfl ?_
    refine norm_i64_to (y.t - y.f) rfl (by omega) ?_
    refine norm_i64_to (1048576 - (y.t - y.f)) rfl (by omega) ?_
    refine wif_d (fun d8 => ?_) (fun d8 => ?_)
    · exact bad (fun hh => by have := hh.2.2.2.2.2.2.2; omega) _ hE05
    refine load_blk hB5 rfl ?_
    refine norm_i64_to ((i + 1 : Nat) : Int) (by show ((i : Nat) : Int) + 1 = _; omega) (by omega) ?_
    have hok : segOk tx at_ y := ⟨d1, by omega, hyt, hb10, d5, by omega, by omega, by omega⟩
    exact ⟨(i + 1, y.t), rfl, ⟨hI.e.trans (hE24.trans hE5), by show i + 1 ≤ L.length; omega, by show 0 ≤ y.t; omega, hyt, by simp only; rw [hrs]; exact ⟨fun hh => hh.2, fun hh => ⟨hok, hh⟩⟩⟩, by show L.length - (i + 1) < L.length - i; omega⟩
  · have hdrop : L.drop i = [] := List.drop_eq_nil_of_le (by omega)
    have hrs := hI.rs
    simp only at hrs
    rw [hdrop, chkL] at hrs
    refine load_blk0 (hB1.ext hI.e) rfl ?_
    refine wif_d (fun d1 => ?_) (fun d1 => ?_)
    · exact ⟨by rw [hcs, if_neg (fun hh => by have := hrs.1 hh; omega)], hE02⟩
    · exact ⟨by rw [hcs, if_pos (hrs.2 (by omega))], hE02⟩
end

section
open Go Go.RowKit

/-! ### What a valid source's segments are -/
structure SegB (tx : List Nat) (y : Sx) : Prop where
  f0 : 0 ≤ y.f
  ft : y.f < y.t
  tl : y.t ≤ tx.length
  ck : chkD y.x.nd y.x.r = 0
  l0 : 0 ≤ y.fl
  a0 : 0 ≤ y.at_
  a1 : y.at_ ≤ 1048576
theorem chkL_all {tx : List Nat} : ∀ {L : List Sx} {a : Int}, 0 ≤ a → chkL tx a L → ∀ y ∈ L, SegB tx y
  | [], _, _, _, y, hy => by cases hy
  | z :: L, a, ha, h, y, hy => by
    obtain ⟨⟨h1, h2, h3, h4, h5, h6, h7, h8⟩, hr⟩ := h
    rcases List.mem_cons.1 hy with rfl | hy
    · exact ⟨by omega, by omega, h3, h5, h6, h7, by omega⟩
    · exact chkL_all (by omega) hr y hy
def totS (L : List Sx) : Int := (L.map (fun y => y.t - y.f)).sum
theorem totS_cons (y : Sx) (L : List Sx) : totS (y :: L) = (y.t - y.f) + totS L := by simp [totS]
theorem totS_nn {tx : List Nat} : ∀ {L : List Sx}, (∀ y ∈ L, SegB tx y) → 0 ≤ totS L
  | [], _ => by simp [totS]
  | y :: L, h => by
    rw [totS_cons]
    have := (h y (by simp)).ft
    have : 0 ≤ totS L := totS_nn (tx := tx) (fun z hz => h z (List.mem_cons_of_mem _ hz))
    omega
theorem totS_chk {tx : List Nat} : ∀ {L : List Sx} {a : Int}, chkL tx a L → totS L = tx.length - a
  | [], a, h => by have : a = tx.length := h; simp [totS, this]
  | y :: L, a, h => by
    rw [totS_cons, totS_chk h.2, h.1.1]; omega
theorem totS_filter {tx : List Nat} (q : Sx → Bool) : ∀ {L : List Sx}, (∀ y ∈ L, SegB tx y) → totS (L.filter q) ≤ totS L
  | [], _ => by simp [totS]
  | y :: L, h => by
    have h1 := (h y (by simp)).ft
    have h2 : totS (L.filter q) ≤ totS L := totS_filter (tx := tx) q (fun z hz => h z (List.mem_cons_of_mem _ hz))
    rw [List.filter_cons]
    split
    · rw [totS_cons, totS_cons]; omega
    · rw [totS_cons]; omega

def inS (c : Nat) (y : Sx) : Bool := ev y.x.nd y.x.r (bitE c)
def selL (c : Nat) (L : List Sx) : List Sx := L.filter (inS c)
def pieceS (tx : List Nat) (y : Sx) : List Nat := (tx.take y.t.toNat).drop y.f.toNat
noncomputable def selP (tx : List Nat) (L : List Sx) (c : Nat) : List Nat := if chkS tx L = 0 then (selL c L).flatMap (pieceS tx) else []
def locL (tl at_ : Int) : Int → List Sx → Int × Bool
  | n, [] => if at_ = tl then (n, true) else (0, false)
  | n, y :: L => if y.f ≤ at_ ∧ at_ < y.t then (n + at_ - y.f, true) else locL tl at_ (n + (y.t - y.f)) L
noncomputable def locP (tx : List Nat) (L : List Sx) (c : Nat) (at_ : Int) : Int × Bool := if chkS tx L = 0 then locL tx.length at_ 0 (selL c L) else (0, false)
def glbL (tl : Int) : Int → List Sx → Int × Bool
  | at_, [] => if 0 < at_ then (0, false) else (tl, true)
  | at_, y :: L => if y.t - y.f ≤ at_ then glbL tl (at_ - (y.t - y.f)) L else (y.f + at_, true)
noncomputable def glbP (tx : List Nat) (L : List Sx) (c : Nat) (at_ : Int) : Int × Bool := if chkS tx L = 0 ∧ 0 ≤ at_ then glbL tx.length at_ (selL c L) else (0, false)
def oriL (at_ : Int) : List Sx → Int × Int × Bool
  | [] => (0, 0, false)
  | y :: L => if at_ < y.t then (y.fl, y.at_ + at_ - y.f, true) else oriL at_ L
noncomputable def oriP (tx : List Nat) (L : List Sx) (at_ : Int) : Int × Int × Bool := if chkS tx L = 0 ∧ 0 ≤ at_ ∧ at_ < tx.length then oriL at_ L else (0, 0, false)

theorem drop_get {α : Type} {l : List α} {i : Nat} {x : α} (h : l[i]? = some x) : l.drop i = x :: l.drop (i + 1) := by
  obtain ⟨h1, rfl⟩ := List.getElem?_eq_some_iff.1 h
  exact List.drop_eq_getElem_cons h1
theorem sx_scalar (y : Sx) : ∀ u ∈ y.cells, scalar u = true := by intro u hu; simp [Sx.cells] at hu; rcases hu with rfl | rfl | rfl | rfl | rfl | rfl <;> rfl

/-! ### selected -/
structure SelI (w0 : World) (base : Nat) (c : Nat) (L : List Sx) (i : Nat) (O : Option Addr) (oc : Nat) (w : World) : Prop where
  e : Ext w0 w
  le : i ≤ L.length
  own : Own w base 45 6 O (selL c (L.take i)).length oc ((selL c (L.take i)).flatMap Sx.cells)

set_option maxHeartbeats 1600000 in
theorem selected_fn (tx : List Nat) (A : Option Addr) (n cp : Nat) (L : List Sx) (c : Nat) (w : World) (h : SX w A n cp L) (hc : c ≤ 18446744073709551615) (hv : ∀ y ∈ L, chkD y.x.nd y.x.r = 0) (hn : n ≤ 65536) :
    Fn Tryz.prog 52 [srcV tx A n cp, .int .u64 c] w (fun u w' => ∃ O oc, u = .slice O (selL c L).length oc ∧ Ext w w' ∧ SX w' O (selL c L).length oc (selL c L) ∧ Own w' w.heap.size 45 6 O (selL c L).length oc ((selL c L).flatMap Sx.cells)) := by
  have hlen := h.sl.2
  refine fn_of_exec (c := { c52 with cuts := [] }) gx_ok Tryz.func52 rfl rfl rfl ?_
  refine new (fun w1 hE1 hz1 hB1 => ?_)
  refine load_blk hB1 rfl ?_
  refine loop gx_ok [11, 5] (fun s : Nat × Option Addr × Nat => [.int .i64 s.1, .slice s.2.1 (selL c (L.take s.1)).length s.2.2]) (fun s w' => SelI w1 w1.heap.size c L s.1 s.2.1 s.2.2 w') (fun s _ => L.length - s.1) (0, none, 0) rfl ⟨Ext.refl _, Nat.zero_le _, Own.nil _ _ _ _⟩ ?_
  rintro ⟨i, O, oc⟩ w2 hI
  have hE02 := hE1.trans hI.e
  have ho := hI.own
  have hle := hI.le
  simp only at ho hle
  refine wif_d (fun c3 => ?_) (fun c3 => ?_)
  · have hi : i < n := by omega
    refine index_sls sx_len (h.sl.ext hE02) rfl hi (fun p y hy hcl => ?_)
    have htk : L.take (i + 1) = L.take i ++ [y] := by rw [List.take_add_one, hy]; rfl
    refine loadN_at (vs := y.cells) rfl hcl ?_
    refine new (fun w3 hE3 hz3 hB3 => ?_)
    refine storeN_blk0 hB3 rfl (sc rfl) (fun w4 hg4 _ hB4 => ?_)
    have hE24 : Ext w2 w4 := newBox hE3 hB3 hg4
    have hE04 := hE02.trans hE24
    refine loadN_at (vs := [.slice y.x.A y.x.n y.x.c, .int .i64 y.x.r]) rfl (fun j v hj => by rw [Addr.add_add]; exact (hB4.cell _).trans (by match j, hj with | 0, hj => exact hj | 1, hj => exact hj)) ?_
    have hym := List.mem_of_getElem? hy
    refine call (dholds_fn y.x.A y.x.n y.x.c y.x.nd y.x.r c hc w4 ((h.dg y hym).ext hE04) (hv y hym)) ?_
    rintro _ w5 ⟨rfl, hE5⟩
    have hE25 := hE24.trans hE5
    have hB5 := hB4.ext hE5
    refine wif (fun d1 => ?_) (fun d1 => ?_)
    · have d1 : inS c y = true := d1
      have hsl : selL c (L.take (i + 1)) = selL c (L.take i) ++ [y] := by rw [htk]; unfold selL; rw [List.filter_append]; simp [d1]
      refine loadN_blk0 hB5 rfl ?_
      refine at_buildN gx_ok [y.cells] rfl rfl rfl rfl rfl ⟨rfl, rfl, ⟨⟩⟩ rfl (fun cs hh => by simp only [List.mem_singleton] at hh; subst hh; rfl) rfl (by decide) (by decide) ?_
      intro w6 hE6 hz6 hB6
      have hE26 := hE25.trans hE6
      have hs6 : Sl w6 6 (some ⟨w5.heap.size, 0, none⟩) 1 1 y.cells := Sl.own (sz := 6) (n := 1) hB6 (Nat.le_refl _) (by decide) (by simp [Sx.cells])
      have hfl : (selL c (L.take i)).length ≤ i := Nat.le_trans (List.length_filter_le _ _) (by simp; omega)
      refine at_app (n := (selL c (L.take i)).length) gx_ok rfl rfl rfl rfl rfl (by decide) rfl rfl ⟨_, rfl⟩ rfl rfl (ho.ext hE26) hs6 (sx_scalar y) (by unfold maxLen; omega) (by show ((selL c (L.take i)).length + 1) * 64 ≤ _; omega) (by have := hI.e.size; have := hE26.size; omega) ?_
      intro A' c' w7 hm7 hown7 hmv7
      refine norm_i64_to ((i + 1 : Nat) : Int) (by show ((i : Nat) : Int) + 1 = _; omega) (by omega) ?_
      refine ⟨(i + 1, A', c'), by simp only [hsl, List.length_append]; rfl, ⟨hm7.ext (hI.e.trans hE26) (fun k hk => (ho.rows k hk).1), by show i + 1 ≤ L.length; omega, ?_⟩, by show L.length - (i + 1) < L.length - i; omega⟩
      simp only
      rw [hsl, List.flatMap_append, List.length_append]
      simpa using hown7
    · have d1 : inS c y = false := d1
      have hsl : selL c (L.take (i + 1)) = selL c (L.take i) := by rw [htk]; unfold selL; rw [List.filter_append]; simp [d1]
      refine norm_i64_to ((i + 1 : Nat) : Int) (by show ((i : Nat) : Int) + 1 = _; omega) (by omega) ?_
      refine ⟨(i + 1, O, oc), by simp only [hsl]; rfl, ⟨hI.e.trans hE25, by show i + 1 ≤ L.length; omega, ?_⟩, by show L.length - (i + 1) < L.length - i; omega⟩
      simp only
      rw [hsl]
      exact ho.ext hE25
  · have hall : L.take i = L := List.take_of_length_le (by omega)
    rw [hall] at ho
    refine ⟨O, oc, ?_, hE02, ⟨⟨ho.sl, rfl⟩, fun y hy => (h.dg y (List.mem_filter.1 hy).1).ext hE02⟩, ho.up (by omega)⟩
    rw [hall]

/-! ### Select -/
theorem pieces_len {tx : List Nat} : ∀ {L : List Sx}, (∀ y ∈ L, SegB tx y) → ((L.flatMap (pieceS tx)).length : Int) = totS L
  | [], _ => rfl
  | y :: L, h => by
    have h1 := h y (by simp)
    have h2 := pieces_len (L := L) (tx := tx) (fun z hz => h z (List.mem_cons_of_mem _ hz))
    have := h1.f0
    have := h1.ft
    have := h1.tl
    rw [List.flatMap_cons, List.length_append, totS_cons, ← h2]
    have : (pieceS tx y).length = y.t.toNat - y.f.toNat := by unfold pieceS; rw [List.length_drop, List.length_take]; omega
    rw [this]; omega
theorem pieceS_b8 {tx : List Nat} (h8 : ∀ x ∈ tx, x < 256) (y : Sx) : ∀ x ∈ pieceS tx y, x < 256 := fun x hx => h8 x (List.mem_of_mem_take (List.mem_of_mem_drop hx))
structure SelJ (w0 : World) (base g : Nat) (tx : List Nat) (M : List Sx) (i : Nat) (w : World) : Prop where
  e : Ext w0 w
  le : i ≤ M.length
  b : ∃ A c, Bld w base g 86 [] A c ((M.take i).flatMap (pieceS tx))

set_option maxHeartbeats 1600000 in
theorem sselect_fn (tx : List Nat) (A : Option Addr) (n cp : Nat) (L : List Sx) (c : Nat) (w : World) (h : SX w A n cp L) (hc : c ≤ 18446744073709551615) (h8 : ∀ x ∈ tx, x < 256) :
    Fn Tryz.prog 29 [srcV tx A n cp, .int .u64 c] w (fun u w' => u = .string (strOf (selP tx L c)) ∧ Ext w w') := by
  have hlen := h.sl.2
  refine fn_of_exec (c := { c29 with cuts := [] }) gx_ok Tryz.func29 rfl rfl rfl ?_
  refine new (fun w1 hE1 hz1 hB1 => ?_)
  refine loadN_blk0 hB1 rfl ?_
  refine call (scheck_fn tx A n cp L w1 (h.ext hE1) h8) ?_
  rintro _ w2 ⟨rfl, hE2⟩
  have hE02 := hE1.trans hE2
  refine wif_ne (fun c1 => ?_) (fun c1 => ?_)
  · exact ⟨by unfold selP; rw [if_neg c1]; rfl, hE02⟩
  obtain ⟨t1, t2, t3⟩ := chkS_zero.1 c1
  have hall := chkL_all (Int.le_refl 0) t3
  refine new (fun w3 hE3 hz3 hB3 => ?_)
  have hE03 := hE02.trans hE3
  refine loadN_blk0 (hB1.ext (hE2.trans hE3)) rfl ?_
  refine call (selected_fn tx A n cp L c w3 (h.ext hE03) hc (fun y hy => (hall y hy).ck) (by omega)) ?_
  rintro _ w4 ⟨O, oc, rfl, hE4, hO4, how4⟩
  have hE04 := hE03.trans hE4
  have hmall : ∀ y ∈ selL c L, SegB tx y := fun y hy => hall y (List.mem_filter.1 hy).1
  have hmdg : ∀ y ∈ selL c L, SB w y.x.A y.x.n y.x.c y.x.nd := fun y hy => h.dg y (List.mem_filter.1 hy).1
  have htot : totS (selL c L) ≤ tx.length := by
    have e1 := totS_filter (inS c) hall
    have e2 := totS_chk t3
    unfold selL; omega
  have hml : (selL c L).length ≤ 65536 := Nat.le_trans (List.length_filter_le _ _) t2
  have hsp : selP tx L c = (selL c L).flatMap (pieceS tx) := if_pos c1
  generalize hM : selL c L = M at *
  have hz24 := hE4.size
  have hrow4 := how4.rows
  have hb4 : Bld w4 w4.heap.size w2.heap.size 86 [] none 0 (([] : List Sx).flatMap (pieceS tx)) := ⟨by omega, Nat.le_refl _, ⟨_, .inl rfl, hB3.ext hE4⟩, Own.nil _ _ _ _⟩
  have hg2 := hE02.size
  have hpl : ∀ i, (((M.take i).flatMap (pieceS tx)).length : Int) ≤ tx.length := fun i => by
    have e1 := pieces_len (L := M.take i) (tx := tx) (fun z hz => hmall z (List.mem_of_mem_take hz))
    have e2 := totS_nn (L := M.drop i) (tx := tx) (fun z hz => hmall z (List.mem_of_mem_drop hz))
    have e3 : totS M = totS (M.take i) + totS (M.drop i) := by
      unfold totS
      rw [← List.sum_append, ← List.map_append, List.take_append_drop]
    omega
  refine loop gx_ok [15] (fun i : Nat => [.int .i64 i]) (fun i w' => SelJ w2 w4.heap.size w2.heap.size tx M i w' ∧ Mod (fun k => k = w2.heap.size ∨ w4.heap.size ≤ k) w4 w') (fun i _ => M.length - i) 0 rfl ⟨⟨hE3.trans hE4, Nat.zero_le _, _, _, hb4⟩, Mod.refl _ _⟩ ?_
  rintro i w5 ⟨hI, hM45⟩
  have hE05 : Ext w w5 := hE02.trans hI.e
  have how5 : Own w5 w3.heap.size 45 6 O M.length oc (M.flatMap Sx.cells) := how4.mod hM45 (fun k hk hS => by have := hrow4 k hk; omega)
  obtain ⟨BA, bc, hb5⟩ := hI.b
  refine wif_d (fun c3 => ?_) (fun c3 => ?_)
  · have hi : i < M.length := by omega
    refine index_sls (l := M) sx_len ⟨how5.sl, rfl⟩ rfl hi (fun p y hy hcl => ?_)
    have hym := List.mem_of_getElem? hy
    have hyb := hmall y hym
    have htk : M.take (i + 1) = M.take i ++ [y] := by rw [List.take_add_one, hy]; rfl
    refine loadN_at (vs := y.cells) rfl hcl ?_
    refine new (fun w6 hE6 hz6 hB6 => ?_)
    refine storeN_blk0 hB6 rfl (sc rfl) (fun w7 hg7 _ hB7 => ?_)
    have hE57 : Ext w5 w7 := newBox hE6 hB6 hg7
    refine load_blk0 ((hB1.ext hE2).ext (hI.e.trans hE57)) rfl ?_
    refine load_blk0 hB7 rfl ?_
    refine load_blk hB7 rfl ?_
    have q1 := hyb.f0
    have q2 := hyb.ft
    have q3 := hyb.tl
    have hts := strOf_size tx
    refine need_to (v' := .string (strOf (pieceS tx y))) ⟨q1, by omega, by rw [hts]; omega⟩ (by rw [strOf_extract]; rfl) ?_
    have hpn := hpl (i + 1)
    rw [htk, List.flatMap_append, List.length_append] at hpn
    have hpe : [y].flatMap (pieceS tx) = pieceS tx y := by simp
    rw [hpe] at hpn
    have hps := strOf_size (pieceS tx y)
    refine call (writeString_fn w4.heap.size w2.heap.size _ [] BA bc _ (strOf (pieceS tx y)) w7 liesB0 (hb5.grow hE57) (by rw [hps]; omega)) ?_
    rintro _ w8 ⟨A8, c8, hb8, hm8, hv8⟩
    have hbr := (hb5.own.rows)
    have hS8 : ∀ k, BldS w2.heap.size BA k → k = w2.heap.size ∨ w4.heap.size ≤ k := fun k hk => hk.elim .inl (fun hk => .inr (hbr k hk).1)
    refine norm_i64_to ((i + 1 : Nat) : Int) (by show ((i : Nat) : Int) + 1 = _; omega) (by omega) ?_
    refine ⟨i + 1, rfl, ⟨⟨hm8.ext (hI.e.trans hE57) (fun k hk => by rcases hS8 k hk with e | e <;> omega), hi, A8, c8, ?_⟩, ?_⟩, by show M.length - (i + 1) < M.length - i; omega⟩
    · rw [htk, List.flatMap_append, hpe]
      rw [bytesOf_strOf (pieceS_b8 h8 y)] at hb8
      exact hb8
    · exact (hM45.trans (Mod.of_ext (fun k => k = w2.heap.size ∨ w4.heap.size ≤ k) hE57) (fun k hk => .inl hk)).trans (hm8.mono (fun k hk => .inl (hS8 k hk))) (fun k hk => .inl hk)
  · have hall : M.take i = M := List.take_of_length_le (by omega)
    rw [hall] at hb5
    have hpn := hpl i
    rw [hall] at hpn
    refine call (string_fn w4.heap.size w2.heap.size _ [] BA bc _ w5 hb5 (fun x hx => by
      obtain ⟨y, _, hxy⟩ := List.mem_flatMap.1 hx
      exact pieceS_b8 h8 y x hxy) (by omega)) ?_
    rintro _ w6 ⟨rfl, hm6⟩
    have hbr := (hb5.own.rows)
    exact ⟨by rw [hsp], hm6.ext hE05 (fun k hk => by have := hbr k hk; omega)⟩

/-! ### Local, Global -/
set_option maxHeartbeats 1600000 in
theorem slocal_fn (tx : List Nat) (A : Option Addr) (n cp : Nat) (L : List Sx) (c : Nat) (at_ : Int) (w : World) (h : SX w A n cp L) (hc : c ≤ 18446744073709551615) (h8 : ∀ x ∈ tx, x < 256) :
    Fn Tryz.prog 19 [srcV tx A n cp, .int .u64 c, .int .i64 at_] w (fun u w' => u = .tuple #[.int .i64 (locP tx L c at_).1, .bool (locP tx L c at_).2] ∧ Ext w w') := by
  have hlen := h.sl.2
  have hts := strOf_size tx
  refine fn_of_exec (c := { c19 with cuts := [] }) gx_ok Tryz.func19 rfl rfl rfl ?_
  refine new (fun w1 hE1 hz1 hB1 => ?_)
  refine loadN_blk0 hB1 rfl ?_
  refine call (scheck_fn tx A n cp L w1 (h.ext hE1) h8) ?_
  rintro _ w2 ⟨rfl, hE2⟩
  have hE02 := hE1.trans hE2
  refine wif_ne (fun c1 => ?_) (fun c1 => ?_)
  · exact ⟨by unfold locP; rw [if_neg c1], hE02⟩
  obtain ⟨t1, t2, t3⟩ := chkS_zero.1 c1
  have hall := chkL_all (Int.le_refl 0) t3
  refine loadN_blk0 (hB1.ext hE2) rfl ?_
  refine call (selected_fn tx A n cp L c w2 (h.ext hE02) hc (fun y hy => (hall y hy).ck) (by omega)) ?_
  rintro _ w4 ⟨O, oc, rfl, hE4, hO4, _⟩
  have hE04 := hE02.trans hE4
  have hmall : ∀ y ∈ selL c L, SegB tx y := fun y hy => hall y (List.mem_filter.1 hy).1
  have htot : totS (selL c L) ≤ tx.length := by
    have e1 := totS_filter (inS c) hall
    have e2 := totS_chk t3
    unfold selL; omega
  have hml : (selL c L).length ≤ 65536 := Nat.le_trans (List.length_filter_le _ _) t2
  have hsp : locP tx L c at_ = locL tx.length at_ 0 (selL c L) := if_pos c1
  rw [hsp]
  generalize hM : selL c L = M at *
  refine loop gx_ok [18, 8] (fun s : Nat × Int => [.int .i64 s.1, .int .i64 s.2]) (fun s w' => Ext w4 w' ∧ s.1 ≤ M.length ∧ 0 ≤ s.2 ∧ s.2 + totS (M.drop s.1) ≤ tx.length ∧ locL tx.length at_ 0 M = locL tx.length at_ s.2 (M.drop s.1)) (fun s _ => M.length - s.1) (0, 0) rfl ⟨Ext.refl _, Nat.zero_le _, Int.le_refl _, by simpa using htot, rfl⟩ ?_
  rintro ⟨i, b⟩ w5 ⟨hE5, hle, b0, bt, hrs⟩
  simp only at hle b0 bt hrs
  have hE05 := hE04.trans hE5
  refine wif_d (fun c3 => ?_) (fun c3 => ?_)
  · have hi : i < M.length := by simp only at c3; omega
    refine index_sls sx_len (hO4.ext hE5).sl rfl hi (fun p y hy hcl => ?_)
    have hy : M[i]? = some y := hy
    have hyb := hmall y (List.mem_of_getElem? hy)
    have q1 := hyb.f0
    have q2 := hyb.ft
    have q3 := hyb.tl
    rw [drop_get hy] at bt hrs
    rw [totS_cons] at bt
    have hnn : 0 ≤ totS (M.drop (i + 1)) := totS_nn (fun z hz => hmall z (List.mem_of_mem_drop hz))
    refine loadN_at (vs := y.cells) rfl hcl ?_
    refine new (fun w6 hE6 hz6 hB6 => ?_)
    refine storeN_blk0 hB6 rfl (sc rfl) (fun w7 hg7 _ hB7 => ?_)
    have hE57 : Ext w5 w7 := newBox hE6 hB6 hg7
    rw [locL] at hrs
    have next : ¬ (y.f ≤ at_ ∧ at_ < y.t) → locL tx.length at_ 0 M = locL tx.length at_ (b + (y.t - y.f)) (M.drop (i + 1)) := fun hh => by rw [hrs, if_neg hh]
    refine load_blk0 hB7 rfl ?_
    refine wif_d (fun d1 => ?_) (fun d1 => ?_)
    · refine load_blk hB7 rfl ?_
      refine wif_d (fun d2 => ?_) (fun d2 => ?_)
      · refine norm_i64_to (b + at_) rfl (by omega) ?_
        refine load_blk0 hB7 rfl ?_
        refine norm_i64_to (b + at_ - y.f) rfl (by omega) ?_
        exact ⟨by rw [hrs, if_pos ⟨d1, d2⟩], hE05.trans hE57⟩
      · refine load_blk hB7 rfl ?_
        refine load_blk0 hB7 rfl ?_
        refine norm_i64_to (y.t - y.f) rfl (by omega) ?_
        refine norm_i64_to (b + (y.t - y.f)) rfl (by omega) ?_
        refine norm_i64_to ((i + 1 : Nat) : Int) (by show ((i : Nat) : Int) + 1 = _; omega) (by omega) ?_
        exact ⟨(i + 1, b + (y.t - y.f)), rfl, ⟨hE5.trans hE57, hi, by show 0 ≤ b + (y.t - y.f); omega, by show b + (y.t - y.f) + totS (M.drop (i + 1)) ≤ _; omega, next (fun hh => d2 hh.2)⟩, by show M.length - (i + 1) < M.length - i; omega⟩
    · refine load_blk hB7 rfl ?_
      refine load_blk0 hB7 rfl ?_
      refine norm_i64_to (y.t - y.f) rfl (by omega) ?_
      refine norm_i64_to (b + (y.t - y.f)) rfl (by omega) ?_
      refine norm_i64_to ((i + 1 : Nat) : Int) (by show ((i : Nat) : Int) + 1 = _; omega) (by omega) ?_
      exact ⟨(i + 1, b + (y.t - y.f)), rfl, ⟨hE5.trans hE57, hi, by show 0 ≤ b + (y.t - y.f); omega, by show b + (y.t - y.f) + totS (M.drop (i + 1)) ≤ _; omega, next (fun hh => d1 hh.1)⟩, by show M.length - (i + 1) < M.length - i; omega⟩
  · rw [List.drop_eq_nil_of_le (by simp only at c3; omega), locL] at hrs
    refine load_blk0 (hB1.ext ((hE2.trans hE4).trans hE5)) rfl ?_
    refine wif_ne (fun d1 => ?_) (fun d1 => ?_)
    · exact ⟨by rw [hrs, if_neg (by rw [hts] at d1; exact d1)], hE05⟩
    · exact ⟨by rw [hrs, if_pos (by rw [hts] at d1; exact d1)], hE05⟩

set_option maxHeartbeats 1600000 in
theorem sglobal_fn (tx : List Nat) (A : Option Addr) (n cp : Nat) (L : List Sx) (c : Nat) (at_ : Int) (w : World) (h : SX w A n cp L) (hc : c ≤ 18446744073709551615) (h8 : ∀ x ∈ tx, x < 256) (h63 : at_ ≤ 9223372036854775807) :
    Fn Tryz.prog 21 [srcV tx A n cp, .int .u64 c, .int .i64 at_] w (fun u w' => u = .tuple #[.int .i64 (glbP tx L c at_).1, .bool (glbP tx L c at_).2] ∧ Ext w w') := by
  have hlen := h.sl.2
  have hts := strOf_size tx
  refine fn_of_exec (c := { c21 with cuts := [] }) gx_ok Tryz.func21 rfl rfl rfl ?_
  refine new (fun w1 hE1 hz1 hB1 => ?_)
  refine loadN_blk0 hB1 rfl ?_
  refine call (scheck_fn tx A n cp L w1 (h.ext hE1) h8) ?_
  rintro _ w2 ⟨rfl, hE2⟩
  have hE02 := hE1.trans hE2
  refine wif_ne (fun c1 => ?_) (fun c1 => ?_)
  · exact ⟨by unfold glbP; rw [if_neg (fun hh => c1 hh.1)], hE02⟩
  refine wif_d (fun c2 => ?_) (fun c2 => ?_)
  · exact ⟨by unfold glbP; rw [if_neg (fun hh => by omega)], hE02⟩
  obtain ⟨t1, t2, t3⟩ := chkS_zero.1 c1
  have hall := chkL_all (Int.le_refl 0) t3
  refine loadN_blk0 (hB1.ext hE2) rfl ?_
  refine call (selected_fn tx A n cp L c w2 (h.ext hE02) hc (fun y hy => (hall y hy).ck) (by omega)) ?_
  rintro _ w4 ⟨O, oc, rfl, hE4, hO4, _⟩
  have hE04 := hE02.trans hE4
  have hmall : ∀ y ∈ selL c L, SegB tx y := fun y hy => hall y (List.mem_filter.1 hy).1
  have hml : (selL c L).length ≤ 65536 := Nat.le_trans (List.length_filter_le _ _) t2
  have hsp : glbP tx L c at_ = glbL tx.length at_ (selL c L) := if_pos ⟨c1, by omega⟩
  rw [hsp]
  generalize hM : selL c L = M at *
  refine loop gx_ok [22, 2] (fun s : Nat × Int => [.int .i64 s.1, .int .i64 s.2]) (fun s w' => Ext w4 w' ∧ s.1 ≤ M.length ∧ 0 ≤ s.2 ∧ s.2 ≤ 9223372036854775807 ∧ glbL tx.length at_ M = glbL tx.length s.2 (M.drop s.1)) (fun s _ => M.length - s.1) (0, at_) rfl ⟨Ext.refl _, Nat.zero_le _, by show 0 ≤ at_; omega, h63, rfl⟩ ?_
  rintro ⟨i, b⟩ w5 ⟨hE5, hle, b0, bt, hrs⟩
  simp only at hle b0 bt hrs
  have hE05 := hE04.trans hE5
  refine wif_d (fun c3 => ?_) (fun c3 => ?_)
  · have hi : i < M.length := by simp only at c3; omega
    refine index_sls sx_len (hO4.ext hE5).sl rfl hi (fun p y hy hcl => ?_)
    have hy : M[i]? = some y := hy
    have hyb := hmall y (List.mem_of_getElem? hy)
    have q1 := hyb.f0
    have q2 := hyb.ft
    have q3 := hyb.tl
    rw [drop_get hy, glbL] at hrs
    refine loadN_at (vs := y.cells) rfl hcl ?_
    refine new (fun w6 hE6 hz6 hB6 => ?_)
    refine storeN_blk0 hB6 rfl (sc rfl) (fun w7 hg7 _ hB7 => ?_)
    have hE57 : Ext w5 w7 := newBox hE6 hB6 hg7
    refine load_blk hB7 rfl ?_
    refine load_blk0 hB7 rfl ?_
    refine norm_i64_to (y.t - y.f) rfl (by omega) ?_
    refine wif_d (fun d1 => ?_) (fun d1 => ?_)
    · rw [if_pos (by omega)] at hrs
      refine norm_i64_to (b - (y.t - y.f)) rfl (by omega) ?_
      refine norm_i64_to ((i + 1 : Nat) : Int) (by show ((i : Nat) : Int) + 1 = _; omega) (by omega) ?_
      exact ⟨(i + 1, b - (y.t - y.f)), rfl, ⟨hE5.trans hE57, hi, by show 0 ≤ b - (y.t - y.f); omega, by show b - (y.t - y.f) ≤ _; omega, hrs⟩, by show M.length - (i + 1) < M.length - i; omega⟩
    · rw [if_neg (by omega)] at hrs
      refine load_blk0 hB7 rfl ?_
      refine norm_i64_to (y.f + b) rfl (by omega) ?_
      exact ⟨by rw [hrs], hE05.trans hE57⟩
  · rw [List.drop_eq_nil_of_le (by simp only at c3; omega), glbL] at hrs
    refine wif_d (fun d1 => ?_) (fun d1 => ?_)
    · exact ⟨by rw [hrs, if_pos d1], hE05⟩
    · rw [if_neg d1] at hrs
      refine load_blk0 (hB1.ext ((hE2.trans hE4).trans hE5)) rfl ?_
      exact ⟨by rw [hrs, hts], hE05⟩

set_option maxHeartbeats 1600000 in
theorem sorigin_fn (tx : List Nat) (A : Option Addr) (n cp : Nat) (L : List Sx) (at_ : Int) (w : World) (h : SX w A n cp L) (h8 : ∀ x ∈ tx, x < 256) :
    Fn Tryz.prog 23 [srcV tx A n cp, .int .i64 at_] w (fun u w' => u = .tuple #[.int .i64 (oriP tx L at_).1, .int .i64 (oriP tx L at_).2.1, .bool (oriP tx L at_).2.2] ∧ Ext w w') := by
  have hlen := h.sl.2
  have hts := strOf_size tx
  refine fn_of_exec (c := { c23 with cuts := [] }) gx_ok Tryz.func23 rfl rfl rfl ?_
  refine new (fun w1 hE1 hz1 hB1 => ?_)
  refine loadN_blk0 hB1 rfl ?_
  refine call (scheck_fn tx A n cp L w1 (h.ext hE1) h8) ?_
  rintro _ w2 ⟨rfl, hE2⟩
  have hE02 := hE1.trans hE2
  refine wif_ne (fun c1 => ?_) (fun c1 => ?_)
  · exact ⟨by unfold oriP; rw [if_neg (fun hh => c1 hh.1)], hE02⟩
  refine wif_d (fun c2 => ?_) (fun c2 => ?_)
  · exact ⟨by unfold oriP; rw [if_neg (fun hh => by omega)], hE02⟩
  refine load_blk0 (hB1.ext hE2) rfl ?_
  refine wif_d (fun c3 => ?_) (fun c3 => ?_)
  · exact ⟨by unfold oriP; rw [if_neg (fun hh => by omega)], hE02⟩
  obtain ⟨t1, t2, t3⟩ := chkS_zero.1 c1
  have hall := chkL_all (Int.le_refl 0) t3
  have hsp : oriP tx L at_ = oriL at_ L := if_pos ⟨c1, by omega, by omega⟩
  rw [hsp]
  refine load_blk (hB1.ext hE2) rfl ?_
  refine loop gx_ok [26] (fun s : Nat => [.int .i64 s]) (fun s w' => Ext w2 w' ∧ s ≤ L.length ∧ oriL at_ L = oriL at_ (L.drop s)) (fun s _ => L.length - s) 0 rfl ⟨Ext.refl _, Nat.zero_le _, rfl⟩ ?_
  rintro i w5 ⟨hE5, hle, hrs⟩
  have hE05 := hE02.trans hE5
  refine wif_d (fun c3 => ?_) (fun c3 => ?_)
  · have hi : i < n := by omega
    refine index_sls sx_len (h.ext hE05).sl rfl hi (fun p y hy hcl => ?_)
    have hyb := hall y (List.mem_of_getElem? hy)
    have q1 := hyb.f0
    have q2 := hyb.ft
    have q3 := hyb.tl
    have q4 := hyb.a0
    have q5 := hyb.a1
    rw [drop_get hy, oriL] at hrs
    refine loadN_at (vs := y.cells) rfl hcl ?_
    refine new (fun w6 hE6 hz6 hB6 => ?_)
    refine storeN_blk0 hB6 rfl (sc rfl) (fun w7 hg7 _ hB7 => ?_)
    have hE57 : Ext w5 w7 := newBox hE6 hB6 hg7
    refine load_blk hB7 rfl ?_
    refine wif_d (fun d1 => ?_) (fun d1 => ?_)
    · rw [if_pos d1] at hrs
      have qB : ∀ w', Ext w7 w' → ∀ (j : Nat) (v : Value), y.cells[j]? = some v → w'.cell? ((⟨w5.heap.size, 0, none⟩ : Addr).add j) = some v := fun w' hw' j v hj => by rw [(hB7.ext hw').cell]; exact hj
      refine draw gx_ok (by kernel_rfl) ?_
      refine qload (v := .int .i64 y.fl) (fun w' hw' => qB w' hw' 2 _ rfl) ?_
      refine qload (v := .int .i64 y.at_) (fun w' hw' => qB w' hw' 3 _ rfl) ?_
      refine norm_i64_to (y.at_ + at_) rfl (by omega) ?_
      refine qload (v := .int .i64 y.f) (fun w' hw' => by have := qB w' hw' 0 _ rfl; simpa [Addr.add] using this) ?_
      refine norm_i64_to (y.at_ + at_ - y.f) rfl (by omega) ?_
      intro w8 hE8
      exact ⟨by rw [hrs], (hE05.trans hE57).trans hE8⟩
    · rw [if_neg d1] at hrs
      refine norm_i64_to ((i + 1 : Nat) : Int) (by show ((i : Nat) : Int) + 1 = _; omega) (by omega) ?_
      exact ⟨i + 1, rfl, ⟨hE5.trans hE57, by omega, hrs⟩, by show L.length - (i + 1) < L.length - i; omega⟩
  · rw [List.drop_eq_nil_of_le (by omega), oriL] at hrs
    exact ⟨by rw [hrs], hE05⟩
end

section
open Go Go.RowKit

/-! ### Keys of two numbers -/
abbrev I2 := Int × Int
abbrev i2K : I2 → Value := fun t => .agg #[.int .i64 t.1, .int .i64 t.2]
theorem i2Eq (a b : I2) (n : Nat) (w : World) : (Op.equalIn (n + 2) 43 (i2K a) (i2K b)).run Tryz.prog w = .ok (decide (a = b)) w := by
  obtain ⟨i, hi⟩ := Option.isSome_iff_exists.1 (show (Tryz.prog.info? 3).isSome = true by kernel_rfl)
  obtain ⟨a0, a1⟩ := a
  obtain ⟨b0, b1⟩ := b
  have e := run_equalIn_array (w := w) (n + 1) #[.int .i64 a0, .int .i64 a1] #[.int .i64 b0, .int .i64 b1] Tryz.underlying43 hi
  rw [ci1, show List.range 2 = [0, 1] from rfl] at e
  refine e.trans ?_
  have p0 : ∀ x y : Int, (part 3 #[Value.int .i64 x, .int .i64 y] (0 * 1)).run Tryz.prog w = .ok (.int .i64 x) w := fun x y => part_one k3 rfl w
  have p1 : ∀ x y : Int, (part 3 #[Value.int .i64 x, .int .i64 y] (1 * 1)).run Tryz.prog w = .ok (.int .i64 y) w := fun x y => part_one k3 rfl w
  have dd : decide ((a0, a1) = (b0, b1)) = (a0 == b0 && a1 == b1) := by
    by_cases h0 : a0 = b0 <;> by_cases h1 : a1 = b1 <;> simp [h0, h1]
  rw [dd]
  simp only [Op.eqItems, Sem.run_bind, p0, Result.andThen_ok, intEq]
  cases h0 : a0 == b0 with
  | false => simp
  | true =>
    simp only [Bool.not_true, Bool.false_eq_true, if_false, Sem.run_bind, p1, Result.andThen_ok, intEq, Bool.true_and]
    cases h1 : a1 == b1 <;> simp
theorem i2Check (b : Bool) (a : I2) (n : Nat) (w : World) : (Instr.checkKey b (n + 2) 43 (i2K a)).run Tryz.prog w = .ok () w := by
  obtain ⟨i, hi⟩ := Option.isSome_iff_exists.1 (show (Tryz.prog.info? 3).isSome = true by kernel_rfl)
  have p0 : ∀ x y : Int, (part 3 #[Value.int .i64 x, .int .i64 y] 0).run Tryz.prog w = .ok (.int .i64 x) w := fun x y => part_one k3 rfl w
  have p1 : ∀ x y : Int, (part 3 #[Value.int .i64 x, .int .i64 y] 1).run Tryz.prog w = .ok (.int .i64 y) w := fun x y => part_one k3 rfl w
  have hz : (sizeOf 3).run Tryz.prog w = .ok 1 w := by rw [← ci1]; exact Go.run_sizeOf w hi
  simp [Instr.checkKey, run_underlying Tryz.underlying43, run_underlying Tryz.underlying3, hz, p0, p1, Std.Legacy.Range.forIn_eq_forIn_range', Std.Legacy.Range.size, List.range'_succ]
theorem i2Key : KeyQ Tryz.prog 43 i2K :=
  KeyQ.askingA Tryz.underlying43 (fun a b w => i2Eq a b 9998 w) (fun b a w => i2Check b a 9998 w) (fun a => by simp [Instr.sameBits])

/-! ### Common configurations -/
def Meets (a : List Br) (x : Int) (b : List Br) (y : Int) : Prop := ∃ e, ev a x e = true ∧ ev b y e = true
theorem ev_some {a : List Br} (h : Rd0 a) {x : Int} (h0 : 0 ≤ x) (h1 : x < a.length + 2) (hx : x ≠ 0) : ∃ e, ev a x e = true := by
  apply Classical.byContradiction
  intro hn
  refine hx (inj h h0 (by decide) h1 (by omega) (fun e => ?_))
  have e1 : ev a 0 e = false := by rw [ev_lt (by decide)]; rfl
  rw [e1]
  cases hc : ev a x e with
  | false => rfl
  | true => exact absurd ⟨e, hc⟩ hn
theorem meets_kids {a b : List Br} (ha : Rd0 a) (hb : Rd0 b) {x y : Int} (x0 : 0 ≤ x) (x1 : x < a.length + 2) (y0 : 0 ≤ y) (y1 : y < b.length + 2) {v : Int} (hv : v = min (lvlD a x) (lvlD b y)) (h64 : v < 64) :
    Meets a x b y ↔ Meets a (sideD a x v).1 b (sideD b y v).1 ∨ Meets a (sideD a x v).2 b (sideD b y v).2 := by
  have l1 : v ≤ lvlD a x := by rw [hv, Int.min_def]; split <;> omega
  have l2 : v ≤ lvlD b y := by rw [hv, Int.min_def]; split <;> omega
  obtain ⟨p1, p2, p3, p4, p5⟩ := side_mean ha x0 x1 l1 h64
  obtain ⟨q1, q2, q3, q4, q5⟩ := side_mean hb y0 y1 l2 h64
  have v0 : 0 ≤ v := by
    have := ha.lvl0 x1
    have := hb.lvl0 y1
    rw [hv, Int.min_def]; split <;> omega
  constructor
  · rintro ⟨e, e1, e2⟩
    rw [p1] at e1
    rw [q1] at e2
    cases he : e v.toNat with
    | true => rw [he, if_pos rfl] at e1 e2; exact .inr ⟨e, e1, e2⟩
    | false => rw [he, if_neg (by decide)] at e1 e2; exact .inl ⟨e, e1, e2⟩
  · rintro (⟨e, e1, e2⟩ | ⟨e, e1, e2⟩)
    · refine ⟨upd e v.toNat false, ?_, ?_⟩
      · rw [p1, show upd e v.toNat false v.toNat = false from if_pos rfl, if_neg (by decide), ev_upd ha v.toNat false e _ _ (Nat.lt_succ_self _) p4 (by omega)]; exact e1
      · rw [q1, show upd e v.toNat false v.toNat = false from if_pos rfl, if_neg (by decide), ev_upd hb v.toNat false e _ _ (Nat.lt_succ_self _) q4 (by omega)]; exact e2
    · refine ⟨upd e v.toNat true, ?_, ?_⟩
      · rw [p1, show upd e v.toNat true v.toNat = true from if_pos rfl, if_pos rfl, ev_upd ha v.toNat true e _ _ (Nat.lt_succ_self _) p5 (by omega)]; exact e1
      · rw [q1, show upd e v.toNat true v.toNat = true from if_pos rfl, if_pos rfl, ev_upd hb v.toNat true e _ _ (Nat.lt_succ_self _) q5 (by omega)]; exact e2

/-! ### meets -/
structure MP where
  D : DV
  E : DV
  bo : Nat
  sx : Nat
  ax : Nat
  bx : Nat
  cx : Nat
  q : Nat
def MP.caps (p : MP) : List Value := [VP.ptr p.bo, VP.ptr p.sx, VP.ptr p.ax, VP.ptr p.bx, VP.ptr p.cx]
def MP.clo (p : MP) : Value := .func (.func 101) #[] #[VP.ptr p.bo, VP.ptr p.sx, VP.ptr p.ax, VP.ptr p.bx, VP.ptr p.cx]
structure MK (w : World) (p : MP) : Prop where
  bob : Blk w p.bo 4 [.bool true]
  sxb : Blk w p.sx 169 [.map (some p.q)]
  axb : Blk w p.ax 42 p.D.cells
  bxb : Blk w p.bx 42 p.E.cells
  cxb : Blk w p.cx 170 [p.clo]
  as_ : SB w p.D.A p.D.n p.D.c p.D.nd
  bs : SB w p.E.A p.E.n p.E.c p.E.nd
  off : p.bo ≠ p.q ∧ p.sx ≠ p.q ∧ p.ax ≠ p.q ∧ p.bx ≠ p.q ∧ p.cx ≠ p.q
  rowA : ∀ ad, p.D.A = some ad → 0 < p.D.n → ad.block ≠ p.q
  rowB : ∀ ad, p.E.A = some ad → 0 < p.E.n → ad.block ≠ p.q
theorem MK.mod {w w' : World} {p : MP} (h : MK w p) (hm : Mod (· = p.q) w w') : MK w' p := by
  obtain ⟨o1, o2, o3, o4, o5⟩ := h.off
  refine ⟨h.bob.mod hm o1, h.sxb.mod hm o2, h.axb.mod hm o3, h.bxb.mod hm o4, h.cxb.mod hm o5, ⟨h.as_.1.modS hm ?_, h.as_.2⟩, ⟨h.bs.1.modS hm ?_, h.bs.2⟩, h.off, h.rowA, h.rowB⟩
  · rintro h0 i ⟨ad, e, rfl⟩
    exact h.rowA ad e h0
  · rintro h0 i ⟨ad, e, rfl⟩
    exact h.rowB ad e h0
theorem MK.ext {w w' : World} {p : MP} (h : MK w p) (k : Ext w w') : MK w' p := h.mod (Mod.of_ext _ k)
/-- The pairs seen. -/
def SeenM (w : World) (q : Nat) (S : List I2) : Prop := ∃ m, MapQ i2K w q m ∧ ∀ t, (assoc t m).getD (.bool false) = .bool (decide (t ∈ S))
def MtC (p : MP) (x y : Int) (S : List I2) (w : World) (v : Value) (w' : World) : Prop :=
  Mod (· = p.q) w w' ∧ ∃ r : Bool, v = .bool r ∧ (r = true → Meets p.D.nd x p.E.nd y) ∧ (r = false → ¬ Meets p.D.nd x p.E.nd y ∧ ∃ S', SeenM w' p.q S' ∧ ∀ t ∈ S', t ∈ S ∨ ¬ Meets p.D.nd t.1 p.E.nd t.2)

set_option maxHeartbeats 1600000 in
theorem meets1_fn (p : MP) (ha : Rd0 p.D.nd) (hb : Rd0 p.E.nd) : ∀ (k : Nat) (x y : Int) (S : List I2) (w : World),
    MK w p → SeenM w p.q S → (∀ t ∈ S, t.1 + t.2 ≤ x + y → ¬ Meets p.D.nd t.1 p.E.nd t.2) → 0 ≤ x → 0 ≤ y → x < p.D.n + 2 → y < p.E.n + 2 → x + y < k →
    Fn Tryz.prog 101 (.int .i64 x :: .int .i64 y :: p.caps) w (MtC p x y S w)
  | 0, x, y, _, _, _, _, _, x0, y0, _, _, hk => by omega
  | k + 1, x, y, S, w, hK, hS, hno, x0, y0, hx, hy, hk => by
    have ih := meets1_fn p ha hb k
    have hal : p.D.nd.length = p.D.n := hK.as_.2
    have hbl : p.E.nd.length = p.E.n := hK.bs.2
    refine fn_of_exec (c := { c101 with cuts := [] }) gx_ok Tryz.func101 rfl rfl rfl ?_
    refine wif_eq (fun c1 => ?_) (fun c1 => ?_)
    · exact ⟨Mod.refl _ _, false, rfl, fun h => (by cases h), fun _ => ⟨(fun ⟨e, e1, _⟩ => by rw [c1, ev_lt (by decide)] at e1; cases e1), S, hS, fun t ht => .inl ht⟩⟩
    refine wif_d (fun c2 => ?_) (fun c2 => ?_)
    · refine load_blk0 hK.bob rfl ?_
      by_cases y1 : y = 1
      · subst y1
        refine wif_f rfl ?_
        refine wif_dt c2 ?_
        refine ⟨Mod.refl _ _, true, rfl, fun _ => ?_, fun h => by cases h⟩
        obtain ⟨e, he⟩ := ev_some ha x0 (by omega) c1
        exact ⟨e, he, by rw [ev_lt (by decide)]; rfl⟩
      · have y00 : y = 0 := by omega
        subst y00
        refine wif_t rfl ?_
        exact ⟨Mod.refl _ _, false, rfl, fun h => (by cases h), fun _ => ⟨(fun ⟨e, _, e1⟩ => by rw [ev_lt (by decide)] at e1; cases e1), S, hS, fun t ht => .inl ht⟩⟩
    refine wif_df c2 ?_
    obtain ⟨mq, hmq, hmem⟩ := hS
    refine load_blk0 hK.sxb rfl ?_
    refine at_lookupQ (kv := i2K) (a := ((x, y) : I2)) gx_ok rfl rfl rfl rfl i2Key rfl rfl hmq (hmem (x, y)) ?_
    refine wif_d (fun c3 => ?_) (fun c3 => ?_)
    · exact ⟨Mod.refl _ _, false, rfl, fun h => (by cases h), fun _ => ⟨hno (x, y) c3 (Int.le_refl _), S, ⟨mq, hmq, hmem⟩, fun t ht => .inl ht⟩⟩
    refine load_blk0 hK.sxb rfl ?_
    refine at_mapUpdateQ (kv := i2K) (a := ((x, y) : I2)) gx_ok rfl rfl rfl rfl i2Key rfl rfl rfl hmq (fun w1 hM1 hz1 hq1 => ?_)
    have hK1 := hK.mod hM1
    have hS1 : SeenM w1 p.q ((x, y) :: S) := ⟨_, hq1, fun t => by
      rw [assoc_set]
      by_cases ht : t = (x, y)
      · subst ht; simp
      · rw [if_neg ht, hmem t]; simp [ht]⟩
    have hv64 : min (lvlD p.D.nd x) (lvlD p.E.nd y) < 64 := by
      have := lvl_lt hb.dok (n := y) c2 (by omega)
      rw [Int.min_def]; split <;> omega
    have hl0 := ha.lvl0 (n := x) (by omega)
    have hl1 := hb.lvl0 (n := y) (by omega)
    refine draw_plan gx_ok (Ext w1) 8 [(true, 0), (true, 1), (true, 3), (true, 4), (false, 2), (false, 5), (true, 6), (true, 7)] (by kernel_rfl) (Ext.drew w1) ?_
    refine qloadN (vs := p.D.cells) rfl (fun w' hw' j v hj => by rw [(hK1.axb.ext hw').cell]; exact hj) ?_
    refine qloadN (vs := p.E.cells) rfl (fun w' hw' j v hj => by rw [(hK1.bxb.ext hw').cell]; exact hj) ?_
    refine call (level_fn p.D.A p.D.n p.D.c p.D.r x p.D.nd _ (hK1.as_.ext (Ext.drew w1)) (by omega)) ?_
    rintro u w2 ⟨rfl, hE2⟩
    have hE12 := (Ext.drew w1).trans hE2
    refine ⟨hE12, ?_⟩
    refine call (level_fn p.E.A p.E.n p.E.c p.E.r y p.E.nd _ (hK1.bs.ext hE12) (by omega)) ?_
    rintro u w3 ⟨rfl, hE3⟩
    have hE13 := hE12.trans hE3
    refine ⟨hE13, ?_⟩
    have hmin : (if lvlD p.E.nd y < lvlD p.D.nd x then lvlD p.E.nd y else lvlD p.D.nd x) = min (lvlD p.D.nd x) (lvlD p.E.nd y) := by
      rw [Int.min_def]; split <;> split <;> omega
    refine norm (m := min (lvlD p.D.nd x) (lvlD p.E.nd y)) hmin ?_
    have hkids := meets_kids ha hb x0 (by omega) y0 (by omega) (rfl : min (lvlD p.D.nd x) (lvlD p.E.nd y) = _) hv64
    have hvx : lvlD p.D.nd x = min (lvlD p.D.nd x) (lvlD p.E.nd y) ∨ lvlD p.E.nd y = min (lvlD p.D.nd x) (lvlD p.E.nd y) := by rw [Int.min_def]; split <;> simp
    generalize hveq : min (lvlD p.D.nd x) (lvlD p.E.nd y) = v at *
    obtain ⟨s1, s2, s3, s4, s5⟩ := sideD_le ha.dok (n := x) x0 hv64
    obtain ⟨t1, t2, t3, t4, t5⟩ := sideD_le hb.dok (n := y) y0 hv64
    have dec : (sideD p.D.nd x v).1 + (sideD p.E.nd y v).1 < x + y ∧ (sideD p.D.nd x v).2 + (sideD p.E.nd y v).2 < x + y := by
      rcases hvx with e | e
      · have := s5 e; omega
      · have := t5 e; omega
    have hK3 := hK1.ext hE13
    refine loadN_blk0 hK3.axb rfl ?_
    refine call (dsides_fn p.D.A p.D.n p.D.c p.D.r x v p.D.nd _ hK3.as_ (by omega) hv64) ?_
    rintro u w4 ⟨rfl, hE4⟩
    have hK4 := hK3.ext hE4
    refine loadN_blk0 hK4.bxb rfl ?_
    refine call (dsides_fn p.E.A p.E.n p.E.c p.E.r y v p.E.nd _ hK4.bs (by omega) hv64) ?_
    rintro u w5 ⟨rfl, hE5⟩
    have hK5 := hK4.ext hE5
    have hE15 := (hE13.trans hE4).trans hE5
    have hM5 : Mod (· = p.q) w w5 := hM1.trans (Mod.of_ext (· = p.q) hE15) (fun i hi => .inl hi)
    have hS5 : SeenM w5 p.q ((x, y) :: S) := let ⟨m, k1, k2⟩ := hS1; ⟨m, k1.ext hE15, k2⟩
    refine load_blk0 hK5.cxb rfl ?_
    refine call (ih (sideD p.D.nd x v).1 (sideD p.E.nd y v).1 ((x, y) :: S) w5 hK5 hS5 (fun t ht hle => by
      rcases List.mem_cons.1 ht with rfl | ht
      · exact absurd hle (by simp only; omega)
      · exact hno t ht (by omega)) s1 t1 (by omega) (by omega) (by omega)) ?_
    rintro _ w6 ⟨hM6, r0, rfl, ht0, hf0⟩
    have hM06 : Mod (· = p.q) w w6 := hM5.trans hM6 (fun i hi => .inl hi)
    cases r0 with
    | true =>
      refine wif_t rfl ?_
      exact ⟨hM06, true, rfl, fun _ => hkids.2 (.inl (ht0 rfl)), fun h => by cases h⟩
    | false =>
      obtain ⟨n0, S6, hS6, hin6⟩ := hf0 rfl
      refine wif_f rfl ?_
      have hK6 := hK5.mod hM6
      refine load_blk0 hK6.cxb rfl ?_
      refine call (ih (sideD p.D.nd x v).2 (sideD p.E.nd y v).2 S6 w6 hK6 hS6 (fun t ht hle => by
        rcases hin6 t ht with ht | ht
        · rcases List.mem_cons.1 ht with rfl | ht
          · exact absurd hle (by simp only; omega)
          · exact hno t ht (by omega)
        · exact ht) s3 t3 (by omega) (by omega) (by omega)) ?_
      rintro _ w7 ⟨hM7, r1, rfl, ht1, hf1⟩
      have hM07 : Mod (· = p.q) w w7 := hM06.trans hM7 (fun i hi => .inl hi)
      refine ⟨hM07, r1, rfl, fun h => hkids.2 (.inr (ht1 h)), fun h => ?_⟩
      obtain ⟨n1, S7, hS7, hin7⟩ := hf1 h
      have nn : ¬ Meets p.D.nd x p.E.nd y := fun hh => (hkids.1 hh).elim n0 n1
      refine ⟨nn, S7, hS7, fun t ht => ?_⟩
      rcases hin7 t ht with ht | ht
      · rcases hin6 t ht with ht | ht
        · rcases List.mem_cons.1 ht with rfl | ht
          · exact .inr nn
          · exact .inl ht
        · exact .inr ht
      · exact .inr ht

theorem meets_fn (A : Option Addr) (n c : Nat) (a : List Br) (ra : Int) (B : Option Addr) (m d : Nat) (b : List Br) (rb : Int) (w : World) (h : SB w A n c a) (h' : SB w B m d b) (ha : VD a ra) (hb : VD b rb) :
    Fn Tryz.prog 63 [dgV A n c ra, dgV B m d rb, .bool true] w (fun u w' => ∃ r : Bool, u = .bool r ∧ Ext w w' ∧ (r = true ↔ Meets a ra b rb)) := by
  have hal := h.2
  have hbl := h'.2
  refine fn_of_exec (c := { c63 with cuts := [] }) gx_ok Tryz.func63 rfl rfl rfl ?_
  refine new (fun w1 hE1 hz1 hB1 => ?_)
  refine new (fun w2 hE2 hz2 hB2 => ?_)
  refine new (fun w3 hE3 hz3 hB3 => ?_)
  have hE03 := (hE1.trans hE2).trans hE3
  refine at_makeMapQ gx_ok i2K rfl ?_
  intro w4 hE4 hz4 hq4
  refine new (fun w5 hE5 hz5 hB5 => ?_)
  refine store_mod0 hB5 (by decide) (fun w6 hM6 hB6 => ?_)
  have hE46 : Ext w4 w6 := hM6.ext hE5 (fun i hi => by omega)
  refine new (fun w7 hE7 hz7 hB7 => ?_)
  refine store_mod0 hB7 (by decide) (fun w8 hM8 hB8 => ?_)
  have hE68 : Ext w6 w8 := hM8.ext hE7 (fun i hi => by omega)
  have hE48 := hE46.trans hE68
  have hE38 := hE4.trans hE48
  have hE08 := hE03.trans hE38
  have z6 := hE46.size
  let p : MP := ⟨⟨A, n, c, a, ra⟩, ⟨B, m, d, b, rb⟩, w2.heap.size, w4.heap.size, w.heap.size, w1.heap.size, w6.heap.size, w3.heap.size⟩
  have hK : MK w8 p := by
    refine ⟨hB3.ext hE38, hB6.ext hE68, hB1.ext ((hE2.trans hE3).trans hE38), hB2.ext (hE3.trans hE38), hB8, h.ext hE08, h'.ext hE08, ?_, fun ad e h0 => ?_, fun ad e h0 => ?_⟩
    · simp only [p]; omega
    · have := SB.lt h ad e h0
      simp only [p]; omega
    · have := SB.lt h' ad e h0
      simp only [p]; omega
  refine load_blk0 hK.cxb rfl ?_
  refine load_blk hK.axb rfl ?_
  refine load_blk hK.bxb rfl ?_
  refine call (meets1_fn p ha.rd0 hb.rd0 (ra.toNat + rb.toNat + 1) ra rb [] w8 hK ⟨[], hq4.ext hE48, fun t => rfl⟩ (fun t ht => by cases ht) ha.2.1 hb.2.1 (by have := ha.2.2.1; simp only [p]; omega) (by have := hb.2.2.1; simp only [p]; omega) (by have := ha.2.1; have := hb.2.1; omega)) ?_
  rintro _ w9 ⟨hM9, r, rfl, h1, h2⟩
  refine ⟨r, rfl, hM9.ext hE08 (fun i hi => by simp only [p] at hi; have := hE03.size; omega), ⟨h1, fun hh => ?_⟩⟩
  cases r with
  | true => rfl
  | false => exact absurd hh (h2 rfl).1

open Classical in
/-- What Disjoint answers. -/
noncomputable def disP (a : List Br) (ra : Int) (b : List Br) (rb : Int) : Bool := decide (chkD a ra = 0 ∧ chkD b rb = 0 ∧ ¬ Meets a ra b rb)
open Classical in
theorem disP_iff {a : List Br} {ra : Int} {b : List Br} {rb : Int} : disP a ra b rb = true ↔ chkD a ra = 0 ∧ chkD b rb = 0 ∧ ¬ Meets a ra b rb := by unfold disP; exact decide_eq_true_iff
theorem disP_t {a : List Br} {ra : Int} {b : List Br} {rb : Int} (h : chkD a ra = 0 ∧ chkD b rb = 0 ∧ ¬ Meets a ra b rb) : disP a ra b rb = true := disP_iff.2 h
theorem disP_f {a : List Br} {ra : Int} {b : List Br} {rb : Int} (h : ¬ (chkD a ra = 0 ∧ chkD b rb = 0 ∧ ¬ Meets a ra b rb)) : disP a ra b rb = false := by
  cases hh : disP a ra b rb with
  | false => rfl
  | true => exact absurd (disP_iff.1 hh) h
theorem disjoint_fn (A : Option Addr) (n c : Nat) (a : List Br) (ra : Int) (B : Option Addr) (m d : Nat) (b : List Br) (rb : Int) (w : World) (h : SB w A n c a) (h' : SB w B m d b) :
    Fn Tryz.prog 35 [dgV A n c ra, dgV B m d rb] w (fun u w' => u = .bool (disP a ra b rb) ∧ Ext w w') := by
  refine fn_of_exec (c := { c35 with cuts := [] }) gx_ok Tryz.func35 rfl rfl rfl ?_
  refine new (fun w1 hE1 hz1 hB1 => ?_)
  refine new (fun w2 hE2 hz2 hB2 => ?_)
  have hE02 := hE1.trans hE2
  refine loadN_blk0 (hB1.ext hE2) rfl ?_
  refine loadN_blk0 hB2 rfl ?_
  refine at_buildN gx_ok [(⟨A, n, c, a, ra⟩ : DV).cells, (⟨B, m, d, b, rb⟩ : DV).cells] rfl rfl rfl rfl rfl ⟨rfl, rfl, rfl, rfl, ⟨⟩⟩ rfl (fun cs h => by simp only [List.mem_cons, List.not_mem_nil, or_false] at h; rcases h with rfl | rfl <;> rfl) rfl (by decide) (by decide) ?_
  intro w5 hE5 hz5 hB5
  have hE05 := hE02.trans hE5
  have hL : SlS DV.cells 2 w5 (some ⟨w2.heap.size, 0, none⟩) 2 2 [⟨A, n, c, a, ra⟩, ⟨B, m, d, b, rb⟩] := ⟨Sl.own (sz := 2) (n := 2) hB5 (Nat.le_refl _) (by decide) (by simp [DV.cells]), rfl⟩
  refine call (dcheck_fn _ 2 2 _ w5 hL (fun x hx => by
    simp only [List.mem_cons, List.not_mem_nil, or_false] at hx
    rcases hx with rfl | rfl
    · exact h.ext hE05
    · exact h'.ext hE05)) ?_
  rintro v w6 ⟨rfl, hE6⟩
  have hE06 := hE05.trans hE6
  have ef : firstD [(⟨A, n, c, a, ra⟩ : DV), ⟨B, m, d, b, rb⟩] = if chkD a ra ≠ 0 then chkD a ra else if chkD b rb ≠ 0 then chkD b rb else 0 := rfl
  have hf0 : firstD [(⟨A, n, c, a, ra⟩ : DV), ⟨B, m, d, b, rb⟩] = 0 ↔ chkD a ra = 0 ∧ chkD b rb = 0 := by
    rw [ef]
    by_cases h1 : chkD a ra = 0
    · rw [if_neg (fun hh => hh h1)]
      by_cases h2 : chkD b rb = 0
      · rw [if_neg (fun hh => hh h2)]; simp [h1, h2]
      · rw [if_pos h2]; simp [h2]
    · rw [if_pos h1]; simp [h1]
  refine wif_eq (fun c1 => ?_) (fun c1 => ?_)
  · obtain ⟨ca, cb⟩ := hf0.1 c1
    refine loadN_blk0 ((hB1.ext hE2).ext (hE5.trans hE6)) rfl ?_
    refine loadN_blk0 (hB2.ext (hE5.trans hE6)) rfl ?_
    refine call (meets_fn A n c a ra B m d b rb w6 (h.ext hE06) (h'.ext hE06) (chkD_zero.1 ca).2 (chkD_zero.1 cb).2) ?_
    rintro _ w7 ⟨r, rfl, hE7, hr⟩
    refine ⟨?_, hE06.trans hE7⟩
    cases r with
    | true => rw [disP_f (fun hh => hh.2.2 (hr.1 rfl))]; rfl
    | false => rw [disP_t ⟨ca, cb, fun hh => by have := hr.2 hh; cases this⟩]; rfl
  · exact ⟨by rw [disP_f (fun hh => c1 (hf0.2 ⟨hh.1, hh.2.1⟩))], hE06⟩

/-! ### Dead -/
def ixV (l : List Nat) : List Value := l.map (fun (i : Nat) => Value.int .i64 i)
noncomputable def deadL (b : List Br) (rb : Int) : Nat → List Sx → List Nat
  | _, [] => []
  | i, y :: L => if disP y.x.nd y.x.r b rb then i :: deadL b rb (i + 1) L else deadL b rb (i + 1) L
noncomputable def deadP (tx : List Nat) (L : List Sx) (b : List Br) (rb : Int) : List Nat × Int :=
  if chkS tx L ≠ 0 then ([], chkS tx L) else if chkD b rb ≠ 0 then ([], 20) else (deadL b rb 0 L, 0)
structure DeadI (w0 : World) (base : Nat) (b : List Br) (rb : Int) (L : List Sx) (i : Nat) (O : Option Addr) (oc : Nat) (l : List Nat) (w : World) : Prop where
  e : Ext w0 w
  le : i ≤ L.length
  ln : l.length ≤ i
  own : Own w base 3 1 O l.length oc (ixV l)
  rs : deadL b rb 0 L = l ++ deadL b rb i (L.drop i)

set_option maxHeartbeats 1600000 in
theorem sdead_fn (tx : List Nat) (A : Option Addr) (n cp : Nat) (L : List Sx) (B : Option Addr) (m d : Nat) (b : List Br) (rb : Int) (w : World) (h : SX w A n cp L) (h' : SB w B m d b) (h8 : ∀ x ∈ tx, x < 256) :
    Fn Tryz.prog 25 [srcV tx A n cp, dgV B m d rb] w (fun u w' => ∃ O oc, u = .tuple #[.slice O (deadP tx L b rb).1.length oc, .int .i64 (deadP tx L b rb).2] ∧ Ext w w' ∧ Sl w' 1 O (deadP tx L b rb).1.length oc (ixV (deadP tx L b rb).1)) := by
  have hlen := h.sl.2
  refine fn_of_exec (c := { c25 with cuts := [] }) gx_ok Tryz.func25 rfl rfl rfl ?_
  refine new (fun w1 hE1 hz1 hB1 => ?_)
  refine new (fun w2 hE2 hz2 hB2 => ?_)
  have hE02 := hE1.trans hE2
  refine loadN_blk0 (hB1.ext hE2) rfl ?_
  refine call (scheck_fn tx A n cp L w2 (h.ext hE02) h8) ?_
  rintro _ w3 ⟨rfl, hE3⟩
  have hE03 := hE02.trans hE3
  refine wif_ne (fun c1 => ?_) (fun c1 => ?_)
  · have e : deadP tx L b rb = ([], chkS tx L) := if_pos c1
    rw [e]
    exact ⟨none, 0, rfl, hE03, (Own.nil w3 0 0 1).sl⟩
  refine loadN_blk0 (hB2.ext hE3) rfl ?_
  refine call (check2_fn B m d b rb w3 (h'.ext hE03)) ?_
  rintro _ w4 ⟨rfl, hE4⟩
  have hE04 := hE03.trans hE4
  refine wif_ne (fun c2 => ?_) (fun c2 => ?_)
  · have e : deadP tx L b rb = ([], 20) := by unfold deadP; rw [if_neg (fun hh => hh c1), if_pos c2]
    rw [e]
    exact ⟨none, 0, rfl, hE04, (Own.nil w4 0 0 1).sl⟩
  have e : deadP tx L b rb = (deadL b rb 0 L, 0) := by unfold deadP; rw [if_neg (fun hh => hh c1), if_neg (fun hh => hh c2)]
  rw [e]
  obtain ⟨t1, t2, t3⟩ := chkS_zero.1 c1
  have hE24 := hE3.trans hE4
  refine load_blk ((hB1.ext hE2).ext hE24) rfl ?_
  refine loop gx_ok [21, 7] (fun s : Nat × Option Addr × Nat × List Nat => [.int .i64 s.1, .slice s.2.1 s.2.2.2.length s.2.2.1]) (fun s w' => DeadI w4 w4.heap.size b rb L s.1 s.2.1 s.2.2.1 s.2.2.2 w') (fun s _ => L.length - s.1) (0, none, 0, []) rfl ⟨Ext.refl _, Nat.zero_le _, Nat.le_refl _, Own.nil _ _ _ _, rfl⟩ ?_
  rintro ⟨i, O, oc, l⟩ w5 hI
  have hE05 := hE04.trans hI.e
  have ho := hI.own
  have hle := hI.le
  have hln := hI.ln
  have hrs := hI.rs
  simp only at ho hle hln hrs
  refine wif_d (fun c3 => ?_) (fun c3 => ?_)
  · have hi : i < n := by simp only at c3; omega
    refine index_sls sx_len (h.ext hE05).sl rfl hi (fun p y hy hcl => ?_)
    have hy : L[i]? = some y := hy
    have hym := List.mem_of_getElem? hy
    rw [drop_get hy, deadL] at hrs
    refine loadN_at (vs := y.cells) rfl hcl ?_
    refine new (fun w6 hE6 hz6 hB6 => ?_)
    refine storeN_blk0 hB6 rfl (sc rfl) (fun w7 hg7 _ hB7 => ?_)
    have hE57 : Ext w5 w7 := newBox hE6 hB6 hg7
    have hE07 := hE05.trans hE57
    refine loadN_at (vs := [.slice y.x.A y.x.n y.x.c, .int .i64 y.x.r]) rfl (fun j v hj => by rw [Addr.add_add]; exact (hB7.cell _).trans (by match j, hj with | 0, hj => exact hj | 1, hj => exact hj)) ?_
    refine loadN_blk0 (hB2.ext (hE24.trans (hI.e.trans hE57))) rfl ?_
    refine call (disjoint_fn y.x.A y.x.n y.x.c y.x.nd y.x.r B m d b rb w7 ((h.dg y hym).ext hE07) (h'.ext hE07)) ?_
    rintro _ w8 ⟨rfl, hE8⟩
    have hE58 := hE57.trans hE8
    refine wif (fun d1 => ?_) (fun d1 => ?_)
    · rw [if_pos d1] at hrs
      refine at_buildN gx_ok [[Value.int .i64 ((i : Nat) : Int)]] rfl rfl rfl rfl rfl ⟨rfl, rfl, ⟨⟩⟩ rfl (fun cs hh => by simp only [List.mem_singleton] at hh; subst hh; rfl) rfl (by decide) (by decide) ?_
      intro w9 hE9 hz9 hB9
      have hE59 := hE58.trans hE9
      have hs9 : Sl w9 1 (some ⟨w8.heap.size, 0, none⟩) 1 1 [Value.int .i64 ((i : Nat) : Int)] := Sl.own (sz := 1) (n := 1) hB9 (Nat.le_refl _) (by decide) (by simp)
      refine at_app (n := l.length) gx_ok rfl rfl rfl rfl rfl (by decide) rfl rfl ⟨_, rfl⟩ rfl rfl (ho.ext hE59) hs9 (by simp [scalar]) (by unfold maxLen; omega) (by show (l.length + 1) * 8 ≤ _; omega) (by have := hI.e.size; have := hE59.size; omega) ?_
      intro A' c' w10 hm10 hown10 hmv10
      refine norm_i64_to ((i + 1 : Nat) : Int) (by show ((i : Nat) : Int) + 1 = _; omega) (by omega) ?_
      refine ⟨(i + 1, A', c', l ++ [i]), by simp only [List.length_append]; rfl, ⟨hm10.ext (hI.e.trans hE59) (fun k hk => (ho.rows k hk).1), by show i + 1 ≤ L.length; omega, by simp; omega, ?_, ?_⟩, by show L.length - (i + 1) < L.length - i; omega⟩
      · simp only
        have e2 : ixV (l ++ [i]) = ixV l ++ [Value.int .i64 ((i : Nat) : Int)] := by simp [ixV]
        rw [e2, List.length_append]
        exact hown10
      · simp only
        rw [hrs]; simp
    · rw [if_neg (by rw [d1]; decide)] at hrs
      refine norm_i64_to ((i + 1 : Nat) : Int) (by show ((i : Nat) : Int) + 1 = _; omega) (by omega) ?_
      exact ⟨(i + 1, O, oc, l), rfl, ⟨hI.e.trans hE58, by show i + 1 ≤ L.length; omega, by show l.length ≤ i + 1; omega, ho.ext hE58, hrs⟩, by show L.length - (i + 1) < L.length - i; omega⟩
  · rw [List.drop_eq_nil_of_le (by simp only at c3; omega), deadL, List.append_nil] at hrs
    rw [hrs]
    exact ⟨O, oc, rfl, hE05, ho.sl⟩
end
end
end Go.Proofs.YtedopgkbajhanaaGreatDoor

namespace Go.Proofs.YtedopgkbajhanaaGreatDoor
section
section
open Go Go.RowKit

/-! ### Segments that follow one another -/
def ChG : Nat → List Sg → Nat → Prop
  | a, [], b => a = b
  | a, s :: l, b => s.f = a ∧ ChG s.t l b
theorem ChG.snoc {x : Sg} : ∀ {l : List Sg} {a b : Nat}, ChG a (l ++ [x]) b ↔ ChG a l x.f ∧ x.t = b
  | [], a, b => by simp only [List.nil_append, ChG]; exact ⟨fun h => ⟨h.1.symm, h.2⟩, fun h => ⟨h.1.symm, h.2⟩⟩
  | s :: l, a, b => by
    simp only [List.cons_append, ChG]
    rw [ChG.snoc (l := l)]
    exact ⟨fun h => ⟨⟨h.1, h.2.1⟩, h.2.2⟩, fun h => ⟨h.1.1, h.1.2, h.2⟩⟩
/-- A segment is a run of whole lines of a file. -/
structure SgOk (fs : List (List Nat × List Nat)) (tx : List Nat) (s : Sg) : Prop where
  ft : s.f < s.t
  tl : s.t ≤ tx.length
  nl : tx[s.t - 1]? = some 10
  src : ∃ x, fs[s.fl]? = some x ∧ s.at_ + (s.t - s.f) ≤ x.2.length ∧ (x.2.drop s.at_).take (s.t - s.f) = (tx.take s.t).drop s.f
theorem SgOk.app {fs : List (List Nat × List Nat)} {tx : List Nat} {s : Sg} (h : SgOk fs tx s) (l : List Nat) : SgOk fs (tx ++ l) s := by
  obtain ⟨h1, h2, h3, x, h4, h5, h6⟩ := h
  refine ⟨h1, by rw [List.length_append]; omega, by rw [List.getElem?_append_left (by omega)]; exact h3, x, h4, h5, ?_⟩
  rw [List.take_append_of_le_length h2]; exact h6
structure GInv (fs : List (List Nat × List Nat)) (g : Gs) : Prop where
  ch : ChG 0 g.sg g.tx.length
  ok : ∀ s ∈ g.sg, SgOk fs g.tx s
theorem GInv.fr {fs : List (List Nat × List Nat)} {g : Gs} (h : GInv fs g) (b : Bool) : GInv fs { g with fr := b } := ⟨h.ch, h.ok⟩
/-- The open segment ends where the reading is. -/
def CurG (n p : Nat) (k : BF) (g : Gs) : Prop := g.fr = false → ∃ l x, g.sg = l ++ [x] ∧ x.fl = n ∧ x.at_ + (x.t - x.f) = p ∧ x.o = k
theorem add_inv {fs : List (List Nat × List Nat)} {n p : Nat} {k : BF} {g g' : Gs} {s : List Nat} (h : GInv fs g) (hc : CurG n p k g) {x : List Nat × List Nat} (hx : fs[n]? = some x) (hs : x.2.drop p = s ++ x.2.drop (p + s.length)) (hp : p + s.length ≤ x.2.length) (hl : s.getLast? = some 10)
    (ha : addG s n p k g = some g') : GInv fs g' ∧ CurG n (p + s.length) k g' := by
  unfold addG at ha
  split at ha
  · cases ha
  cases ha
  have hs0 : 0 < s.length := by
    cases s with
    | nil => cases hl
    | cons _ _ => simp
  have hnl : (g.tx ++ s)[g.tx.length + s.length - 1]? = some 10 := by
    rw [List.getElem?_append_right (by omega), show g.tx.length + s.length - 1 - g.tx.length = s.length - 1 by omega, ← List.getLast?_eq_getElem?]; exact hl
  cases hf : g.fr with
  | true =>
    rw [if_pos rfl, setTo_snoc]
    refine ⟨⟨?_, fun y hy => ?_⟩, fun _ => ⟨_, _, rfl, rfl, ?_, rfl⟩⟩
    · simp only
      rw [ChG.snoc]
      exact ⟨h.ch, by simp⟩
    · simp only [List.mem_append, List.mem_singleton] at hy
      rcases hy with hy | rfl
      · exact (h.ok y hy).app s
      · refine ⟨by simp only; omega, by simp, hnl, x, hx, by simp only; omega, ?_⟩
        simp only
        rw [show g.tx.length + s.length - g.tx.length = s.length by omega, hs, List.take_left, List.take_of_length_le (by simp), List.drop_left]
    · simp only; omega
  | false =>
    rw [if_neg (by decide)]
    obtain ⟨l, y, e, e1, e2, e3⟩ := hc hf
    have hch := h.ch
    have hok := h.ok
    rw [e] at hch hok
    rw [ChG.snoc] at hch
    obtain ⟨q1, q2, q3, z, q4, q5, q6⟩ := hok y (by simp)
    rw [e, setTo_snoc]
    have hz : z = x := by rw [e1, hx] at q4; exact (Option.some.inj q4).symm
    subst hz
    refine ⟨⟨?_, fun u hu => ?_⟩, fun _ => ⟨_, _, rfl, e1, ?_, e3⟩⟩
    · simp only
      rw [ChG.snoc]
      exact ⟨hch.1, by simp⟩
    · simp only [List.mem_append, List.mem_singleton] at hu
      rcases hu with hu | rfl
      · exact (hok u (by simp [hu])).app s
      · refine ⟨by simp only; omega, by simp, hnl, z, q4, by simp only; omega, ?_⟩
        simp only
        rw [show g.tx.length + s.length - y.f = (y.t - y.f) + s.length by omega, List.take_of_length_le (l := g.tx ++ s) (by simp), List.drop_append_of_le_length (by omega)]
        rw [List.take_add, List.drop_drop, e2, hs, List.take_left, q6, hch.2, List.take_length]
    · simp only; omega

theorem rdL_inv {nm : List (List Nat)} {fs : List (List Nat × List Nat)} {n d0 : Nat} {inc : IncF} {x : List Nat × List Nat} (hx : fs[n]? = some x)
    (hi : ∀ r ln d k g g', inc r ln d k g = .ok g' → GInv fs g → GInv fs g') : ∀ (ls : List (List Nat)) (ln at_ : Nat) (k : BF) (op : List Se) (g g' : Gs),
    x.2.drop at_ = unl ls → at_ ≤ x.2.length → GInv fs g → CurG n at_ k g → rdL nm n d0 inc ls ln at_ k op g = .ok g' → GInv fs g' ∧ g'.fr = true
  | [], ln, at_, k, op, g, g', _, _, hg, _, hr => by
    cases op with
    | nil => simp only [rdL, Except.ok.injEq] at hr; subst hr; exact ⟨hg.fr true, rfl⟩
    | cons _ _ => simp [rdL] at hr
  | s :: ls, ln, at_, k, op, g, g', hd, hat, hg, hc, hr => by
    have hl1 : x.2.drop at_ = (s ++ [10]) ++ unl ls := by rw [hd, unl_cons]; simp
    have hL : (s ++ [10]).length = s.length + 1 := by simp
    have hlen : x.2.length - at_ = s.length + 1 + (unl ls).length := by
      have := congrArg List.length hl1
      simp only [List.length_drop, List.length_append, List.length_cons, List.length_nil] at this
      omega
    have hd2 : x.2.drop (at_ + s.length + 1) = unl ls := by
      rw [show at_ + s.length + 1 = at_ + (s ++ [10]).length by simp; omega, ← List.drop_drop, hl1, List.drop_left]
    have ih := fun k op g g' h1 h2 h3 => rdL_inv (nm := nm) (d0 := d0) hx hi ls (ln + 1) (at_ + s.length + 1) k op g g' hd2 (by omega) h1 h2 h3
    have cf : ∀ k' (g : Gs), CurG n (at_ + s.length + 1) k' { g with fr := true } := fun k' g h => by cases h
    rw [rdL.eq_def] at hr; simp only at hr
    cases hdir : dirOf s with
    | txt =>
      rw [hdir] at hr
      simp only at hr
      cases ha : addG (s ++ [10]) n at_ k g with
      | none => rw [ha] at hr; cases hr
      | some g1 =>
        rw [ha] at hr
        simp only at hr
        obtain ⟨i1, i2⟩ := add_inv hg hc hx (by rw [hL, ← Nat.add_assoc, hd2]; exact hl1) (by rw [hL]; omega) (by simp) ha
        exact ih k op g1 g' i1 (by rw [hL, ← Nat.add_assoc] at i2; exact i2) hr
    | ifd r =>
      rw [hdir] at hr
      simp only at hr
      cases hs : setE nm r with
      | error e => rw [hs] at hr; cases hr
      | ok d =>
        rw [hs] at hr
        simp only at hr
        split at hr
        · cases hr
        · exact ih _ _ _ _ (hg.fr true) (cf _ _) hr
    | inc r =>
      rw [hdir] at hr
      simp only at hr
      cases hs : inc r (ln + 1) (d0 + op.length) k g with
      | error e => rw [hs] at hr; cases hr
      | ok g1 =>
        rw [hs] at hr
        exact ih _ _ _ _ ((hi _ _ _ _ _ _ hs hg).fr true) (cf _ _) hr
    | elif r =>
      rw [hdir] at hr
      cases op with
      | nil => cases hr
      | cons y op =>
        simp only at hr
        split at hr
        · cases hr
        · cases hs : setE nm r with
          | error e => rw [hs] at hr; cases hr
          | ok d => rw [hs] at hr; exact ih _ _ _ _ (hg.fr true) (cf _ _) hr
    | els =>
      rw [hdir] at hr
      cases op with
      | nil => cases hr
      | cons y op =>
        simp only at hr
        split at hr
        · cases hr
        · exact ih _ _ _ _ (hg.fr true) (cf _ _) hr
    | en =>
      rw [hdir] at hr
      cases op with
      | nil => cases hr
      | cons y op => exact ih _ _ _ _ (hg.fr true) (cf _ _) hr
theorem rdF_inv {nm : List (List Nat)} {fs : List (List Nat × List Nat)} (hf : ∀ x ∈ fs, TextOk x.2) : ∀ (f : Nat) (rd : List Nat) (d n : Nat) (k : BF) (g g' : Gs), n < fs.length → GInv fs g → rdF nm fs f rd d n k g = .ok g' → GInv fs g' ∧ g'.fr = true
  | 0, _, _, _, _, _, _, _, _, hr => by cases hr
  | f + 1, rd, d, n, k, g, g', hn, hg, hr => by
    have hx : fs[n]? = some fs[n] := List.getElem?_eq_getElem hn
    rw [rdF, hx] at hr
    simp only [Option.map_some, Option.getD_some] at hr
    refine rdL_inv hx ?_ (linesOf fs[n].2) 0 0 k [] { g with fr := true } g' (by rw [List.drop_zero, unl_linesOf (hf _ (List.getElem_mem hn))]) (Nat.zero_le _) (hg.fr true) (fun h => by cases h) hr
    intro r ln d' k' g1 g2 hi hg1
    cases he : incE (ixN (fs.map (·.1))) (n :: rd) r with
    | error e => rw [he] at hi; cases hi
    | ok m =>
      rw [he] at hi
      simp only at hi
      split at hi
      · cases hi
      · have hm : m < fs.length := by
          obtain ⟨_, tn, htn⟩ := incE_ok he
          have := ixN_lt htn
          simpa using this
        exact (rdF_inv hf f _ _ m _ g1 g2 hm hg1 hi).1
theorem readE_inv {nm : List (List Nat)} {fs : List (List Nat × List Nat)} {root : List Nat} {g : Gs} (hr : readE nm fs root = .ok g) : GInv fs g ∧ fs.length ≤ 256 ∧ ∀ x ∈ fs, x.2.length ≤ 1048576 := by
  unfold readE at hr
  split at hr
  · cases hr
  cases hfe : filesE fs with
  | some p => rw [hfe] at hr; cases hr
  | none =>
    rw [hfe] at hr
    simp only at hr
    have h256 : fs.length ≤ 256 := by
      unfold filesE at hfe
      split at hfe
      · cases hfe
      · omega
    have hall : ∀ x ∈ fs, fnameOk x.1 = true ∧ textB x.2 = true ∧ x.2.length ≤ 1048576 := by
      unfold filesE at hfe
      rw [if_neg (by omega)] at hfe
      exact chkFs_ok fs [] 0 hfe
    cases hix : ixN (fs.map (·.1)) root with
    | none => rw [hix] at hr; cases hr
    | some n =>
      rw [hix] at hr
      simp only at hr
      have hn : n < fs.length := by have := ixN_lt hix; simpa using this
      exact ⟨(rdF_inv (fun x hx => textB_ok (hall x hx).2.1) 65 [] 0 n _ _ g hn (⟨rfl, fun s hs => by cases hs⟩ : GInv fs ⟨[], [], false⟩) hr).1, h256, fun x hx => (hall x hx).2.2⟩
end

section
open Go Go.RowKit

/-! ### What was read, as segments -/
def mkX (s : Sg) (x : DV) : Sx := ⟨s.f, s.t, s.fl, s.at_, x⟩
def toX (s : Sg) : Sx := ⟨s.f, s.t, s.fl, s.at_, ⟨none, 0, 0, [], 0⟩⟩
def AllS (k : Nat) : List Sg → List Sx → Prop
  | [], [] => True
  | s :: l, y :: m => (y.f = s.f ∧ y.t = s.t ∧ y.fl = s.fl ∧ y.at_ = s.at_ ∧ Set1 k y.x.nd y.x.r s.o) ∧ AllS k l m
  | _, _ => False
theorem AllS.len {k : Nat} : ∀ {l : List Sg} {m : List Sx}, AllS k l m → l.length = m.length
  | [], [], _ => rfl
  | _ :: _, _ :: _, h => by simp [AllS.len h.2]
theorem AllS.get {k : Nat} : ∀ {l : List Sg} {m : List Sx} {i : Nat} {s : Sg} {y : Sx}, AllS k l m → l[i]? = some s → m[i]? = some y → y.f = s.f ∧ y.t = s.t ∧ y.fl = s.fl ∧ y.at_ = s.at_ ∧ Set1 k y.x.nd y.x.r s.o
  | _ :: _, _ :: _, 0, _, _, h, h1, h2 => by cases h1; cases h2; exact h.1
  | _ :: _, _ :: _, i + 1, _, _, h, h1, h2 => AllS.get (i := i) h.2 (by simpa using h1) (by simpa using h2)
theorem src_in {w : World} {k : Nat} {A : Option Addr} {n c : Nat} {sg : List Sg} {L : List DV} (h : SgIn w k A n c sg L) : ∃ M, SX w A n c M ∧ AllS k sg M := by
  have key : ∀ (sg : List Sg) (L : List DV), L.length = sg.length → (∀ (j : Nat) (s : Sg) (x : DV), sg[j]? = some s → L[j]? = some x → SB w x.A x.n x.c x.nd ∧ Set1 k x.nd x.r s.o) →
      ∃ M : List Sx, M.flatMap Sx.cells = sgV sg L ∧ M.length = sg.length ∧ (∀ y ∈ M, SB w y.x.A y.x.n y.x.c y.x.nd) ∧ AllS k sg M := by
    intro sg
    induction sg with
    | nil =>
      intro L hl _
      have : L = [] := List.eq_nil_of_length_eq_zero hl
      subst this
      exact ⟨[], rfl, rfl, (fun y hy => by cases hy), ⟨⟩⟩
    | cons s sg ih =>
      intro L hl hd
      cases L with
      | nil => cases hl
      | cons x L =>
        obtain ⟨M, h1, h2, h3, h4⟩ := ih L (by simpa using hl) (fun j s x h1 h2 => hd (j + 1) s x (by simpa using h1) (by simpa using h2))
        obtain ⟨d1, d2⟩ := hd 0 s x rfl rfl
        refine ⟨mkX s x :: M, ?_, by simp [h2], ?_, ⟨⟨rfl, rfl, rfl, rfl, d2⟩, h4⟩⟩
        · rw [List.flatMap_cons, h1]; rfl
        · intro y hy
          rcases List.mem_cons.1 hy with rfl | hy
          · exact d1
          · exact h3 y hy
  obtain ⟨M, h1, h2, h3, h4⟩ := key sg L h.len h.dg
  exact ⟨M, ⟨⟨by rw [h1]; exact h.sl, by rw [h2]; exact h.n⟩, h3⟩, h4⟩
theorem chk_read {k : Nat} (hk : k ≤ 12) {fs : List (List Nat × List Nat)} {tx : List Nat} (hft : ∀ x ∈ fs, x.2.length ≤ 1048576) : ∀ {sg : List Sg} {M : List Sx} {a : Nat}, AllS k sg M → ChG a sg tx.length → (∀ s ∈ sg, SgOk fs tx s) → chkL tx a M
  | [], [], a, _, h, _ => by have : a = tx.length := h; subst this; rfl
  | s :: sg, y :: M, a, h, hc, hs => by
    obtain ⟨⟨e1, e2, e3, e4, e5⟩, hr⟩ := h
    obtain ⟨q1, q2, q3, x, q4, q5, q6⟩ := hs s (by simp)
    have hx := hft x (List.mem_of_getElem? q4)
    have hcf : s.f = a := hc.1
    refine ⟨⟨by omega, by omega, by omega, ?_, e5.chk hk, by omega, by omega, by omega⟩, ?_⟩
    · rw [show (y.t - 1).toNat = s.t - 1 by omega]; exact q3
    · rw [e2]; exact chk_read hk hft hr hc.2 (fun z hz => hs z (by simp [hz]))
theorem chkS_read {k : Nat} (hk : k ≤ 12) {nm : List (List Nat)} {fs : List (List Nat × List Nat)} {root : List Nat} {g : Gs} {M : List Sx} (hr : readE nm fs root = .ok g) (hg : GsOk g) (hM : AllS k g.sg M) : chkS g.tx M = 0 := by
  obtain ⟨h1, h2, h3⟩ := readE_inv hr
  exact chkS_zero.2 ⟨hg.tl, by rw [← hM.len]; exact hg.sl, chk_read hk h3 hM h1.ch h1.ok⟩

def onG (e : Nat → Bool) (sg : List Sg) : List Sg := sg.filter (fun s => s.o e)
def pieceG (tx : List Nat) (s : Sg) : List Nat := (tx.take s.t).drop s.f
def selG (tx : List Nat) (sg : List Sg) (e : Nat → Bool) : List Nat := (onG e sg).flatMap (pieceG tx)
def LikeS : List Sg → List Sx → Prop
  | [], [] => True
  | s :: l, y :: m => (y.f = s.f ∧ y.t = s.t ∧ y.fl = s.fl ∧ y.at_ = s.at_) ∧ LikeS l m
  | _, _ => False
theorem AllS.like {k : Nat} : ∀ {l : List Sg} {m : List Sx}, AllS k l m → LikeS l m
  | [], [], _ => ⟨⟩
  | _ :: _, _ :: _, ⟨⟨h1, h2, h3, h4, _⟩, h⟩ => ⟨⟨h1, h2, h3, h4⟩, h.like⟩
theorem AllS.on {k : Nat} (c : Nat) : ∀ {l : List Sg} {m : List Sx}, AllS k l m → LikeS (onG (bitE c) l) (selL c m)
  | [], [], _ => ⟨⟩
  | s :: l, y :: m, ⟨⟨h1, h2, h3, h4, h5⟩, h⟩ => by
    have ih := h.on c
    unfold onG selL at ih ⊢
    rw [List.filter_cons, List.filter_cons]
    have e : inS c y = s.o (bitE c) := h5.mean _
    rw [e]
    split
    · exact ⟨⟨h1, h2, h3, h4⟩, ih⟩
    · exact ih
theorem like_pieces {tx : List Nat} : ∀ {l : List Sg} {m : List Sx}, LikeS l m → m.flatMap (pieceS tx) = l.flatMap (pieceG tx)
  | [], [], _ => rfl
  | s :: l, y :: m, ⟨⟨h1, h2, _, _⟩, h⟩ => by
    rw [List.flatMap_cons, List.flatMap_cons, like_pieces h]
    unfold pieceS pieceG
    rw [h1, h2]; rfl
theorem like_loc {tl at_ : Int} : ∀ {l : List Sg} {m : List Sx} {n : Int}, LikeS l m → locL tl at_ n m = locL tl at_ n (l.map toX)
  | [], [], _, _ => rfl
  | s :: l, y :: m, n, ⟨⟨h1, h2, _, _⟩, h⟩ => by
    rw [List.map_cons, locL, locL, like_loc h, h1, h2]; rfl
theorem like_glb {tl : Int} : ∀ {l : List Sg} {m : List Sx} {at_ : Int}, LikeS l m → glbL tl at_ m = glbL tl at_ (l.map toX)
  | [], [], _, _ => rfl
  | s :: l, y :: m, n, ⟨⟨h1, h2, _, _⟩, h⟩ => by
    rw [List.map_cons, glbL, glbL, like_glb h, h1, h2]; rfl
theorem like_ori {at_ : Int} : ∀ {l : List Sg} {m : List Sx}, LikeS l m → oriL at_ m = oriL at_ (l.map toX)
  | [], [], _ => rfl
  | s :: l, y :: m, ⟨⟨h1, h2, h3, h4⟩, h⟩ => by
    rw [List.map_cons, oriL, oriL, like_ori h, h1, h2, h3, h4]; rfl
/-- Two sets over k conditions have a common configuration. -/
def bothG (k : Nat) (o o' : BF) : Bool := (List.range (2 ^ k)).any (fun c => o (bitE c) && o' (bitE c))
theorem bits_of (e : Nat → Bool) : ∀ k, ∃ c, c < 2 ^ k ∧ ∀ i, i < k → bitE c i = e i
  | 0 => ⟨0, by decide, fun i hi => by omega⟩
  | k + 1 => by
    obtain ⟨c, h1, h2⟩ := bits_of e k
    have hp : 2 ^ (k + 1) = 2 ^ k * 2 := Nat.pow_succ 2 k
    cases hk : e k with
    | false =>
      refine ⟨c, by omega, fun i hi => ?_⟩
      by_cases hik : i = k
      · subst hik; rw [hk]; unfold bitE; rw [Nat.div_eq_of_lt h1]; rfl
      · exact h2 i (by omega)
    | true =>
      refine ⟨c + 2 ^ k, by omega, fun i hi => ?_⟩
      by_cases hik : i = k
      · subst hik; rw [hk]; unfold bitE
        rw [Nat.add_div_right _ (Nat.pow_pos (by decide)), Nat.div_eq_of_lt h1]; rfl
      · rw [← h2 i (by omega)]
        unfold bitE
        congr 1
        have e1 : 2 ^ k = 2 ^ i * (2 * 2 ^ (k - i - 1)) := by
          rw [← Nat.mul_assoc, ← Nat.pow_succ, ← Nat.pow_add]; congr 1; omega
        rw [e1, Nat.add_mul_div_left _ _ (Nat.pow_pos (by decide)), Nat.add_mul_mod_self_left]
theorem meets_both {k : Nat} {a b : List Br} {ra rb : Int} {o o' : BF} (h : Set1 k a ra o) (h' : Set1 k b rb o') : Meets a ra b rb ↔ bothG k o o' = true := by
  unfold bothG
  rw [List.any_eq_true]
  constructor
  · rintro ⟨e, e1, e2⟩
    obtain ⟨c, hc, hb⟩ := bits_of e k
    refine ⟨c, List.mem_range.2 hc, ?_⟩
    rw [h.ext hb, h'.ext hb, ← h.mean, ← h'.mean, e1, e2]; rfl
  · rintro ⟨c, _, hc⟩
    rw [Bool.and_eq_true] at hc
    exact ⟨bitE c, by rw [h.mean]; exact hc.1, by rw [h'.mean]; exact hc.2⟩
def deadG (k : Nat) (o' : BF) : Nat → List Sg → List Nat
  | _, [] => []
  | i, s :: l => if bothG k s.o o' then deadG k o' (i + 1) l else i :: deadG k o' (i + 1) l
theorem dis_both {k : Nat} (hk : k ≤ 12) {a b : List Br} {ra rb : Int} {o o' : BF} (h : Set1 k a ra o) (h' : Set1 k b rb o') : disP a ra b rb = !bothG k o o' := by
  cases hb : bothG k o o' with
  | true => rw [disP_f (fun hh => hh.2.2 ((meets_both h h').2 hb))]; rfl
  | false => rw [disP_t ⟨h.chk hk, h'.chk hk, fun hh => by rw [(meets_both h h').1 hh] at hb; cases hb⟩]; rfl
theorem dead_read {k : Nat} (hk : k ≤ 12) {b : List Br} {rb : Int} {o' : BF} (h' : Set1 k b rb o') : ∀ {l : List Sg} {m : List Sx} {i : Nat}, AllS k l m → deadL b rb i m = deadG k o' i l
  | [], [], _, _ => rfl
  | s :: l, y :: m, i, ⟨⟨_, _, _, _, h⟩, hr⟩ => by
    rw [deadL, deadG, dis_both hk h h', dead_read hk h' hr]
    cases bothG k s.o o' <;> rfl

/-! ### Contracts on what was read -/
structure SrcIn (w : World) (k : Nat) (A : Option Addr) (c : Nat) (g : Gs) : Prop where
  ok : GsOk g
  kl : k ≤ 12
  ex : ∃ M, SX w A g.sg.length c M ∧ AllS k g.sg M ∧ chkS g.tx M = 0
theorem SrcIn.ext {w w' : World} {k : Nat} {A : Option Addr} {c : Nat} {g : Gs} (h : SrcIn w k A c g) (hE : Ext w w') : SrcIn w' k A c g := ⟨h.ok, h.kl, let ⟨M, h1, h2, h3⟩ := h.ex; ⟨M, h1.ext hE, h2, h3⟩⟩
theorem srcIn_read {k : Nat} (hk : k ≤ 12) {nm : List (List Nat)} {fs : List (List Nat × List Nat)} {root : List Nat} {g : Gs} (hr : readE nm fs root = .ok g) {w : World} {A : Option Addr} {c : Nat} {L : List DV} (hg : GsOk g) (h : SgIn w k A g.sg.length c g.sg L) : SrcIn w k A c g := by
  obtain ⟨M, h1, h2⟩ := src_in h
  exact ⟨hg, hk, M, h1, h2, chkS_read hk hr hg h2⟩
section
variable {w : World} {k : Nat} {A : Option Addr} {c : Nat} {g : Gs}
theorem rchk_fn (h : SrcIn w k A c g) : Fn Tryz.prog 27 [srcV g.tx A g.sg.length c] w (fun u w' => u = .int .i64 0 ∧ Ext w w') := by
  obtain ⟨M, h1, h2, h3⟩ := h.ex
  refine (scheck_fn g.tx A _ c M w h1 h.ok.b8).mono ?_
  rintro u w' ⟨rfl, hE⟩
  exact ⟨by rw [h3], hE⟩
theorem rsel_fn (h : SrcIn w k A c g) (x : Nat) (hx : x ≤ 18446744073709551615) : Fn Tryz.prog 29 [srcV g.tx A g.sg.length c, .int .u64 x] w (fun u w' => u = .string (strOf (selG g.tx g.sg (bitE x))) ∧ Ext w w') := by
  obtain ⟨M, h1, h2, h3⟩ := h.ex
  refine (sselect_fn g.tx A _ c M x w h1 hx h.ok.b8).mono ?_
  rintro u w' ⟨rfl, hE⟩
  exact ⟨by unfold selP selG; rw [if_pos h3, like_pieces (h2.on x)], hE⟩
def locG (g : Gs) (x : Nat) (at_ : Int) : Int × Bool := locL g.tx.length at_ 0 ((onG (bitE x) g.sg).map toX)
def glbG (g : Gs) (x : Nat) (at_ : Int) : Int × Bool := if 0 ≤ at_ then glbL g.tx.length at_ ((onG (bitE x) g.sg).map toX) else (0, false)
def oriG (g : Gs) (at_ : Int) : Int × Int × Bool := if 0 ≤ at_ ∧ at_ < g.tx.length then oriL at_ (g.sg.map toX) else (0, 0, false)
theorem rloc_fn (h : SrcIn w k A c g) (x : Nat) (hx : x ≤ 18446744073709551615) (at_ : Int) : Fn Tryz.prog 19 [srcV g.tx A g.sg.length c, .int .u64 x, .int .i64 at_] w (fun u w' => u = .tuple #[.int .i64 (locG g x at_).1, .bool (locG g x at_).2] ∧ Ext w w') := by
  obtain ⟨M, h1, h2, h3⟩ := h.ex
  refine (slocal_fn g.tx A _ c M x at_ w h1 hx h.ok.b8).mono ?_
  rintro u w' ⟨rfl, hE⟩
  have e : locP g.tx M x at_ = locG g x at_ := by unfold locP locG; rw [if_pos h3, like_loc (h2.on x)]
  exact ⟨by rw [e], hE⟩
theorem rglb_fn (h : SrcIn w k A c g) (x : Nat) (hx : x ≤ 18446744073709551615) (at_ : Int) (ha : at_ ≤ 9223372036854775807) : Fn Tryz.prog 21 [srcV g.tx A g.sg.length c, .int .u64 x, .int .i64 at_] w (fun u w' => u = .tuple #[.int .i64 (glbG g x at_).1, .bool (glbG g x at_).2] ∧ Ext w w') := by
  obtain ⟨M, h1, h2, h3⟩ := h.ex
  refine (sglobal_fn g.tx A _ c M x at_ w h1 hx h.ok.b8 ha).mono ?_
  rintro u w' ⟨rfl, hE⟩
  have e : glbP g.tx M x at_ = glbG g x at_ := by
    unfold glbP glbG
    by_cases h0 : 0 ≤ at_
    · rw [if_pos ⟨h3, h0⟩, if_pos h0, like_glb (h2.on x)]
    · rw [if_neg (fun hh => h0 hh.2), if_neg h0]
  exact ⟨by rw [e], hE⟩
theorem rori_fn (h : SrcIn w k A c g) (at_ : Int) : Fn Tryz.prog 23 [srcV g.tx A g.sg.length c, .int .i64 at_] w (fun u w' => u = .tuple #[.int .i64 (oriG g at_).1, .int .i64 (oriG g at_).2.1, .bool (oriG g at_).2.2] ∧ Ext w w') := by
  obtain ⟨M, h1, h2, h3⟩ := h.ex
  refine (sorigin_fn g.tx A _ c M at_ w h1 h.ok.b8).mono ?_
  rintro u w' ⟨rfl, hE⟩
  have e : oriP g.tx M at_ = oriG g at_ := by
    unfold oriP oriG
    by_cases h0 : 0 ≤ at_ ∧ at_ < g.tx.length
    · rw [if_pos ⟨h3, h0⟩, if_pos h0, like_ori h2.like]
    · rw [if_neg (fun hh => h0 hh.2), if_neg h0]
  exact ⟨by rw [e], hE⟩
theorem rdead_fn (h : SrcIn w k A c g) {B : Option Addr} {m d : Nat} {b : List Br} {rb : Int} {o' : BF} (hb : SB w B m d b) (hs : Set1 k b rb o') : Fn Tryz.prog 25 [srcV g.tx A g.sg.length c, dgV B m d rb] w (fun u w' => ∃ O oc, u = .tuple #[.slice O (deadG k o' 0 g.sg).length oc, .int .i64 0] ∧ Ext w w' ∧ Sl w' 1 O (deadG k o' 0 g.sg).length oc (ixV (deadG k o' 0 g.sg))) := by
  obtain ⟨M, h1, h2, h3⟩ := h.ex
  refine (sdead_fn g.tx A _ c M B m d b rb w h1 hb h.ok.b8).mono ?_
  rintro u w' ⟨O, oc, rfl, hE, hO⟩
  have e : deadP g.tx M b rb = (deadG k o' 0 g.sg, 0) := by unfold deadP; rw [if_neg (fun hh => hh h3), if_neg (fun hh => hh (hs.chk h.kl)), dead_read h.kl hs h2]
  rw [e] at hO ⊢
  exact ⟨O, oc, rfl, hE, hO⟩
end

/-! ### Numbers do not lie among texts -/
theorem Sl.sep {w : World} {sz n c g t : Nat} {A : Option Addr} {cs l : List Value} {x : Int} (h : Sl w sz A n c cs) (h0 : cs[0]? = some (.int .i64 x)) (hB : Blk w g t l) (hl : ∀ v ∈ l, ∃ s, v = .string s) : 0 < n → ∀ i, rowS A i → ¬ i = g := fun hn i hi e => by
  obtain ⟨ad, rfl, hc⟩ := h.at_ hn
  obtain ⟨ad', e', rfl⟩ := hi
  cases e'
  have h1 := hc 0 _ h0
  unfold World.cell? at h1
  rw [block_add, e, show w.heap[g]? = _ from hB] at h1
  simp only at h1
  split at h1
  · cases h1
  · rw [List.getElem?_toArray] at h1
    obtain ⟨s, hs⟩ := hl _ (List.mem_of_getElem? h1)
    cases hs
theorem SB.modT {w w' : World} {A : Option Addr} {n c g t : Nat} {nd : List Br} {l : List Value} (h : SB w A n c nd) (hB : Blk w g t l) (hl : ∀ v ∈ l, ∃ s, v = .string s) (hm : Mod (· = g) w w') : SB w' A n c nd := by
  refine ⟨h.1.modS hm (fun hn i hi => ?_), h.2⟩
  cases nd with
  | nil => have := h.2; simp at this; omega
  | cons b nd => exact h.1.sep (x := b.v) (by simp [Br.cells]) hB hl hn i hi
theorem SX.modT {w w' : World} {A : Option Addr} {n c g t : Nat} {L : List Sx} {l : List Value} (h : SX w A n c L) (hB : Blk w g t l) (hl : ∀ v ∈ l, ∃ s, v = .string s) (hm : Mod (· = g) w w') : SX w' A n c L := by
  refine ⟨⟨h.sl.1.modS hm (fun hn i hi => ?_), h.sl.2⟩, fun y hy => (h.dg y hy).modT hB hl hm⟩
  cases L with
  | nil => have := h.sl.2; simp at this; omega
  | cons y L => exact h.sl.1.sep (x := y.f) (by simp [Sx.cells]) hB hl hn i hi
theorem SrcIn.modT {w w' : World} {k : Nat} {A : Option Addr} {c gg t : Nat} {g : Gs} {l : List Value} (h : SrcIn w k A c g) (hB : Blk w gg t l) (hl : ∀ v ∈ l, ∃ s, v = .string s) (hm : Mod (· = gg) w w') : SrcIn w' k A c g :=
  ⟨h.ok, h.kl, let ⟨M, h1, h2, h3⟩ := h.ex; ⟨M, h1.modT hB hl hm, h2, h3⟩⟩
end

section
open Go Go.RowKit

def sanM : List Nat := [111, 110, 101, 10, 35, 105, 102, 32, 65, 32, 38, 38, 32, 33, 66, 10, 116, 119, 111, 10, 35, 101, 108, 105, 102, 32, 66, 10, 35, 105, 110, 99, 108, 117, 100, 101, 32, 34, 110, 34, 10, 35, 101, 108, 115, 101, 10, 102, 111, 117, 114, 10, 35, 101, 110, 100, 10, 102, 105, 118, 101, 10]
def sanN : List Nat := [116, 104, 114, 101, 101, 10]
def sanT : List Nat := [111, 110, 101, 10, 116, 119, 111, 10, 116, 104, 114, 101, 101, 10, 102, 111, 117, 114, 10, 102, 105, 118, 101, 10]
def sanNm : List (List Nat) := [[65], [66]]
def sanF : List (List Nat × List Nat) := [([109], sanM), ([110], sanN)]
def sanR : Except Pl Gs := readE sanNm sanF [109]
def okR (r : Except Pl Gs) : Bool := match r with | .ok _ => true | .error _ => false
def getR (r : Except Pl Gs) : Gs := match r with | .ok g => g | .error _ => ⟨[], [], false⟩
theorem ok_get {r : Except Pl Gs} (h : okR r = true) : r = .ok (getR r) := by
  cases r with
  | ok g => rfl
  | error _ => cases h
def sanG : Gs := getR sanR
theorem san_ok : readE sanNm sanF [109] = .ok sanG := ok_get (by decide)
theorem san_tx : sanG.tx = sanT := by decide
theorem san_sg : sanG.sg.length = 5 := by decide
theorem san_at : (sanG.sg.map (·.at_)) = [0, 16, 0, 47, 57] := by decide
theorem san_l1 : locG sanG 1 19 = (8, true) := by decide
theorem san_g1 : glbG sanG 1 8 = (19, true) := by decide
theorem san_l2 : (locG sanG 1 8).2 = false := by decide
theorem san_o : oriG sanG 9 = (1, 1, true) := by decide
theorem san_d : deadG 2 (fun e => e 1) 0 sanG.sg = [1, 3] := by decide
theorem san_s : selG sanG.tx sanG.sg (bitE 1) = [111, 110, 101, 10, 116, 119, 111, 10, 102, 105, 118, 101, 10] := by decide
def sanF2 : List (List Nat × List Nat) := [([109], sanM.take 47), ([110], sanN)]
theorem san_2 : readE sanNm sanF2 [109] = .error ⟨72, 0, 2⟩ := by
  have h : (match readE sanNm sanF2 [109] with | .ok _ => none | .error q => some (q.e, q.f, q.l)) = some (72, 0, 2) := by decide
  cases hr : readE sanNm sanF2 [109] with
  | ok g => rw [hr] at h; cases h
  | error q =>
    rw [hr] at h
    obtain ⟨a, b, c⟩ := q
    simp only [Option.some.injEq, Prod.mk.injEq] at h
    obtain ⟨rfl, rfl, rfl⟩ := h
    rfl
theorem san_fb : ∀ x ∈ sanF, FileB x := fun x hx => by
  simp only [sanF, List.mem_cons, List.not_mem_nil, or_false] at hx
  rcases hx with rfl | rfl
  · exact ⟨by decide, by decide, by decide, by decide⟩
  · exact ⟨by decide, by decide, by decide, by decide⟩
theorem san_fb2 : ∀ x ∈ sanF2, FileB x := fun x hx => by
  simp only [sanF2, List.mem_cons, List.not_mem_nil, or_false] at hx
  rcases hx with rfl | rfl
  · exact ⟨by decide, by decide, by decide, by decide⟩
  · exact ⟨by decide, by decide, by decide, by decide⟩

theorem file_str (x : List Nat × List Nat) : ∀ v ∈ fileC x, ∃ s, v = .string s := fun v hv => by
  simp only [fileC, List.mem_cons, List.not_mem_nil, or_false] at hv
  rcases hv with rfl | rfl <;> exact ⟨_, rfl⟩
theorem san_nb : NamesOk sanNm := fun s hs => by
  simp only [sanNm, List.mem_cons, List.not_mem_nil, or_false] at hs
  rcases hs with rfl | rfl <;> exact ⟨by decide, by decide⟩
set_option maxHeartbeats 1600000 in
theorem sanity7_fn (w : World) : Fn Tryz.prog 13 [] w (fun v w' => v = .bool true ∧ Ext w w') := by
  refine fn_of_exec (c := { c13 with cuts := [] }) gx_ok Tryz.func13 rfl rfl rfl ?_
  refine new (fun w1 hE1 hz1 hB1 => ?_)
  refine storeN_blk0 hB1 rfl (sc rfl) (fun w2 hg2 _ hB2 => ?_)
  have hE2 : Ext w w2 := newBox hE1 hB1 hg2
  refine new (fun w3 hE3 hz3 hB3 => ?_)
  refine storeN_blk0 hB3 rfl (sc rfl) (fun w4 hg4 _ hB4 => ?_)
  have hE24 : Ext w2 w4 := newBox hE3 hB3 hg4
  have hE04 := hE2.trans hE24
  refine at_buildN gx_ok [[.string (strOf [65])], [.string (strOf [66])]] rfl rfl rfl rfl rfl ⟨rfl, rfl, rfl, rfl, ⟨⟩⟩ rfl (fun cs h => by simp only [List.mem_cons, List.not_mem_nil, or_false] at h; rcases h with rfl | rfl <;> rfl) rfl (by decide) (by decide) ?_
  intro w5 hE5 hz5 hB5
  have hN5 : Sl w5 1 (some ⟨w4.heap.size, 0, none⟩) 2 2 (strsV sanNm) := Sl.own' (n := 2) hB5 rfl (by decide)
  have hE05 := hE04.trans hE5
  refine loadN_blk0 (hB2.ext (hE24.trans hE5)) rfl ?_
  refine loadN_blk0 (hB4.ext hE5) rfl ?_
  refine at_buildN gx_ok [fileC ([109], sanM), fileC ([110], sanN)] rfl rfl rfl rfl rfl ⟨rfl, rfl, rfl, rfl, ⟨⟩⟩ rfl (fun cs h => by simp only [List.mem_cons, List.not_mem_nil, or_false] at h; rcases h with rfl | rfl <;> rfl) rfl (by decide) (by decide) ?_
  intro w6 hE6 hz6 hB6
  have hF6 : SlS fileC 2 w6 (some ⟨w5.heap.size, 0, none⟩) 2 2 sanF := ⟨Sl.own (sz := 2) (n := 2) hB6 (Nat.le_refl _) (by decide) (by simp [fileC]), rfl⟩
  refine call (sread_fn sanNm _ 2 2 sanF _ 2 2 [109] w6 (hN5.ext hE6) san_nb (by decide) hF6 san_fb (by decide) (by decide)) ?_
  rw [san_ok]
  rintro _ w7 ⟨hE7, hg, RA, rc, RL, rfl, hS7⟩
  have hI7 := srcIn_read (by decide) san_ok hg hS7
  have hE67 := hE6.trans hE7
  refine new (fun w8 hE8 hz8 hB8 => ?_)
  refine new (fun w9 hE9 hz9 hB9 => ?_)
  refine storeN_blk0 (hB8.ext hE9) rfl (sc rfl) (fun w10 hg10 _ hB10 => ?_)
  have hM10 : Mod (· = w7.heap.size) w9 w10 := Mod.of_grown hg10 rfl
  refine storeN_blk0 (hB9.mod hM10 (by omega)) rfl (sc rfl) (fun w11 hg11 _ hB11 => ?_)
  have hM11 : Mod (· = w8.heap.size) w10 w11 := Mod.of_grown hg11 rfl
  have hB10' := hB10.mod hM11 (by omega)
  have hE711 : Ext w7 w11 := hM11.ext (hM10.ext (hE8.trans hE9) (fun i hi => by omega)) (fun i hi => by omega)
  have hI11 := hI7.ext hE711
  refine loadN_blk0 hB11 rfl ?_
  refine wif_f rfl ?_
  refine load_blk0 hB10' rfl ?_
  refine wif_f (by rw [san_tx]; rfl) ?_
  refine load_blk hB10' rfl ?_
  refine wif_f (by rw [san_sg]; rfl) ?_
  refine load_blk hB10' rfl ?_
  obtain ⟨M, hX, hA, hck⟩ := hI11.ex
  refine index_sls (j := 4) sx_len hX.sl rfl (by rw [san_sg]; decide) (fun p y hy hcl => ?_)
  have hy4 : y.at_ = 57 := by
    have h4 : sanG.sg[4]? = some (sanG.sg[4]'(by rw [san_sg]; decide)) := List.getElem?_eq_getElem _
    have e1 := (hA.get h4 hy).2.2.2.1
    have e2 : (sanG.sg.map (·.at_))[4]? = some (sanG.sg[4]'(by rw [san_sg]; decide)).at_ := by rw [List.getElem?_map, h4]; rfl
    rw [san_at] at e2
    have e3 := Option.some.inj e2
    rw [e1, ← e3]; rfl
  refine load (hcl 3 _ rfl) ?_
  refine wif_f (by rw [hy4]; rfl) ?_
  have hS : ∀ w', Ext w11 w' → Blk w' w7.heap.size 29 [.string (strOf sanG.tx), .slice RA sanG.sg.length rc] := fun w' hw' => hB10'.ext hw'
  refine loadN_blk0 (hS _ (Ext.refl _)) rfl ?_
  refine call (rloc_fn hI11 1 (by decide) 19) ?_
  rw [san_l1]
  rintro _ w12 ⟨rfl, hE12⟩
  refine loadN_blk0 (hS _ hE12) rfl ?_
  refine call (rglb_fn (hI11.ext hE12) 1 (by decide) 8 (by decide)) ?_
  rw [san_g1]
  rintro _ w13 ⟨rfl, hE13⟩
  have hE113 := hE12.trans hE13
  refine loadN_blk0 (hS _ hE113) rfl ?_
  refine call (rloc_fn (hI11.ext hE113) 1 (by decide) 8) ?_
  rw [san_l2]
  rintro _ w14 ⟨rfl, hE14⟩
  have hE114 := hE113.trans hE14
  refine loadN_blk0 (hS _ hE114) rfl ?_
  refine call (rori_fn (hI11.ext hE114) 9) ?_
  rw [san_o]
  rintro _ w15 ⟨rfl, hE15⟩
  have hE115 := hE114.trans hE15
  refine call (rvar_fn 1 w15 (by decide) (by decide)) ?_
  rintro _ w16 ⟨A16, n16, c16, rfl, hE16, hS16, hR16⟩
  have hE116 := hE115.trans hE16
  refine new (fun w17 hE17 hz17 hB17 => ?_)
  refine storeN_blk0 hB17 rfl (sc rfl) (fun w18 hg18 _ hB18 => ?_)
  have hE1618 : Ext w16 w18 := newBox hE17 hB17 hg18
  have hE118 := hE116.trans hE1618
  refine loadN_blk0 (hS _ hE118) rfl ?_
  refine loadN_blk0 hB18 rfl ?_
  refine call (rdead_fn (hI11.ext hE118) (hS16.ext hE1618) (var_set (k := 2) (v := 1) (by decide) (by decide))) ?_
  rw [show deadG sanNm.length (fun e => e 1) 0 sanG.sg = [1, 3] from san_d]
  rintro _ w19 ⟨O, oc, rfl, hE19, hO⟩
  have hE119 := hE118.trans hE19
  have hE1119 : Ext w4 w19 := ((hE5.trans hE67).trans hE711).trans hE119
  have hB2' : Blk w19 w.heap.size 38 (fileC ([109], sanM)) := hB2.ext (hE24.trans hE1119)
  refine load_blk hB2' rfl ?_
  refine need_to (v' := .string (strOf (sanM.take 47))) ⟨by decide, by decide, by show (47 : Int) ≤ ((strOf sanM).size : Int); rw [strOf_size]; decide⟩ (by show Value.string ((strOf sanM).extract 0 47) = _; rw [strOf_extract]; rfl) ?_
  refine store_mod (j := 1) hB2' (by decide) (fun w20 hM20 hB20 => ?_)
  have hN20 : Sl w20 1 (some ⟨w4.heap.size, 0, none⟩) 2 2 (strsV sanNm) := (hN5.ext ((hE67.trans hE711).trans hE119)).modS hM20 (fun _ i hi => by
    obtain ⟨ad, e, rfl⟩ := hi
    cases e
    have := hE04.size
    have := hB1.lt
    have := hE24.size
    simp only
    have := hg2.size
    omega)
  have hB4' := (hB4.ext hE1119).mod hM20 (by have := hB1.lt; have := hg2.size; omega)
  refine loadN_blk0 hB20 rfl ?_
  refine loadN_blk0 hB4' rfl ?_
  refine at_buildN gx_ok [fileC ([109], sanM.take 47), fileC ([110], sanN)] rfl rfl rfl rfl rfl ⟨rfl, rfl, rfl, rfl, ⟨⟩⟩ rfl (fun cs h => by simp only [List.mem_cons, List.not_mem_nil, or_false] at h; rcases h with rfl | rfl <;> rfl) rfl (by decide) (by decide) ?_
  intro w21 hE21 hz21 hB21
  have hF21 : SlS fileC 2 w21 (some ⟨w20.heap.size, 0, none⟩) 2 2 sanF2 := ⟨Sl.own (sz := 2) (n := 2) hB21 (Nat.le_refl _) (by decide) (by simp [fileC]), rfl⟩
  refine call (sread_fn sanNm _ 2 2 sanF2 _ 2 2 [109] w21 (hN20.ext hE21) san_nb (by decide) hF21 san_fb2 (by decide) (by decide)) ?_
  rw [san_2]
  rintro _ w22 ⟨hE22, rfl⟩
  have hE2022 := hE21.trans hE22
  refine new (fun w23 hE23 hz23 hB23 => ?_)
  refine new (fun w24 hE24' hz24 hB24 => ?_)
  refine storeN_blk0 (hB23.ext hE24') rfl (sc rfl) (fun w25 hg25 _ hB25 => ?_)
  have hM25 : Mod (· = w22.heap.size) w24 w25 := Mod.of_grown hg25 rfl
  refine storeN_blk0 (hB24.mod hM25 (by omega)) rfl (sc rfl) (fun w26 hg26 _ hB26 => ?_)
  have hM26 : Mod (· = w23.heap.size) w25 w26 := Mod.of_grown hg26 rfl
  have hE2226 : Ext w22 w26 := hM26.ext (hM25.ext (hE23.trans hE24') (fun i hi => by omega)) (fun i hi => by omega)
  have hE2026 := hE2022.trans hE2226
  refine wif_t rfl ?_
  refine wif_t rfl ?_
  refine wif_t rfl ?_
  refine wif_t rfl ?_
  refine wif_t rfl ?_
  refine wif_t rfl ?_
  refine wif_t rfl ?_
  refine wif_t rfl ?_
  refine wif_t rfl ?_
  refine wif_t rfl ?_
  have hO26 : Sl w26 1 O 2 oc (ixV [1, 3]) := (hO.modS hM20 (hO.sep (x := 1) rfl hB2' (file_str _))).ext hE2026
  have hI26 := ((hI11.ext hE119).modT hB2' (file_str _) hM20).ext hE2026
  have hS26 : Blk w26 w7.heap.size 29 [.string (strOf sanG.tx), .slice RA sanG.sg.length rc] := ((hS _ hE119).mod hM20 (by have := hE04.size; have := hE1119.size; have := (hE5.trans hE67).size; have := hB1.lt; have := hg2.size; have := hE24.size; omega)).ext hE2026
  refine index_sl (j := 0) hO26 (by decide) (fun ad u hA' hu hcell => ?_)
  cases hu
  refine load hcell ?_
  refine wif_t rfl ?_
  refine index_sl (j := 1) hO26 (by decide) (fun ad u hA' hu hcell => ?_)
  cases hu
  refine load hcell ?_
  refine wif_t rfl ?_
  refine loadN_blk0 hS26 rfl ?_
  refine call (rsel_fn hI26 1 (by decide)) ?_
  rw [san_s]
  rintro _ w27 ⟨rfl, hE27⟩
  refine wif_t rfl ?_
  refine loadN_blk0 (hB26.ext hE27) rfl ?_
  exact ⟨rfl, ((hM20.ext (hE04.trans hE1119) (fun i hi => by omega)).trans hE2026).trans hE27⟩
end
end
end Go.Proofs.YtedopgkbajhanaaGreatDoor

namespace Go.Proofs.YtedopgkbajhanaaGreatDoor
section
open Go Go.RowKit

theorem addS (a b : List Nat) (h : a.length + b.length ≤ 100000) : (strOf a).size + (strOf b).size ≤ maxLen := by
  rw [strOf_size, strOf_size]; unfold maxLen; omega
def formA (p q : List Nat) (b : Nat) : List Nat :=
  if b = 0 ∨ b = 1 then p else if b = 2 then 33 :: p else if b = 3 then p ++ [32, 38, 38, 32] ++ q else if b = 4 then p ++ [32, 124, 124, 32, 33] ++ q
  else if b = 5 then [33, 40] ++ p ++ [32, 38, 38, 32] ++ q ++ [41] else if b = 6 then [33] ++ p ++ [38, 38, 33] ++ q else [116, 114, 117, 101]
/-- The expression that a number makes. -/
def formT (nm : List (List Nat)) (b : Nat) : List Nat :=
  if nm = [] then ([[116, 114, 117, 101], [102, 97, 108, 115, 101], [33, 102, 97, 108, 115, 101]][b % 3]?).getD []
  else formA ((nm[b / 8 % nm.length]?).getD []) ((nm[(b / 64 + b / 8 + 1) % nm.length]?).getD []) (b % 8)

set_option maxHeartbeats 1600000 in
theorem formula_fn (nm : List (List Nat)) (A : Option Addr) (n c : Nat) (b : Nat) (w : World) (h : Sl w 1 A n c (strsV nm)) (hl : ∀ s ∈ nm, s.length ≤ 100) (hb : b ≤ 255) :
    Fn Tryz.prog 33 [.slice A n c, .int .u8 b] w (fun v w' => v = .string (strOf (formT nm b)) ∧ Ext w w') := by
  have hn : nm.length = n := by have := h.len; rw [strsV_length] at this; omega
  have hcap : n ≤ 9223372036854775807 := by have := h.le; have := h.cap; simp only [maxLen] at this; omega
  refine fn_of_exec (c := { c33 with cuts := [] }) gx_ok Tryz.func33 rfl rfl rfl ?_
  refine wif_eq (fun c1 => ?_) (fun c1 => ?_)
  · have hnil : nm = [] := List.eq_nil_of_length_eq_zero (by omega)
    have hft : formT nm b = ([[116, 114, 117, 101], [102, 97, 108, 115, 101], [33, 102, 97, 108, 115, 101]][b % 3]?).getD [] := if_pos hnil
    have h3 : b % 3 < 3 := Nat.mod_lt _ (by decide)
    refine at_buildN gx_ok ([[116, 114, 117, 101], [102, 97, 108, 115, 101], [33, 102, 97, 108, 115, 101]].map (fun s => [Value.string (strOf s)])) rfl rfl rfl rfl rfl ⟨rfl, rfl, rfl, rfl, rfl, rfl, ⟨⟩⟩ rfl (fun cs h => by simp only [List.mem_map] at h; obtain ⟨s, _, rfl⟩ := h; rfl) rfl (by decide) (by decide) ?_
    intro w1 hE1 hz1 hB1
    refine norm_i64_to ((b : Nat) : Int) rfl (by omega) ?_
    refine normIf (m := ((b % 3 : Nat) : Int)) (by decide) rfl ?_
    refine index (j := b % 3) h3 ?_
    refine load_blk hB1 (v := .string (strOf (([[116, 114, 117, 101], [102, 97, 108, 115, 101], [33, 102, 97, 108, 115, 101]][b % 3]?).getD []))) (by
      generalize b % 3 = r at h3
      rcases (show r = 0 ∨ r = 1 ∨ r = 2 by omega) with rfl | rfl | rfl <;> rfl) ?_
    exact ⟨by rw [hft], hE1⟩
  · have hne : nm ≠ [] := fun e => by rw [e] at hn; simp at hn; omega
    have hpos : 0 < n := by omega
    have hft : formT nm b = formA ((nm[b / 8 % nm.length]?).getD []) ((nm[(b / 64 + b / 8 + 1) % nm.length]?).getD []) (b % 8) := if_neg hne
    rw [hn] at hft
    have l1 : b / 8 % n < n := Nat.mod_lt _ hpos
    have l2 : (b / 64 + b / 8 + 1) % n < n := Nat.mod_lt _ hpos
    have hq8 : IntKind.u8.wrap (((b : Nat) : Int).tdiv 8) = ((b / 8 : Nat) : Int) := by
      show IntKind.u8.wrap ((b / 8 : Nat) : Int) = _
      rw [wrap_u8_nat]; omega
    have hq64 : IntKind.u8.wrap (((b : Nat) : Int).tdiv 64) = ((b / 64 : Nat) : Int) := by
      show IntKind.u8.wrap ((b / 64 : Nat) : Int) = _
      rw [wrap_u8_nat]; omega
    have hg1 : nm[b / 8 % n]? = some (nm[b / 8 % n]'(by omega)) := List.getElem?_eq_getElem _
    have hg2 : nm[(b / 64 + b / 8 + 1) % n]? = some (nm[(b / 64 + b / 8 + 1) % n]'(by omega)) := List.getElem?_eq_getElem _
    have p100 := hl _ (List.mem_of_getElem? hg1)
    have q100 := hl _ (List.mem_of_getElem? hg2)
    rw [hg1, hg2] at hft
    simp only [Option.getD_some] at hft
    generalize nm[b / 8 % n]'(by omega) = p at *
    generalize nm[(b / 64 + b / 8 + 1) % n]'(by omega) = q at *
    have ps := strOf_size p
    have qs := strOf_size q
    refine normIf (m := ((b / 8 : Nat) : Int)) (by decide) hq8 ?_
    refine norm_i64_to ((b / 8 : Nat) : Int) rfl (by omega) ?_
    refine normIf (m := ((b / 8 % n : Nat) : Int)) (by omega) (tmod_nat _ _) ?_
    refine index_sl h l1 (fun ad u hA hu hcell => ?_)
    rw [strsV_get hg1] at hu
    cases hu
    refine load hcell ?_
    refine normIf (m := ((b / 64 : Nat) : Int)) (by decide) hq64 ?_
    refine normIf (m := ((b / 8 : Nat) : Int)) (by decide) hq8 ?_
    refine norm (m := ((b / 64 + b / 8 : Nat) : Int)) (by show IntKind.u8.wrap (((b / 64 : Nat) : Int) + ((b / 8 : Nat) : Int)) = _; rw [← Int.natCast_add, wrap_u8_nat]; omega) ?_
    refine norm (m := ((b / 64 + b / 8 + 1 : Nat) : Int)) (by show IntKind.u8.wrap (((b / 64 + b / 8 : Nat) : Int) + ((1 : Nat) : Int)) = _; rw [← Int.natCast_add, wrap_u8_nat]; omega) ?_
    refine norm_i64_to ((b / 64 + b / 8 + 1 : Nat) : Int) rfl (by omega) ?_
    refine normIf (m := (((b / 64 + b / 8 + 1) % n : Nat) : Int)) (by omega) (tmod_nat _ _) ?_
    refine index_sl h l2 (fun ad' u' hA' hu' hcell' => ?_)
    rw [strsV_get hg2] at hu'
    cases hu'
    refine load hcell' ?_
    have hr8 : ((b : Nat) : Int).tmod 8 = ((b % 8 : Nat) : Int) := tmod_nat b 8
    have m8 : b % 8 < 8 := Nat.mod_lt _ (by decide)
    generalize b % 8 = r at hr8 m8 hft
    refine normIf (m := ((r : Nat) : Int)) (by decide) hr8 ?_
    clear hr8 hq8 hq64
    rw [hft]
    rcases (show r = 0 ∨ r = 1 ∨ r = 2 ∨ r = 3 ∨ r = 4 ∨ r = 5 ∨ r = 6 ∨ r = 7 by omega) with rfl | rfl | rfl | rfl | rfl | rfl | rfl | rfl
    · refine wif_t rfl ?_
      exact ⟨rfl, Ext.refl _⟩
    · refine wif_f rfl ?_
      refine wif_t rfl ?_
      exact ⟨rfl, Ext.refl _⟩
    · refine wif_f rfl ?_
      refine wif_f rfl ?_
      refine wif_t rfl ?_
      refine need_to (v' := .string (strOf ([33] ++ p))) (addS [33] p (by simp; omega)) (congrArg Value.string (strOf_append [33] p)) ?_
      exact ⟨rfl, Ext.refl _⟩
    · refine wif_f rfl ?_
      refine wif_f rfl ?_
      refine wif_f rfl ?_
      refine wif_t rfl ?_
      refine need_to (v' := .string (strOf (p ++ [32, 38, 38, 32]))) (addS p [32, 38, 38, 32] (by simp; omega)) (congrArg Value.string (strOf_append p [32, 38, 38, 32])) ?_
      refine need_to (v' := .string (strOf ((p ++ [32, 38, 38, 32]) ++ q))) (addS (p ++ [32, 38, 38, 32]) q (by simp; omega)) (congrArg Value.string (strOf_append (p ++ [32, 38, 38, 32]) q)) ?_
      exact ⟨rfl, Ext.refl _⟩
    · refine wif_f rfl ?_
      refine wif_f rfl ?_
      refine wif_f rfl ?_
      refine wif_f rfl ?_
      refine wif_t rfl ?_
      refine need_to (v' := .string (strOf (p ++ [32, 124, 124, 32, 33]))) (addS p [32, 124, 124, 32, 33] (by simp; omega)) (congrArg Value.string (strOf_append p [32, 124, 124, 32, 33])) ?_
      refine need_to (v' := .string (strOf ((p ++ [32, 124, 124, 32, 33]) ++ q))) (addS (p ++ [32, 124, 124, 32, 33]) q (by simp; omega)) (congrArg Value.string (strOf_append (p ++ [32, 124, 124, 32, 33]) q)) ?_
      exact ⟨rfl, Ext.refl _⟩
    · refine wif_f rfl ?_
      refine wif_f rfl ?_
      refine wif_f rfl ?_
      refine wif_f rfl ?_
      refine wif_f rfl ?_
      refine wif_t rfl ?_
      refine need_to (v' := .string (strOf ([33, 40] ++ p))) (addS [33, 40] p (by simp; omega)) (congrArg Value.string (strOf_append [33, 40] p)) ?_
      refine need_to (v' := .string (strOf (([33, 40] ++ p) ++ [32, 38, 38, 32]))) (addS ([33, 40] ++ p) [32, 38, 38, 32] (by simp; omega)) (congrArg Value.string (strOf_append ([33, 40] ++ p) [32, 38, 38, 32])) ?_
      refine need_to (v' := .string (strOf (([33, 40] ++ p ++ [32, 38, 38, 32]) ++ q))) (addS ([33, 40] ++ p ++ [32, 38, 38, 32]) q (by simp; omega)) (congrArg Value.string (strOf_append ([33, 40] ++ p ++ [32, 38, 38, 32]) q)) ?_
      refine need_to (v' := .string (strOf (([33, 40] ++ p ++ [32, 38, 38, 32] ++ q) ++ [41]))) (addS ([33, 40] ++ p ++ [32, 38, 38, 32] ++ q) [41] (by simp; omega)) (congrArg Value.string (strOf_append ([33, 40] ++ p ++ [32, 38, 38, 32] ++ q) [41])) ?_
      exact ⟨rfl, Ext.refl _⟩
    · refine wif_f rfl ?_
      refine wif_f rfl ?_
      refine wif_f rfl ?_
      refine wif_f rfl ?_
      refine wif_f rfl ?_
      refine wif_f rfl ?_
      refine wif_t rfl ?_
      refine need_to (v' := .string (strOf ([33] ++ p))) (addS [33] p (by simp; omega)) (congrArg Value.string (strOf_append [33] p)) ?_
      refine need_to (v' := .string (strOf (([33] ++ p) ++ [38, 38, 33]))) (addS ([33] ++ p) [38, 38, 33] (by simp; omega)) (congrArg Value.string (strOf_append ([33] ++ p) [38, 38, 33])) ?_
      refine need_to (v' := .string (strOf (([33] ++ p ++ [38, 38, 33]) ++ q))) (addS ([33] ++ p ++ [38, 38, 33]) q (by simp; omega)) (congrArg Value.string (strOf_append ([33] ++ p ++ [38, 38, 33]) q)) ?_
      exact ⟨rfl, Ext.refl _⟩
    · refine wif_f rfl ?_
      refine wif_f rfl ?_
      refine wif_f rfl ?_
      refine wif_f rfl ?_
      refine wif_f rfl ?_
      refine wif_f rfl ?_
      refine wif_f rfl ?_
      exact ⟨rfl, Ext.refl _⟩
end
end Go.Proofs.YtedopgkbajhanaaGreatDoor

namespace Go.Proofs.YtedopgkbajhanaaGreatDoor
section
open Go Go.RowKit

def formB (p q : Fm) (b : Nat) : Fm :=
  if b = 0 ∨ b = 1 then p else if b = 2 then .not p else if b = 3 then .and p q else if b = 4 then .or p (.not q) else if b = 5 then .not (.and p q) else if b = 6 then .and (.not p) (.not q) else .c true
/-- The formula that a number makes over k conditions. -/
def formF (k b : Nat) : Fm := if k = 0 then (if b % 3 = 0 then .c true else if b % 3 = 1 then .c false else .not (.c false)) else formB (.v (b / 8 % k)) (.v ((b / 64 + b / 8 + 1) % k)) (b % 8)
def okF (k b : Nat) : Bool := match parseT (letters12.take k) (formT (letters12.take k) b) with
  | .ok t => decide (t = formF k b)
  | .error _ => false
theorem okF_ok {k b : Nat} (h : okF k b = true) : parseT (letters12.take k) (formT (letters12.take k) b) = .ok (formF k b) := by
  unfold okF at h
  split at h
  · rename_i t ht; rw [ht, of_decide_eq_true h]
  · cases h
theorem okF_4 : (List.range 256).all (okF 4) = true := by decide +kernel
theorem okF_3 : (List.range 256).all (okF 3) = true := by decide +kernel
theorem okF_2 : (List.range 256).all (okF 2) = true := by decide +kernel
theorem okF_1 : (List.range 256).all (okF 1) = true := by decide +kernel
theorem okF_0 : (List.range 256).all (okF 0) = true := by decide +kernel
theorem form_parse {k b : Nat} (hk : k ≤ 4) (hb : b ≤ 255) : parseT (letters12.take k) (formT (letters12.take k) b) = .ok (formF k b) := by
  have hm : b ∈ List.range 256 := List.mem_range.2 (by omega)
  rcases (show k = 0 ∨ k = 1 ∨ k = 2 ∨ k = 3 ∨ k = 4 by omega) with rfl | rfl | rfl | rfl | rfl
  · exact okF_ok (List.all_eq_true.1 okF_0 b hm)
  · exact okF_ok (List.all_eq_true.1 okF_1 b hm)
  · exact okF_ok (List.all_eq_true.1 okF_2 b hm)
  · exact okF_ok (List.all_eq_true.1 okF_3 b hm)
  · exact okF_ok (List.all_eq_true.1 okF_4 b hm)
/-- The set of an expression that a number makes. -/
def formO (k b : Nat) : BF := evF (formF k b)
theorem form_set {k b : Nat} (hk : k ≤ 4) (hb : b ≤ 255) : setE (letters12.take k) (formT (letters12.take k) b) = .ok (formO k b) := by
  unfold setE
  rw [form_parse hk hb]; rfl
end
end Go.Proofs.YtedopgkbajhanaaGreatDoor

namespace Go.Proofs.YtedopgkbajhanaaGreatDoor
section
open Go Go.RowKit

/-! ### Lines without directives -/
theorem txt_dir {s : List Nat} (h : s.head? ≠ some 35) : dirOf s = .txt := by
  unfold dirOf
  cases s with
  | nil => rfl
  | cons b t =>
    have hb : b ≠ 35 := fun e => h (by rw [e]; rfl)
    have e1 : pIf.isPrefixOf (b :: t) = false := by simp [pIf, List.isPrefixOf, hb.symm]
    have e2 : pInc.isPrefixOf (b :: t) = false := by simp [pInc, List.isPrefixOf, hb.symm]
    have e3 : pElif.isPrefixOf (b :: t) = false := by simp [pElif, List.isPrefixOf, hb.symm]
    rw [e1, e2, e3, if_neg (by decide), if_neg (by decide), if_neg (by decide), if_neg (by simp [lElse, hb]), if_neg (by simp [lEnd, hb])]
theorem textB_unl (ls : List (List Nat)) : textB (unl ls) = true := by
  unfold textB
  rcases unl_ok ls with h | h
  · rw [h]; rfl
  · rw [h]; simp
theorem plain_b8 {ls : List (List Nat)} (h : ∀ s ∈ ls, ∀ x ∈ s, x < 256) : ∀ x ∈ unl ls, x < 256 := fun x hx => by
  unfold unl at hx
  obtain ⟨s, hs, hxs⟩ := List.mem_flatMap.1 hx
  rcases List.mem_append.1 hxs with hxs | hxs
  · exact h s hs x hxs
  · simp only [List.mem_singleton] at hxs; subst hxs; decide
/-! ### The law -/
end
end Go.Proofs.YtedopgkbajhanaaGreatDoor

namespace Go.Proofs.YtedopgkbajhanaaGreatDoor
section
open Go Go.RowKit

/-! ### few -/
/-! ### What an error depends on -/
/-- Two lists of files that differ in the texts of some being read. -/
structure SameF (rd : List Nat) (fs fs' : List (List Nat × List Nat)) : Prop where
  nm : fs'.map (·.1) = fs.map (·.1)
  tx : ∀ i, i ∉ rd → fs'[i]? = fs[i]?
theorem SameF.cons {rd : List Nat} {fs fs' : List (List Nat × List Nat)} (h : SameF rd fs fs') (n : Nat) : SameF (n :: rd) fs fs' := ⟨h.nm, fun i hi => h.tx i (fun hh => hi (List.mem_cons_of_mem _ hh))⟩
/-! ### The plain law -/
end
end Go.Proofs.YtedopgkbajhanaaGreatDoor

namespace Go.Proofs.YtedopgkbajhanaaGreatDoor
section
open Go Go.RowKit

theorem dir_ifs (F : List Nat) : dirOf (pIf ++ F) = .ifd F := by simp [dirOf, pIf, List.isPrefixOf]
theorem dir_elifs (F : List Nat) : dirOf (pElif ++ F) = .elif F := by simp [dirOf, pIf, pElif, pInc, List.isPrefixOf]
end
end Go.Proofs.YtedopgkbajhanaaGreatDoor

namespace Go.Proofs.YtedopgkbajhanaaGreatDoor
section
open Go Go.RowKit

/-! ### Bytes with their conditions -/
abbrev CB := List (Nat × BF)
def cbG (g : Gs) : CB := g.sg.flatMap (fun s => (pieceG g.tx s).map (fun b => (b, s.o)))
theorem piece_app {tx s : List Nat} {x : Sg} (h : x.t ≤ tx.length) : pieceG (tx ++ s) x = pieceG tx x := by
  unfold pieceG; rw [List.take_append_of_le_length h]
theorem cb_fr (g : Gs) (b : Bool) : cbG { g with fr := b } = cbG g := rfl
theorem flat_same {tx s : List Nat} : ∀ {l : List Sg}, (∀ x ∈ l, x.t ≤ tx.length) → l.flatMap (fun x => (pieceG (tx ++ s) x).map (fun b => (b, x.o))) = l.flatMap (fun x => (pieceG tx x).map (fun b => (b, x.o)))
  | [], _ => rfl
  | x :: l, h => by rw [List.flatMap_cons, List.flatMap_cons, flat_same (fun y hy => h y (by simp [hy])), piece_app (h x (by simp))]
theorem cb_add {fs : List (List Nat × List Nat)} {n p : Nat} {k : BF} {g g' : Gs} {s : List Nat} (h : GInv fs g) (hc : CurG n p k g) (ha : addG s n p k g = some g') : cbG g' = cbG g ++ s.map (fun b => (b, k)) := by
  unfold addG at ha
  split at ha
  · cases ha
  cases ha
  cases hf : g.fr with
  | true =>
    rw [if_pos rfl, setTo_snoc]
    unfold cbG
    simp only
    rw [List.flatMap_append, flat_same (fun x hx => (h.ok x hx).tl)]
    congr 1
    simp only [List.flatMap_cons, List.flatMap_nil, List.append_nil]
    congr 1
    unfold pieceG
    simp only
    rw [List.take_of_length_le (by simp), List.drop_left]
  | false =>
    rw [if_neg (by decide)]
    obtain ⟨l, y, e, e1, e2, e3⟩ := hc hf
    have hch := h.ch
    have hok := h.ok
    rw [e] at hch hok
    rw [ChG.snoc] at hch
    have hy := hok y (by simp)
    rw [e, setTo_snoc]
    unfold cbG
    simp only
    rw [e, List.flatMap_append, List.flatMap_append, flat_same (fun x hx => (hok x (by simp [hx])).tl), List.append_assoc]
    congr 1
    have h1 := hy.ft
    have h2 := hch.2
    have e4 : pieceG (g.tx ++ s) { y with t := g.tx.length + s.length } = pieceG g.tx y ++ s := by
      unfold pieceG
      simp only
      rw [List.take_of_length_le (by simp), List.drop_append_of_le_length (by omega), h2, List.take_length]
    simp only [List.flatMap_cons, List.flatMap_nil, List.append_nil]
    rw [e4, List.map_append, e3]
theorem piece_fst {tx : List Nat} : ∀ {l : List Sg} {a : Nat}, ChG a l tx.length → (∀ x ∈ l, x.f < x.t ∧ x.t ≤ tx.length) → (l.flatMap (fun x => (pieceG tx x).map (fun b => (b, x.o)))).map (·.1) = tx.drop a
  | [], a, h, _ => by
    have : a = tx.length := h
    subst this; simp
  | x :: l, a, h, hx => by
    obtain ⟨h1, h2⟩ := hx x (by simp)
    rw [List.flatMap_cons, List.map_append, piece_fst h.2 (fun y hy => hx y (by simp [hy]))]
    have : x.f = a := h.1
    subst this
    rw [List.map_map]
    rw [show ((fun (p : Nat × BF) => p.1) ∘ fun b => (b, x.o)) = id from rfl, List.map_id]
    unfold pieceG
    conv => rhs; rw [← List.take_append_drop x.t tx]
    rw [List.drop_append_of_le_length (by rw [List.length_take]; omega)]
theorem cb_fst {fs : List (List Nat × List Nat)} {g : Gs} (h : GInv fs g) : (cbG g).map (·.1) = g.tx := by
  have := piece_fst h.ch (fun x hx => ⟨(h.ok x hx).ft, (h.ok x hx).tl⟩)
  rw [List.drop_zero] at this
  exact this
theorem cb_len {fs : List (List Nat × List Nat)} {g : Gs} (h : GInv fs g) : (cbG g).length = g.tx.length := by
  rw [← cb_fst h, List.length_map]
theorem sg_le {tx : List Nat} : ∀ {l : List Sg} {a : Nat}, ChG a l tx.length → (∀ x ∈ l, x.f < x.t ∧ x.t ≤ tx.length) → a + l.length ≤ tx.length
  | [], a, h, _ => by have : a = tx.length := h; simp; omega
  | x :: l, a, h, hx => by
    have h1 := hx x (by simp)
    have h2 := sg_le h.2 (fun y hy => hx y (by simp [hy]))
    have : x.f = a := h.1
    simp only [List.length_cons]; omega
theorem sgs_le {fs : List (List Nat × List Nat)} {g : Gs} (h : GInv fs g) : g.sg.length ≤ g.tx.length := by
  have := sg_le h.ch (fun x hx => ⟨(h.ok x hx).ft, (h.ok x hx).tl⟩)
  omega
/-- The text of a configuration. -/
theorem sel_cb (g : Gs) (e : Nat → Bool) : selG g.tx g.sg e = ((cbG g).filter (fun p => p.2 e)).map (·.1) := by
  unfold selG cbG onG
  generalize g.sg = l
  induction l with
  | nil => rfl
  | cons x l ih =>
    rw [List.flatMap_cons, List.filter_append, List.map_append, ← ih, List.filter_cons]
    cases he : x.o e with
    | true =>
      rw [if_pos rfl, List.flatMap_cons]
      congr 1
      rw [List.filter_map, List.map_map]
      rw [List.filter_eq_self.2 (fun b _ => by simpa using he)]
      rw [show ((fun (p : Nat × BF) => p.1) ∘ fun b => (b, x.o)) = id from rfl, List.map_id]
    | false =>
      rw [if_neg (by decide)]
      have : ((pieceG g.tx x).map (fun b => (b, x.o))).filter (fun p => p.2 e) = [] := by
        rw [List.filter_eq_nil_iff]
        intro p hp
        obtain ⟨b, _, rfl⟩ := List.mem_map.1 hp
        simp [he]
      rw [this]; rfl

/-! ### Lines of made files -/
inductive Mn where
  | tx (s : List Nat)
  | ifd (F : List Nat) (o : BF)
  | elif (F : List Nat) (o : BF)
  | els
  | en
  | inc
def nInc : List Nat := [34, 110, 34]
def mnT : Mn → List Nat
  | .tx s => s
  | .ifd F _ => pIf ++ F
  | .elif F _ => pElif ++ F
  | .els => lElse
  | .en => lEnd
  | .inc => pInc ++ nInc
/-- A line of text: no directive, no line feed. -/
structure TxOk (s : List Nat) : Prop where
  nl : 10 ∉ s
  dr : dirOf s = .txt
  b8 : ∀ x ∈ s, x < 256
/-- An expression of a set. -/
structure FOk (nm : List (List Nat)) (F : List Nat) (o : BF) : Prop where
  nl : 10 ∉ F
  st : setE nm F = .ok o
  b8 : ∀ x ∈ F, x < 256
/-- Sections are closed, hold what they may hold, and are at most D deep; ic: whether lines may include. -/
def wfM (nm : List (List Nat)) (ic : Bool) (D : Nat) : List Bool → List Mn → Prop
  | [], [] => True
  | _ :: _, [] => False
  | op, .tx s :: l => TxOk s ∧ wfM nm ic D op l
  | op, .ifd F o :: l => FOk nm F o ∧ op.length < D ∧ wfM nm ic D (false :: op) l
  | false :: op, .elif F o :: l => FOk nm F o ∧ wfM nm ic D (false :: op) l
  | false :: op, .els :: l => wfM nm ic D (true :: op) l
  | _ :: op, .en :: l => wfM nm ic D op l
  | op, .inc :: l => ic = true ∧ wfM nm ic D op l
  | _, _ => False
/-- The bytes that lines yield under a condition; op: the open sections (the condition around each, and what no branch has so far). -/
def emM (ie : BF → CB) : List Mn → BF → List (BF × BF) → CB
  | [], _, _ => []
  | .tx s :: l, k, op => (s ++ [10]).map (fun b => (b, k)) ++ emM ie l k op
  | .ifd _ o :: l, k, op => emM ie l (bAnd k o) ((k, bSub k o) :: op)
  | .elif _ o :: l, k, op => match op with
    | [] => []
    | (ou, re) :: op => emM ie l (bAnd re o) ((ou, bSub re o) :: op)
  | .els :: l, k, op => match op with
    | [] => []
    | (ou, re) :: op => emM ie l re ((ou, re) :: op)
  | .en :: l, k, op => match op with
    | [] => []
    | (ou, _) :: op => emM ie l ou op
  | .inc :: l, k, op => ie k ++ emM ie l k op

theorem dir_incs (F : List Nat) : dirOf (pInc ++ F) = .inc F := by simp [dirOf, pIf, pInc, List.isPrefixOf]
abbrev opM (op : List Se) : List (BF × BF) := op.map (fun x => (x.ou, x.re))
abbrev flM (op : List Se) : List Bool := op.map (·.ot)

theorem add_ok {fs : List (List Nat × List Nat)} {g : Gs} {s : List Nat} {n p : Nat} {k : BF} (h : GInv fs g) (hl : (cbG g).length + s.length ≤ 60000) : ∃ g', addG s n p k g = some g' := by
  have h1 := cb_len h
  have h2 := sgs_le h
  unfold addG
  rw [if_neg (by intro hh; rcases hh with hh | ⟨_, hh⟩ <;> omega)]
  exact ⟨_, rfl⟩

theorem rdM {nm : List (List Nat)} {fs : List (List Nat × List Nat)} {n d0 : Nat} {inc : IncF} {x : List Nat × List Nat} (hx : fs[n]? = some x) {ic : Bool} {D : Nat} {ie : BF → CB}
    (hi : ic = true → ∀ ln d k g, GInv fs g → d0 ≤ d → d ≤ d0 + D → (cbG g).length + (ie k).length ≤ 60000 → ∃ g', inc nInc ln d k g = .ok g' ∧ GInv fs g' ∧ cbG g' = cbG g ++ ie k) (hd0 : d0 + D < 64) :
    ∀ (l : List Mn) (ln at_ : Nat) (k : BF) (op : List Se) (g : Gs), x.2.drop at_ = unl (l.map mnT) → at_ ≤ x.2.length → GInv fs g → CurG n at_ k g → wfM nm ic D (flM op) l → op.length ≤ D → (cbG g).length + (emM ie l k (opM op)).length ≤ 60000 →
      ∃ g', rdL nm n d0 inc (l.map mnT) ln at_ k op g = .ok g' ∧ GInv fs g' ∧ cbG g' = cbG g ++ emM ie l k (opM op)
  | [], ln, at_, k, op, g, _, _, hg, _, hw, _, _ => by
    cases op with
    | nil => exact ⟨{ g with fr := true }, rfl, hg.fr true, by rw [emM, List.append_nil]; rfl⟩
    | cons y op => exact hw.elim
  | m :: l, ln, at_, k, op, g, hdr, hat, hg, hc, hw, hop, hlen => by
    have hdr' : x.2.drop at_ = (mnT m ++ [10]) ++ unl (l.map mnT) := by rw [hdr, List.map_cons, unl_cons]; simp
    generalize hs : mnT m = s at hdr'
    have hL : (s ++ [10]).length = s.length + 1 := by simp
    have hln : x.2.length - at_ = s.length + 1 + (unl (l.map mnT)).length := by
      have := congrArg List.length hdr'
      simp only [List.length_drop, List.length_append, List.length_cons, List.length_nil] at this
      omega
    have hd2 : x.2.drop (at_ + s.length + 1) = unl (l.map mnT) := by
      rw [show at_ + s.length + 1 = at_ + (s ++ [10]).length by simp; omega, ← List.drop_drop, hdr', List.drop_left]
    have ih := fun k op g h1 h2 h3 h4 h5 => rdM (nm := nm) hx hi hd0 l (ln + 1) (at_ + s.length + 1) k op g hd2 (by omega) h1 h2 h3 h4 h5
    have cf : ∀ k' (g : Gs), CurG n (at_ + s.length + 1) k' { g with fr := true } := fun k' g h => by cases h
    rw [List.map_cons, hs]
    cases m with
    | tx t =>
      have ht : t = s := hs
      subst ht
      obtain ⟨w1, w2⟩ : TxOk t ∧ wfM nm ic D (flM op) l := by cases op <;> exact hw
      rw [emM, List.length_append, List.length_map] at hlen
      obtain ⟨g1, ha⟩ := add_ok (s := t ++ [10]) (n := n) (p := at_) (k := k) hg (by omega)
      obtain ⟨i1, i2⟩ := add_inv hg hc hx (by rw [hL, ← Nat.add_assoc, hd2]; exact hdr') (by rw [hL]; omega) (by simp) ha
      have i3 := cb_add hg hc ha
      rw [rdL_txt w1.dr, ha]
      obtain ⟨g', r1, r2, r3⟩ := ih k op g1 i1 (by rw [hL, ← Nat.add_assoc] at i2; exact i2) w2 hop (by rw [i3, List.length_append, List.length_map]; omega)
      exact ⟨g', r1, r2, by rw [r3, i3, emM, List.append_assoc]⟩
    | ifd F o =>
      have ht : pIf ++ F = s := hs
      obtain ⟨w1, w2, w3⟩ : FOk nm F o ∧ (flM op).length < D ∧ wfM nm ic D (false :: flM op) l := by cases op <;> exact hw
      simp only [List.length_map] at w2
      have hdir : dirOf s = .ifd F := by rw [← ht]; exact dir_ifs _
      rw [rdL_ifd hdir, w1.st]
      simp only
      rw [if_neg (by omega)]
      rw [emM] at hlen ⊢
      exact ih _ (⟨k, bSub k o, false, ln + 1⟩ :: op) { g with fr := true } (hg.fr true) (cf _ _) w3 (by simp; omega) hlen
    | elif F o =>
      have ht : pElif ++ F = s := hs
      cases op with
      | nil => exact hw.elim
      | cons y op =>
        have hot : y.ot = false := by
          cases ho : y.ot with
          | false => rfl
          | true =>
            have hw : wfM nm ic D (y.ot :: flM op) (.elif F o :: l) := hw
            rw [ho] at hw; exact hw.elim
        obtain ⟨w1, w3⟩ : FOk nm F o ∧ wfM nm ic D (false :: flM op) l := by
          have hw : wfM nm ic D (y.ot :: flM op) (.elif F o :: l) := hw
          rw [hot] at hw; exact hw
        have hdir : dirOf s = .elif F := by rw [← ht]; exact dir_elifs _
        rw [rdL_elif hdir, w1.st]
        simp only
        rw [if_neg (by rw [hot]; decide)]
        have e : emM ie (.elif F o :: l) k (opM (y :: op)) = emM ie l (bAnd y.re o) (opM ({ y with re := bSub y.re o } :: op)) := rfl
        rw [e] at hlen ⊢
        exact ih _ ({ y with re := bSub y.re o } :: op) { g with fr := true } (hg.fr true) (cf _ _) (by rw [← hot] at w3; exact w3) hop hlen
    | els =>
      have ht : lElse = s := hs
      subst ht
      cases op with
      | nil => exact hw.elim
      | cons y op =>
        have hot : y.ot = false := by
          cases ho : y.ot with
          | false => rfl
          | true =>
            have hw : wfM nm ic D (y.ot :: flM op) (.els :: l) := hw
            rw [ho] at hw; exact hw.elim
        have w3 : wfM nm ic D (true :: flM op) l := by
          have hw : wfM nm ic D (y.ot :: flM op) (.els :: l) := hw
          rw [hot] at hw; exact hw
        rw [rdL_els dir_else]
        simp only
        rw [if_neg (by rw [hot]; decide)]
        have e : emM ie (.els :: l) k (opM (y :: op)) = emM ie l y.re (opM ({ y with ot := true } :: op)) := rfl
        rw [e] at hlen ⊢
        exact ih _ ({ y with ot := true } :: op) { g with fr := true } (hg.fr true) (cf _ _) w3 hop hlen
    | en =>
      have ht : lEnd = s := hs
      subst ht
      cases op with
      | nil => exact hw.elim
      | cons y op =>
        have w3 : wfM nm ic D (flM op) l := by
          have hw : wfM nm ic D (y.ot :: flM op) (.en :: l) := hw
          cases hy : y.ot <;> rw [hy] at hw <;> exact hw
        rw [rdL_en dir_end]
        have e : emM ie (.en :: l) k (opM (y :: op)) = emM ie l y.ou (opM op) := rfl
        rw [e] at hlen ⊢
        exact ih _ op { g with fr := true } (hg.fr true) (cf _ _) w3 (by simp at hop; omega) hlen
    | inc =>
      have ht : pInc ++ nInc = s := hs
      subst ht
      obtain ⟨w1, w2⟩ : ic = true ∧ wfM nm ic D (flM op) l := by
        cases op with
        | nil => exact hw
        | cons y op =>
          have hw : wfM nm ic D (y.ot :: flM op) (.inc :: l) := hw
          cases hy : y.ot <;> rw [hy] at hw <;> refine ⟨hw.1, ?_⟩ <;> show wfM nm ic D (y.ot :: flM op) l <;> rw [hy] <;> exact hw.2
      rw [emM, List.length_append] at hlen
      obtain ⟨g1, j1, j2, j3⟩ := hi w1 (ln + 1) (d0 + op.length) k g hg (by omega) (by omega) (by omega)
      rw [rdL_inc (dir_incs nInc), j1]
      simp only
      obtain ⟨g', r1, r2, r3⟩ := ih k op { g1 with fr := true } (j2.fr true) (cf _ _) w2 hop (by rw [cb_fr, j3, List.length_append]; omega)
      exact ⟨g', r1, r2, by rw [r3, cb_fr, j3, emM, List.append_assoc]⟩
end
end Go.Proofs.YtedopgkbajhanaaGreatDoor

namespace Go.Proofs.YtedopgkbajhanaaGreatDoor
section
open Go Go.RowKit Go.ChangeShapes

variable {H : Type} {enc : TypeId × Value → H}

theorem law_of {P : Program} {f : FuncId} {l : List Value} {w : World} (h : Fn P f l w (fun v w' => v = .bool true ∧ Ext w w')) :
    Calls P f l.toArray w fun e w' => e = .returned (.bool true) ∧ Below w.heap.size w w' := by
  unfold Fn at h
  exact h.mono fun e w' he => by
    cases e with
    | returned v => exact ⟨by rw [he.1], he.2.below⟩
    | panicked ch => exact he.elim
    | outgrown => exact he.elim

theorem u8s_of {W : World} {a : Option Addr} {len cap : Nat} {d : DataW H} {p : List MemPlace} (h : DataW.Trod enc Tryz.prog W 0 (fun _ => true) true 74 (.slice a len cap) d p) : ∃ l, Sl W 1 a len cap (bytesV l) ∧ ∀ b ∈ l, b ≤ 255 := by
  obtain ⟨fuel, hf⟩ := h
  rcases open_ints Tryz.underlying74 Tryz.underlying5 (by kernel_rfl) hf with ⟨hcs, _⟩ | ⟨x, l, c, zs, hcs, _, hl, hm, hz, _, hcell, hwz⟩
  · simp [Value.cells] at hcs
    obtain ⟨rfl, rfl, rfl⟩ := hcs
    exact ⟨[], Sl.nil W 1, by simp⟩
  · simp [Value.cells] at hcs
    obtain ⟨rfl, rfl, rfl⟩ := hcs
    simp at hz
    have hr : ∀ n ∈ zs, 0 ≤ n ∧ n ≤ 255 := fun n hn => by
      have := hwz n hn
      simp [Lit.wf, IntKind.min, IntKind.max, IntKind.signed, IntKind.bits] at this
      omega
    refine ⟨(zs.take len).map Int.toNat, ⟨by simp [bytesV]; omega, hl, hm, fun _ => ⟨x, rfl, fun j u hu => ?_⟩⟩, ?_⟩
    · simp only [bytesV, List.map_map, List.getElem?_map, Option.map_eq_some_iff] at hu
      obtain ⟨y, hy, rfl⟩ := hu
      rw [List.getElem?_take] at hy
      split at hy
      · rename_i hj
        have hjz : j < zs.length := by omega
        rw [List.getElem?_eq_getElem hjz] at hy
        cases hy
        have h2 := hr zs[j] (List.getElem_mem hjz)
        rw [hcell j hjz]
        have : zs.getD j 0 = zs[j] := by simp [hjz]
        rw [this]
        show some (Value.int .u8 _) = some (Value.int .u8 ((zs[j].toNat : Nat) : Int))
        congr 2; omega
      · cases hy
    · intro y hy
      simp only [List.mem_map] at hy
      obtain ⟨z, hz1, rfl⟩ := hy
      have := hr z (List.mem_of_mem_take hz1)
      omega

theorem u8_of {a : Int} (w : (Lit.int .u8 a).wf = true) : ∃ n : Nat, a = n ∧ n ≤ 255 := by
  simp [Lit.wf, IntKind.min, IntKind.max, IntKind.signed, IntKind.bits] at w
  exact ⟨a.toNat, by omega, by omega⟩
end
end Go.Proofs.YtedopgkbajhanaaGreatDoor

namespace Go.Proofs.YtedopgkbajhanaaGreatDoor
section
open Go Go.RowKit Go.ChangeShapes

variable {H : Type} {enc : TypeId × Value → H}

theorem lst3 {α : Type} {l : List α} (h : l.length = 3) : ∃ a b c, l = [a, b, c] := by
  match l, h with
  | [a, b, c], _ => exact ⟨a, b, c, rfl⟩
/-- A slice of structs of which each is read. -/
theorem sls_of {W : World} {α : Type} {cells : α → List Value} {e : Nat} (hce : ∀ x, (cells x).length = e) (he : 0 < e) {t te : TypeId} {fuel : Nat} {cs : List Value} {z : DataW H × List MemPlace}
    (ht : Tryz.prog.underlying t = some (.slice te)) (hc5 : Tryz.prog.cellsOf te = e) (hin : Inhabited α)
    (one : ∀ (cs : List Value) (fuel : Nat) (D : DataW H × List MemPlace), cs.length = e → DataW.trod enc Tryz.prog W 0 (fun _ => true) true fuel te cs = some D → ∃ y, cells y = cs)
    {a : Option Addr} {len cap : Nat} (hcs : cs = [.slice a len cap]) (hf : DataW.trod enc Tryz.prog W 0 (fun _ => true) true fuel t cs = some z) : ∃ l, SlS cells e W a len cap l := by
  subst hcs
  rcases Go.Deep.open_slice ht hf with ⟨hcs, _⟩ | ⟨x, l, c, m, n, D, Pl, hcs, _, hl, hm, hmm, _, hx⟩
  · simp at hcs
    obtain ⟨rfl, rfl, rfl⟩ := hcs
    exact ⟨[], SlS.nil W⟩
  · simp at hcs
    obtain ⟨rfl, rfl, rfl⟩ := hcs
    simp only [if_true] at hmm
    subst hmm
    have each : ∀ i, i < m → ∃ y : α, ∀ j v, (cells y)[j]? = some v → W.cell? (x.add (i * e + j)) = some v := by
      intro i hi
      obtain ⟨cs, h1, h2⟩ := hx i hi
      rw [hc5] at h1
      obtain ⟨_, hlen, hcell⟩ := World.cells?_some h1
      obtain ⟨y, rfl⟩ := one _ _ _ hlen h2
      refine ⟨y, fun j v hj => ?_⟩
      have hj5 : j < e := by have := (List.getElem?_eq_some_iff.1 hj).1; rw [hce] at this; exact this
      have := hcell j hj5
      rw [add_add] at this
      rw [this]
      exact hj
    obtain ⟨Y, hY⟩ := Go.Deep.choose_lt each
    refine ⟨(List.range len).map Y, ⟨⟨?_, hl, hm, fun _ => ⟨x, rfl, fun j u hu => ?_⟩⟩, by simp⟩⟩
    · rw [flat_length hce]; simp
    · have hjl := (List.getElem?_eq_some_iff.1 hu).1
      rw [flat_length hce] at hjl
      simp at hjl
      have hi : j / e < len := Nat.div_lt_of_lt_mul (by rw [Nat.mul_comm]; exact hjl)
      have hr : j % e < e := Nat.mod_lt _ he
      have hdm : j / e * e + j % e = j := by rw [Nat.mul_comm]; exact Nat.div_add_mod j e
      have hg : ((List.range len).map Y)[j / e]? = some (Y (j / e)) := by simp [hi]
      have hc := List.getElem?_eq_getElem (l := cells (Y (j / e))) (i := j % e) (by rw [hce]; exact hr)
      have h1 := flat_get hce _ _ _ _ _ hg hc
      rw [hdm, hu] at h1
      have h2 := hY (j / e) (Nat.lt_of_lt_of_le hi hl) _ _ hc
      rw [hdm] at h2
      rw [h2, ← Option.some.inj h1]
end
end Go.Proofs.YtedopgkbajhanaaGreatDoor

namespace Go.Proofs.YtedopgkbajhanaaGreatDoor
section
open Go Go.RowKit Go.ChangeShapes

variable {H : Type} {enc : TypeId × Value → H}

theorem sub_of {α : Type} {p : α → Prop} {f : α → List Value} {sz : Nat} {W : World} {a : Option Addr} {len cap : Nat} (h : ∃ l : List { x : α // p x }, SlS (fun y => f y.1) sz W a len cap l) : ∃ l : List α, SlS f sz W a len cap l ∧ ∀ x ∈ l, p x := by
  obtain ⟨l, h1, h2⟩ := h
  refine ⟨l.map Subtype.val, ⟨?_, by simpa using h2⟩, fun x hx => ?_⟩
  · rw [List.flatMap_map]; exact h1
  · obtain ⟨y, _, rfl⟩ := List.mem_map.1 hx
    exact y.2
/-! ### Lines of made files -/
structure Lx where
  k : Nat
  i : Nat
  ws : List Nat
  A : Option Addr
  n : Nat
  c : Nat
def Lx.cells (x : Lx) : List Value := [.int .u8 (x.k : Nat), .int .u8 (x.i : Nat), .slice x.A x.n x.c]
structure LxOk (W : World) (x : Lx) : Prop where
  k8 : x.k ≤ 255
  i8 : x.i ≤ 255
  sl : Sl W 1 x.A x.n x.c (bytesV x.ws)
  w8 : ∀ b ∈ x.ws, b ≤ 255
theorem LxOk.ext {W W' : World} {x : Lx} (h : LxOk W x) (k : Ext W W') : LxOk W' x := ⟨h.k8, h.i8, h.sl.ext k, h.w8⟩
theorem line_one {W : World} (cs : List Value) (fuel : Nat) (D : DataW H × List MemPlace) (hl : cs.length = 3) (h : DataW.trod enc Tryz.prog W 0 (fun _ => true) true fuel 166 cs = some D) : ∃ y : { x : Lx // LxOk W x }, y.1.cells = cs := by
  have hc3 : Tryz.prog.cellsOf 5 = 1 := by kernel_rfl
  have hc4 : Tryz.prog.cellsOf 74 = 1 := by kernel_rfl
  obtain ⟨xs, k, _, _, _, hxl, hfl⟩ := DataW.trod_struct Tryz.underlying166 h
  obtain ⟨y0, y1, y2, rfl⟩ := lst3 (show xs.length = 3 from hxl)
  obtain ⟨v0, v1, v2, rfl⟩ := lst3 hl
  have g0 := hfl 0 _ rfl
  have g1 := hfl 1 _ rfl
  have g2 := hfl 2 _ rfl
  simp [hc3, hc4] at g0 g1 g2
  obtain ⟨n0, e0, _, w0⟩ := DataW.trod_int Tryz.underlying5 g0
  obtain ⟨n1, e1, _, w1⟩ := DataW.trod_int Tryz.underlying5 g1
  simp at e0 e1
  subst e0 e1
  have key : ∃ a n c, v2 = .slice a n c := by
    rcases Go.Deep.open_slice Tryz.underlying74 g2 with ⟨hcs, _⟩ | ⟨x, l, c, m, n, D, Pl, hcs, _⟩
    · simp at hcs; exact ⟨_, _, _, hcs⟩
    · simp at hcs; exact ⟨_, _, _, hcs⟩
  obtain ⟨a, n, c, rfl⟩ := key
  obtain ⟨ws, hS, h8⟩ := u8s_of ⟨_, g2⟩
  obtain ⟨m0, rfl, q0⟩ := u8_of w0
  obtain ⟨m1, rfl, q1⟩ := u8_of w1
  exact ⟨⟨⟨m0, m1, ws, a, n, c⟩, ⟨q0, q1, hS, h8⟩⟩, rfl⟩
theorem lines_of {W : World} {a : Option Addr} {len cap : Nat} {d : DataW H} {p : List MemPlace} (h : DataW.Trod enc Tryz.prog W 0 (fun _ => true) true 58 (.slice a len cap) d p) : ∃ l, SlS Lx.cells 3 W a len cap l ∧ ∀ x ∈ l, LxOk W x := by
  obtain ⟨fuel, hf⟩ := h
  exact sub_of (sls_of (cells := fun y : { x : Lx // LxOk W x } => y.1.cells) (fun _ => rfl) (by decide) Tryz.underlying58 (by kernel_rfl) ⟨⟨⟨0, 0, [], none, 0, 0⟩, ⟨by simp, by simp, Sl.nil W 1, by simp⟩⟩⟩ line_one rfl hf)

/-! ### Sources -/
/-! ### Arrays -/
end
end Go.Proofs.YtedopgkbajhanaaGreatDoor

namespace Go.Proofs.YtedopgkbajhanaaGreatDoor
section
open Go Go.RowKit

theorem okL : ((List.range 5).all fun k => (List.range 256).all fun b => (formT (letters12.take k) b).all (fun x => decide (x ≠ 10 ∧ x < 256)) && decide ((formT (letters12.take k) b).length ≤ 20)) = true := by decide +kernel
theorem form_line {k b : Nat} (hk : k ≤ 4) (hb : b ≤ 255) : 10 ∉ formT (letters12.take k) b ∧ (∀ x ∈ formT (letters12.take k) b, x < 256) ∧ (formT (letters12.take k) b).length ≤ 20 := by
  have h := List.all_eq_true.1 (List.all_eq_true.1 okL k (List.mem_range.2 (by omega))) b (List.mem_range.2 (by omega))
  rw [Bool.and_eq_true] at h
  have h1 := List.all_eq_true.1 h.1
  exact ⟨fun hh => (of_decide_eq_true (h1 10 hh)).1 rfl, fun x hx => (of_decide_eq_true (h1 x hx)).2, of_decide_eq_true h.2⟩
end
end Go.Proofs.YtedopgkbajhanaaGreatDoor

namespace Go.Proofs.YtedopgkbajhanaaGreatDoor
section
open Go Go.RowKit

def wrdT (k : Nat) : List Nat := ([[120], [43], [121], [42], [40], [41], [105, 102], [101, 108, 115, 101], [59], [94], [122], [37, 99]][k % 12]?).getD []
theorem wrd_ok (k : Nat) : 10 ∉ wrdT k ∧ 35 ∉ wrdT k ∧ (∀ x ∈ wrdT k, x < 256) ∧ (wrdT k).length ≤ 4 := by
  unfold wrdT
  have h := Nat.mod_lt k (show 12 > 0 by decide)
  generalize k % 12 = r at h
  have key : (List.range 12).all (fun r => decide (10 ∉ (([[120], [43], [121], [42], [40], [41], [105, 102], [101, 108, 115, 101], [59], [94], [122], [37, 99]] : List (List Nat))[r]?).getD [] ∧ 35 ∉ (([[120], [43], [121], [42], [40], [41], [105, 102], [101, 108, 115, 101], [59], [94], [122], [37, 99]] : List (List Nat))[r]?).getD [] ∧ (∀ x ∈ (([[120], [43], [121], [42], [40], [41], [105, 102], [101, 108, 115, 101], [59], [94], [122], [37, 99]] : List (List Nat))[r]?).getD [], x < 256) ∧ ((([[120], [43], [121], [42], [40], [41], [105, 102], [101, 108, 115, 101], [59], [94], [122], [37, 99]] : List (List Nat))[r]?).getD []).length ≤ 4)) = true := by decide
  exact of_decide_eq_true (List.all_eq_true.1 key r (List.mem_range.2 h))
/-- Words with a blank ahead of each but the first; a remark ends them. -/
def wsT : Bool → List Nat → List Nat
  | _, [] => []
  | sp, w :: l => (if sp then [32] else []) ++ (wrdT w ++ (if w % 12 = 11 then [] else wsT true l))
theorem ws_ok : ∀ (sp : Bool) (l : List Nat), 10 ∉ wsT sp l ∧ 35 ∉ wsT sp l ∧ (∀ x ∈ wsT sp l, x < 256) ∧ (wsT sp l).length ≤ 5 * l.length
  | _, [] => by simp [wsT]
  | sp, w :: l => by
    obtain ⟨h1, h2, h3, h4⟩ := wrd_ok w
    obtain ⟨i1, i2, i3, i4⟩ := ws_ok true l
    have key : ∀ x ∈ wsT sp (w :: l), x = 32 ∨ x ∈ wrdT w ∨ x ∈ wsT true l := fun x hx => by
      rw [wsT] at hx
      rcases List.mem_append.1 hx with hx | hx
      · cases sp <;> simp at hx; exact .inl hx
      rcases List.mem_append.1 hx with hx | hx
      · exact .inr (.inl hx)
      · split at hx
        · cases hx
        · exact .inr (.inr hx)
    refine ⟨fun h => ?_, fun h => ?_, fun x hx => ?_, ?_⟩
    · rcases key _ h with h | h | h
      · cases h
      · exact h1 h
      · exact i1 h
    · rcases key _ h with h | h | h
      · cases h
      · exact h2 h
      · exact i2 h
    · rcases key _ hx with h | h | h
      · omega
      · exact h3 _ h
      · exact i3 _ h
    · rw [wsT, List.length_append, List.length_append, List.length_cons]
      have e1 : (if sp = true then [32] else [] : List Nat).length ≤ 1 := by split <;> simp
      have e2 : (if w % 12 = 11 then [] else wsT true l).length ≤ 5 * l.length := by split <;> simp [i4]
      omega
/-- The text that a line of a made file has, if it is text. -/
def textT (k : Nat) (ws : List Nat) : List Nat := List.replicate (k / 8 % 4) 32 ++ wsT false (ws.take 6)
theorem text_ok3 (k : Nat) (ws : List Nat) : 10 ∉ textT k ws ∧ 35 ∉ textT k ws ∧ (∀ x ∈ textT k ws, x < 256) ∧ (textT k ws).length ≤ 33 := by
  obtain ⟨h1, h2, h3, h4⟩ := ws_ok false (ws.take 6)
  have hl : (ws.take 6).length ≤ 6 := by rw [List.length_take]; omega
  have key : ∀ x ∈ textT k ws, x = 32 ∨ x ∈ wsT false (ws.take 6) := fun x hx => by
    rcases List.mem_append.1 hx with hx | hx
    · exact .inl (List.eq_of_mem_replicate hx)
    · exact .inr hx
  refine ⟨fun h => ?_, fun h => ?_, fun x hx => ?_, ?_⟩
  · rcases key _ h with h | h
    · cases h
    · exact h1 h
  · rcases key _ h with h | h
    · cases h
    · exact h2 h
  · rcases key _ hx with h | h
    · omega
    · exact h3 _ h
  · unfold textT
    rw [List.length_append, List.length_replicate]
    omega

theorem text_ok (k : Nat) (ws : List Nat) : TxOk (textT k ws) := by
  obtain ⟨h1, h2, h3, _⟩ := text_ok3 k ws
  exact ⟨h1, txt_dir (fun e => h2 (List.mem_of_mem_head? e)), h3⟩
theorem form_ok {k b : Nat} (hk : k ≤ 4) (hb : b ≤ 255) : FOk (letters12.take k) (formT (letters12.take k) b) (formO k b) :=
  ⟨(form_line hk hb).1, form_set hk hb, (form_line hk hb).2.1⟩

/-- A line, by its numbers and the open sections (whether each had its else). -/
def mdS (k0 : Nat) (ic : Bool) (x : Lx) (op : List Bool) : Mn × List Bool :=
  if x.k % 8 = 4 ∧ op.length < 3 then (.ifd (formT (letters12.take k0) x.i) (formO k0 x.i), false :: op)
  else if x.k % 8 = 5 ∧ op.head? = some false ∧ x.i % 2 = 0 then (.elif (formT (letters12.take k0) (x.i / 2)) (formO k0 (x.i / 2)), op)
  else if x.k % 8 = 5 ∧ op.head? = some false then (.els, true :: op.tail)
  else if x.k % 8 = 6 ∧ op ≠ [] then (.en, op.tail)
  else if x.k % 8 = 7 ∧ ic = true then (.inc, op)
  else (.tx (textT x.k x.ws), op)
def mdL (k0 : Nat) (ic : Bool) : List Lx → List Bool → List Mn
  | [], op => op.map (fun _ => .en)
  | x :: l, op => (mdS k0 ic x op).1 :: mdL k0 ic l (mdS k0 ic x op).2
theorem wf_ends (nm : List (List Nat)) (ic : Bool) (D : Nat) : ∀ (op : List Bool), wfM nm ic D op (op.map (fun _ => .en))
  | [] => trivial
  | b :: op => by
    have := wf_ends nm ic D op
    cases b <;> exact this
theorem wf_tx {nm : List (List Nat)} {ic : Bool} {D : Nat} {op : List Bool} {s : List Nat} {l : List Mn} (h : TxOk s) (h' : wfM nm ic D op l) : wfM nm ic D op (.tx s :: l) := by
  cases op with
  | nil => exact ⟨h, h'⟩
  | cons b op => cases b <;> exact ⟨h, h'⟩
theorem wf_inc {nm : List (List Nat)} {ic : Bool} {D : Nat} {op : List Bool} {l : List Mn} (h : ic = true) (h' : wfM nm ic D op l) : wfM nm ic D op (.inc :: l) := by
  cases op with
  | nil => exact ⟨h, h'⟩
  | cons b op => cases b <;> exact ⟨h, h'⟩
theorem wf_if {nm : List (List Nat)} {ic : Bool} {D : Nat} {op : List Bool} {F : List Nat} {o : BF} {l : List Mn} (hb : FOk nm F o) (h : op.length < D) (h' : wfM nm ic D (false :: op) l) : wfM nm ic D op (.ifd F o :: l) := by
  cases op with
  | nil => exact ⟨hb, h, h'⟩
  | cons c op => cases c <;> exact ⟨hb, h, h'⟩
theorem wf_en {nm : List (List Nat)} {ic : Bool} {D : Nat} {c : Bool} {op : List Bool} {l : List Mn} (h' : wfM nm ic D op l) : wfM nm ic D (c :: op) (.en :: l) := by
  cases c <;> exact h'
theorem md_wf {k0 : Nat} (hk : k0 ≤ 4) (ic : Bool) : ∀ (l : List Lx) (op : List Bool), (∀ x ∈ l, x.i ≤ 255) → op.length ≤ 3 → wfM (letters12.take k0) ic 3 op (mdL k0 ic l op)
  | [], op, _, _ => wf_ends _ ic 3 op
  | x :: l, op, hx, hop => by
    have hxi := hx x (by simp)
    have ih := fun op h => md_wf hk ic l op (fun y hy => hx y (by simp [hy])) h
    rw [mdL]
    unfold mdS
    split
    · rename_i h; exact wf_if (form_ok hk hxi) h.2 (ih _ (by simp; omega))
    split
    · rename_i h
      cases op with
      | nil => cases h.2.1
      | cons b op =>
        have hb : b = false := by have := h.2.1; simpa using this
        subst hb
        exact ⟨form_ok hk (by omega), ih _ hop⟩
    split
    · rename_i h
      cases op with
      | nil => cases h.2
      | cons b op =>
        have hb : b = false := by have := h.2; simpa using this
        subst hb
        exact ih (true :: op) hop
    split
    · rename_i h
      cases op with
      | nil => exact absurd rfl h.2
      | cons b op => exact wf_en (ih op (by simp at hop; omega))
    split
    · rename_i h; exact wf_inc h.2 (ih _ hop)
    · exact wf_tx (text_ok _ _) (ih _ hop)
/-- What one line may be. -/
def MnOk (nm : List (List Nat)) : Mn → Prop
  | .tx s => TxOk s
  | .ifd F o => FOk nm F o
  | .elif F o => FOk nm F o
  | _ => True
theorem wf_all {nm : List (List Nat)} {ic : Bool} {D : Nat} : ∀ {l : List Mn} {op : List Bool}, wfM nm ic D op l → ∀ m ∈ l, MnOk nm m
  | [], _, _, m, hm => by cases hm
  | x :: l, op, h, m, hm => by
    have key : MnOk nm x ∧ ∃ op', wfM nm ic D op' l := by
      cases x with
      | tx s => cases op with
        | nil => exact ⟨h.1, _, h.2⟩
        | cons b op => cases b <;> exact ⟨h.1, _, h.2⟩
      | ifd F o => cases op with
        | nil => exact ⟨h.1, _, h.2.2⟩
        | cons b op => cases b <;> exact ⟨h.1, _, h.2.2⟩
      | elif F o => cases op with
        | nil => exact h.elim
        | cons b op => cases b with
          | false => exact ⟨h.1, _, h.2⟩
          | true => exact h.elim
      | els => cases op with
        | nil => exact h.elim
        | cons b op => cases b with
          | false => exact ⟨trivial, _, h⟩
          | true => exact h.elim
      | en => cases op with
        | nil => exact h.elim
        | cons b op => cases b <;> exact ⟨trivial, _, h⟩
      | inc => cases op with
        | nil => exact ⟨trivial, _, h.2⟩
        | cons b op => cases b <;> exact ⟨trivial, _, h.2⟩
    rcases List.mem_cons.1 hm with rfl | hm
    · exact key.1
    · obtain ⟨op', h'⟩ := key.2; exact wf_all h' m hm
theorem mn_line {nm : List (List Nat)} {m : Mn} (h : MnOk nm m) : 10 ∉ mnT m ∧ ∀ x ∈ mnT m, x < 256 := by
  cases m with
  | tx s => exact ⟨h.nl, h.b8⟩
  | ifd F o => exact ⟨by simp [mnT, pIf, h.nl], b8_app (by decide) h.b8⟩
  | elif F o => exact ⟨by simp [mnT, pElif, h.nl], b8_app (by decide) h.b8⟩
  | els => exact ⟨by decide, by decide⟩
  | en => exact ⟨by decide, by decide⟩
  | inc => exact ⟨by decide, by decide⟩
theorem mns_lines {nm : List (List Nat)} {l : List Mn} (h : ∀ m ∈ l, MnOk nm m) : Lines (l.map mnT) := fun s hs => by
  obtain ⟨m, hm, rfl⟩ := List.mem_map.1 hs
  exact (mn_line (h m hm)).1
theorem mns_b8 {nm : List (List Nat)} {l : List Mn} (h : ∀ m ∈ l, MnOk nm m) : ∀ x ∈ unl (l.map mnT), x < 256 := plain_b8 (fun s hs => by
  obtain ⟨m, hm, rfl⟩ := List.mem_map.1 hs
  exact (mn_line (h m hm)).2)
/-- Lines are short. -/
def LnB (M : Nat) (l : List Mn) : Prop := ∀ m ∈ l, (mnT m).length < M
theorem mns_len {M : Nat} : ∀ {l : List Mn}, LnB M l → (unl (l.map mnT)).length ≤ l.length * M
  | [], _ => by simp [unl]
  | m :: l, h => by
    rw [List.map_cons, unl_cons, List.length_append, List.length_cons, List.length_cons]
    have h1 := mns_len (fun x hx => h x (by simp [hx]) : LnB M l)
    have h2 := h m (by simp)
    rw [Nat.add_mul, Nat.one_mul]
    omega
theorem em_len {M : Nat} {ie : BF → CB} (hie : ∀ k, (ie k).length ≤ M) : ∀ (l : List Mn) (k : BF) (op : List (BF × BF)), LnB M l → (emM ie l k op).length ≤ l.length * M
  | [], _, _, _ => by simp [emM]
  | m :: l, k, op, h => by
    have ih := fun k op => em_len hie l k op (fun x hx => h x (by simp [hx]))
    have hm := h m (by simp)
    have e : (m :: l).length * M = l.length * M + M := by rw [List.length_cons, Nat.add_mul, Nat.one_mul]
    rw [e]
    cases m with
    | tx s =>
      have hm : s.length < M := hm
      have := ih k op
      rw [emM, List.length_append, List.length_map, List.length_append, List.length_singleton]; omega
    | ifd F o => have := ih (bAnd k o) ((k, bSub k o) :: op); rw [emM]; omega
    | elif F o =>
      cases op with
      | nil => simp [emM]
      | cons x op => obtain ⟨ou, re⟩ := x; have := ih (bAnd re o) ((ou, bSub re o) :: op); rw [emM]; omega
    | els =>
      cases op with
      | nil => simp [emM]
      | cons x op => obtain ⟨ou, re⟩ := x; have := ih re ((ou, re) :: op); rw [emM]; omega
    | en =>
      cases op with
      | nil => simp [emM]
      | cons x op => obtain ⟨ou, re⟩ := x; have := ih ou op; rw [emM]; omega
    | inc =>
      have := hie k
      have := ih k op
      rw [emM, List.length_append]; omega
theorem mdS_len {k0 : Nat} {ic : Bool} {x : Lx} {op : List Bool} (h : op.length ≤ 3) : (mdS k0 ic x op).2.length ≤ 3 := by
  unfold mdS
  split
  · rename_i h; simp; omega
  split
  · exact h
  split
  · rename_i hh
    cases op with
    | nil => cases hh.2
    | cons b op => simpa using h
  split
  · simp; omega
  split <;> exact h
theorem md_len (k0 : Nat) (ic : Bool) : ∀ (l : List Lx) (op : List Bool), op.length ≤ 3 → (mdL k0 ic l op).length ≤ l.length + 3
  | [], op, h => by simp [mdL]; omega
  | x :: l, op, h => by
    rw [mdL, List.length_cons, List.length_cons]
    have := md_len k0 ic l _ (mdS_len (k0 := k0) (ic := ic) (x := x) h)
    omega
theorem mdS_b {k0 : Nat} (hk : k0 ≤ 4) {ic : Bool} {x : Lx} (hx : x.i ≤ 255) {op : List Bool} : (mnT (mdS k0 ic x op).1).length < 34 := by
  unfold mdS
  split
  · have := (form_line hk hx).2.2; simp [mnT, pIf]; omega
  split
  · have := (form_line hk (show x.i / 2 ≤ 255 by omega)).2.2; simp [mnT, pElif]; omega
  split
  · exact (by decide : (mnT Mn.els).length < 34)
  split
  · exact (by decide : (mnT Mn.en).length < 34)
  split
  · exact (by decide : (mnT Mn.inc).length < 34)
  · have := (text_ok3 x.k x.ws).2.2.2; show (textT x.k x.ws).length < 34; omega
theorem md_b {k0 : Nat} (hk : k0 ≤ 4) (ic : Bool) : ∀ (l : List Lx) (op : List Bool), (∀ x ∈ l, x.i ≤ 255) → LnB 34 (mdL k0 ic l op)
  | [], op, _ => fun m hm => by
    obtain ⟨_, _, rfl⟩ := List.mem_map.1 hm
    decide
  | x :: l, op, h => fun m hm => by
    rw [mdL] at hm
    rcases List.mem_cons.1 hm with rfl | hm
    · exact mdS_b hk (h x (by simp))
    · exact md_b hk ic l _ (fun y hy => h y (by simp [hy])) m hm

/-! ### The two files -/
def mainM (k0 : Nat) (main : List Lx) : List Mn := mdL k0 true (main.take 12) []
def othM (k0 : Nat) (other : List Lx) : List Mn := mdL k0 false (other.take 5) []
def madeF (k0 : Nat) (main other : List Lx) : List (List Nat × List Nat) := [([109], unl ((mainM k0 main).map mnT)), ([110], unl ((othM k0 other).map mnT))]
theorem main_wf {k0 : Nat} (hk : k0 ≤ 4) {main : List Lx} (h : ∀ x ∈ main, x.i ≤ 255) : wfM (letters12.take k0) true 3 [] (mainM k0 main) := md_wf hk true _ [] (fun x hx => h x (List.mem_of_mem_take hx)) (by simp)
theorem oth_wf {k0 : Nat} (hk : k0 ≤ 4) {other : List Lx} (h : ∀ x ∈ other, x.i ≤ 255) : wfM (letters12.take k0) false 3 [] (othM k0 other) := md_wf hk false _ [] (fun x hx => h x (List.mem_of_mem_take hx)) (by simp)
theorem main_b {k0 : Nat} (hk : k0 ≤ 4) {main : List Lx} (h : ∀ x ∈ main, x.i ≤ 255) : LnB 34 (mainM k0 main) := md_b hk true _ [] (fun x hx => h x (List.mem_of_mem_take hx))
theorem oth_b {k0 : Nat} (hk : k0 ≤ 4) {other : List Lx} (h : ∀ x ∈ other, x.i ≤ 255) : LnB 34 (othM k0 other) := md_b hk false _ [] (fun x hx => h x (List.mem_of_mem_take hx))
theorem main_len (k0 : Nat) (main : List Lx) : (mainM k0 main).length ≤ 15 := by
  have := md_len k0 true (main.take 12) [] (by simp)
  rw [List.length_take] at this
  unfold mainM; omega
theorem oth_len (k0 : Nat) (other : List Lx) : (othM k0 other).length ≤ 8 := by
  have := md_len k0 false (other.take 5) [] (by simp)
  rw [List.length_take] at this
  unfold othM; omega
def noE : BF → CB := fun _ => []
/-- What including the other file yields. -/
def othE (k0 : Nat) (other : List Lx) : BF → CB := fun k => emM noE (othM k0 other) k []
theorem othE_len {k0 : Nat} (hk : k0 ≤ 4) {other : List Lx} (h : ∀ x ∈ other, x.i ≤ 255) (k : BF) : (othE k0 other k).length ≤ 272 := by
  have := em_len (M := 34) (ie := noE) (fun _ => Nat.zero_le _) (othM k0 other) k [] (oth_b hk h)
  have := oth_len k0 other
  unfold othE; omega
def mainE (k0 : Nat) (main other : List Lx) : CB := emM (othE k0 other) (mainM k0 main) (fun _ => true) []
theorem mainE_len {k0 : Nat} (hk : k0 ≤ 4) {main other : List Lx} (h : ∀ x ∈ main, x.i ≤ 255) (h' : ∀ x ∈ other, x.i ≤ 255) : (mainE k0 main other).length ≤ 4080 := by
  have := em_len (M := 272) (fun k => othE_len (k0 := k0) hk h' k) (mainM k0 main) (fun _ => true) [] (fun m hm => by have := main_b hk h m hm; omega)
  have := main_len k0 main
  unfold mainE; omega
theorem filesE_list {fs : List (List Nat × List Nat)} (h : fs.length ≤ 256) (hc : chkFs fs [] 0 = none) : filesE fs = none := by
  unfold filesE; rw [if_neg (by omega), hc]
theorem made_read {k0 : Nat} (hk : k0 ≤ 4) {main other : List Lx} (h : ∀ x ∈ main, x.i ≤ 255) (h' : ∀ x ∈ other, x.i ≤ 255) :
    ∃ g, readE (letters12.take k0) (madeF k0 main other) [109] = .ok g ∧ cbG g = mainE k0 main other := by
  obtain ⟨hnb, hnok, hnl⟩ := letters_ok k0 (by omega)
  have hw := main_wf hk h
  have hw' := oth_wf hk h'
  have hL := mns_lines (wf_all hw)
  have hL' := mns_lines (wf_all hw')
  have l1 := mns_len (main_b hk h)
  have l2 := mns_len (oth_b hk h')
  have n1 := main_len k0 main
  have n2 := oth_len k0 other
  generalize hF : madeF k0 main other = fs
  have hx0 : fs[0]? = some ([109], unl ((mainM k0 main).map mnT)) := by rw [← hF]; rfl
  have hx1 : fs[1]? = some ([110], unl ((othM k0 other).map mnT)) := by rw [← hF]; rfl
  have hnames : fs.map (·.1) = [[109], [110]] := by rw [← hF]; rfl
  have hf : filesE fs = none := by
    rw [← hF]
    refine filesE_list (by simp [madeF]) ?_
    unfold madeF
    rw [chkFs, if_neg (fun hh => hh ⟨(show fnameOk [109] = true by decide), (by simp), textB_unl _⟩), if_neg (by simp only; omega)]
    rw [chkFs, if_neg (fun hh => hh ⟨(show fnameOk [110] = true by decide), (by simp), textB_unl _⟩), if_neg (by simp only; omega)]
    rfl
  unfold readE
  rw [if_neg (by rw [hnok]; decide), hf, hnames]
  simp only [show ixN [[109], [110]] [109] = some 0 by decide]
  rw [rdF, hx0]
  simp only [Option.map_some, Option.getD_some]
  rw [linesOf_unl hL]
  have hg0 : GInv fs ⟨[], [], true⟩ := ⟨rfl, fun s hs => by cases hs⟩
  have hlenE := mainE_len hk h h'
  obtain ⟨g, r1, r2, r3⟩ := rdM (nm := letters12.take k0) (n := 0) (d0 := 0) (inc := fun r ln d k g => match incE (ixN (fs.map (·.1))) [0] r with
      | .error e => .error ⟨e, (0 : Nat), ln⟩
      | .ok m => if d = 64 then .error ⟨2, (0 : Nat), ln⟩ else rdF (letters12.take k0) fs 64 [0] (d + 1) m k g) hx0 (ic := true) (D := 3) (ie := othE k0 other) (fun _ ln d k g hg _ hd hl => by
    rw [hnames]
    simp only [show incE (ixN [[109], [110]]) [0] nInc = .ok 1 by rfl]
    rw [if_neg (by omega), rdF, hx1]
    simp only [Option.map_some, Option.getD_some]
    rw [linesOf_unl hL']
    obtain ⟨g', q1, q2, q3⟩ := rdM (nm := letters12.take k0) (n := 1) (d0 := d + 1) (inc := fun r ln d k g => match incE (ixN (fs.map (·.1))) [1, 0] r with
      | .error e => .error ⟨e, (1 : Nat), ln⟩
      | .ok m => if d = 64 then .error ⟨2, (1 : Nat), ln⟩ else rdF (letters12.take k0) fs 63 [1, 0] (d + 1) m k g) hx1 (ic := false) (D := 3) (ie := noE) (fun h => by cases h) (by omega) (othM k0 other) 0 0 k [] { g with fr := true } (by rw [List.drop_zero]) (Nat.zero_le _) (hg.fr true) (fun h => by cases h) hw' (by simp) (by rw [cb_fr]; exact hl)
    refine ⟨g', ?_, q2, q3⟩
    exact q1) (by decide) (mainM k0 main) 0 0 (fun _ => true) [] ⟨[], [], true⟩ (by rw [List.drop_zero]) (Nat.zero_le _) hg0 (fun h => by cases h) hw (by simp) (by
      have e : (cbG ⟨[], [], true⟩).length = 0 := rfl
      rw [e, Nat.zero_add]
      show (mainE k0 main other).length ≤ _
      omega)
  exact ⟨g, r1, r3⟩
end
end Go.Proofs.YtedopgkbajhanaaGreatDoor

namespace Go.Proofs.YtedopgkbajhanaaGreatDoor
section
open Go Go.RowKit

/-! ### The lines that a configuration has -/
def onS : List Nat → Bool
  | [] => true
  | s :: _ => decide (s = 1)
/-- The text that one gets by following the directives; oth: the text of the other file. -/
def chM (e : Nat → Bool) (oth : List Nat) : List Mn → List Nat → List Nat
  | [], _ => []
  | .tx s :: l, st => (if onS st then s ++ [10] else []) ++ chM e oth l st
  | .ifd _ o :: l, st => chM e oth l ((if onS st then (if o e then 1 else 0) else 3) :: st)
  | .elif _ o :: l, st => match st with
    | [] => []
    | s :: st => chM e oth l ((if s = 1 then 2 else if s = 0 ∧ o e = true then 1 else s) :: st)
  | .els :: l, st => match st with
    | [] => []
    | s :: st => chM e oth l ((if s = 1 then 2 else if s = 0 then 1 else s) :: st)
  | .en :: l, st => match st with
    | [] => []
    | _ :: st => chM e oth l st
  | .inc :: l, st => (if onS st then oth else []) ++ chM e oth l st
/-- The bytes of a configuration. -/
def onl (e : Nat → Bool) (c : CB) : List Nat := (c.filter (fun p => p.2 e)).map (·.1)
theorem onl_app (e : Nat → Bool) (a b : CB) : onl e (a ++ b) = onl e a ++ onl e b := by simp [onl]
theorem onl_t {e : Nat → Bool} {k : BF} (h : k e = true) (l : List Nat) : onl e (l.map (fun b => (b, k))) = l := by
  induction l with
  | nil => rfl
  | cons x l ih => unfold onl at ih ⊢; rw [List.map_cons, List.filter_cons, if_pos (by exact h), List.map_cons, ih]
theorem onl_f {e : Nat → Bool} {k : BF} (h : k e = false) (l : List Nat) : onl e (l.map (fun b => (b, k))) = [] := by
  induction l with
  | nil => rfl
  | cons x l ih => unfold onl at ih ⊢; rw [List.map_cons, List.filter_cons, if_neg (by simp [h]), ih]
/-- The numbers of the open sections say what their conditions say. -/
def RelS (e : Nat → Bool) : List Bool → BF → List (BF × BF) → List Nat → Prop
  | [], k, [], [] => k e = true
  | f :: fl, k, (ou, re) :: op, s :: st => RelS e fl ou op st ∧ ((s = 0 ∧ ou e = true ∧ k e = false ∧ (f = false → re e = true)) ∨ (s = 1 ∧ ou e = true ∧ k e = true ∧ (f = false → re e = false)) ∨ (s = 2 ∧ ou e = true ∧ k e = false ∧ (f = false → re e = false)) ∨ (s = 3 ∧ ou e = false ∧ k e = false ∧ (f = false → re e = false)))
  | _, _, _, _ => False
theorem RelS.on {e : Nat → Bool} : ∀ {fl : List Bool} {k : BF} {op : List (BF × BF)} {st : List Nat}, RelS e fl k op st → k e = onS st
  | [], _, [], [], h => h
  | f :: fl, k, (ou, re) :: op, s :: st, h => by
    rcases h.2 with ⟨rfl, h1, h2, _⟩ | ⟨rfl, h1, h2, _⟩ | ⟨rfl, h1, h2, _⟩ | ⟨rfl, h1, h2, _⟩ <;> rw [h2] <;> rfl
theorem em_ch {nm : List (List Nat)} {e : Nat → Bool} {oth : List Nat} {ie : BF → CB} {ic : Bool} {D : Nat} (h1 : ∀ k, k e = true → onl e (ie k) = oth) (h2 : ∀ k, k e = false → onl e (ie k) = []) :
    ∀ (l : List Mn) (fl : List Bool) (k : BF) (op : List (BF × BF)) (st : List Nat), wfM nm ic D fl l → RelS e fl k op st → onl e (emM ie l k op) = chM e oth l st
  | [], _, _, _, _, _, _ => rfl
  | m :: l, fl, k, op, st, hw, hr => by
    have ih := em_ch (nm := nm) (ic := ic) (D := D) h1 h2 l
    have hon := hr.on
    cases m with
    | tx s =>
      have w2 : wfM nm ic D fl l := by
        cases fl with
        | nil => exact hw.2
        | cons b fl => cases b <;> exact hw.2
      rw [emM, chM, onl_app, ih fl k op st w2 hr]
      congr 1
      cases hk : k e with
      | true => rw [onl_t hk, if_pos (by rw [← hon]; exact hk)]
      | false => rw [onl_f hk, if_neg (by rw [← hon, hk]; decide)]
    | inc =>
      have w2 : wfM nm ic D fl l := by
        cases fl with
        | nil => exact hw.2
        | cons b fl => cases b <;> exact hw.2
      rw [emM, chM, onl_app, ih fl k op st w2 hr]
      congr 1
      cases hk : k e with
      | true => rw [h1 k hk, if_pos (by rw [← hon]; exact hk)]
      | false => rw [h2 k hk, if_neg (by rw [← hon, hk]; decide)]
    | ifd F o =>
      have w2 : wfM nm ic D (false :: fl) l := by
        cases fl with
        | nil => exact hw.2.2
        | cons b fl => cases b <;> exact hw.2.2
      rw [emM, chM]
      refine ih (false :: fl) _ _ _ w2 ⟨hr, ?_⟩
      rw [← hon]
      cases hk : k e with
      | false =>
        rw [if_neg (by decide)]
        exact .inr (.inr (.inr ⟨rfl, rfl, by show (k e && _) = false; rw [hk]; rfl, fun _ => by show (k e && _) = false; rw [hk]; rfl⟩))
      | true =>
        rw [if_pos rfl]
        cases hd : o e with
        | true => rw [if_pos rfl]; exact .inr (.inl ⟨rfl, rfl, by show (k e && _) = true; rw [hk, hd]; rfl, fun _ => by show (k e && !_) = false; rw [hk, hd]; rfl⟩)
        | false => rw [if_neg (by decide)]; exact .inl ⟨rfl, rfl, by show (k e && _) = false; rw [hk, hd]; rfl, fun _ => by show (k e && !_) = true; rw [hk, hd]; rfl⟩
    | elif F o =>
      cases fl with
      | nil => exact hw.elim
      | cons f fl =>
        cases f with
        | true => exact hw.elim
        | false =>
          have w2 : wfM nm ic D (false :: fl) l := hw.2
          match op, st, hr with
          | (ou, re) :: op, s :: st, hr =>
            rw [emM, chM]
            refine ih (false :: fl) _ _ _ w2 ⟨hr.1, ?_⟩
            rcases hr.2 with ⟨rfl, q1, q2, q3⟩ | ⟨rfl, q1, q2, q3⟩ | ⟨rfl, q1, q2, q3⟩ | ⟨rfl, q1, q2, q3⟩
            · have q3 := q3 rfl
              rw [if_neg (by decide)]
              cases hd : o e with
              | true => rw [if_pos ⟨rfl, rfl⟩]; exact .inr (.inl ⟨rfl, q1, by show (re e && _) = true; rw [q3, hd]; rfl, fun _ => by show (re e && !_) = false; rw [q3, hd]; rfl⟩)
              | false => rw [if_neg (by rintro ⟨_, h⟩; cases h)]; exact .inl ⟨rfl, q1, by show (re e && _) = false; rw [q3, hd]; rfl, fun _ => by show (re e && !_) = true; rw [q3, hd]; rfl⟩
            · have q3 := q3 rfl
              rw [if_pos rfl]
              exact .inr (.inr (.inl ⟨rfl, q1, by show (re e && _) = false; rw [q3]; rfl, fun _ => by show (re e && _) = false; rw [q3]; rfl⟩))
            · have q3 := q3 rfl
              rw [if_neg (by decide), if_neg (by rintro ⟨h, _⟩; cases h)]
              exact .inr (.inr (.inl ⟨rfl, q1, by show (re e && _) = false; rw [q3]; rfl, fun _ => by show (re e && _) = false; rw [q3]; rfl⟩))
            · have q3 := q3 rfl
              rw [if_neg (by decide), if_neg (by rintro ⟨h, _⟩; cases h)]
              exact .inr (.inr (.inr ⟨rfl, q1, by show (re e && _) = false; rw [q3]; rfl, fun _ => by show (re e && _) = false; rw [q3]; rfl⟩))
    | els =>
      cases fl with
      | nil => exact hw.elim
      | cons f fl =>
        cases f with
        | true => exact hw.elim
        | false =>
          have w2 : wfM nm ic D (true :: fl) l := hw
          match op, st, hr with
          | (ou, re) :: op, s :: st, hr =>
            rw [emM, chM]
            refine ih (true :: fl) _ _ _ w2 ⟨hr.1, ?_⟩
            rcases hr.2 with ⟨rfl, q1, q2, q3⟩ | ⟨rfl, q1, q2, q3⟩ | ⟨rfl, q1, q2, q3⟩ | ⟨rfl, q1, q2, q3⟩
            · rw [if_neg (by decide), if_pos rfl]; exact .inr (.inl ⟨rfl, q1, q3 rfl, fun h => by cases h⟩)
            · rw [if_pos rfl]; exact .inr (.inr (.inl ⟨rfl, q1, q3 rfl, fun h => by cases h⟩))
            · rw [if_neg (by decide), if_neg (by decide)]; exact .inr (.inr (.inl ⟨rfl, q1, q3 rfl, fun h => by cases h⟩))
            · rw [if_neg (by decide), if_neg (by decide)]; exact .inr (.inr (.inr ⟨rfl, q1, q3 rfl, fun h => by cases h⟩))
    | en =>
      cases fl with
      | nil => exact hw.elim
      | cons f fl =>
        have w2 : wfM nm ic D fl l := by cases f <;> exact hw
        match op, st, hr with
        | (ou, re) :: op, s :: st, hr =>
          rw [emM, chM]
          exact ih fl _ _ _ w2 hr.1
theorem em_sub {ie : BF → CB} {e : Nat → Bool} {q : Prop} (hi : ∀ k, (k e = true → q) → ∀ p ∈ ie k, p.2 e = true → q) :
    ∀ (l : List Mn) (k : BF) (op : List (BF × BF)), (k e = true → q) → (∀ x ∈ op, (x.1 e = true → q) ∧ (x.2 e = true → q)) → ∀ p ∈ emM ie l k op, p.2 e = true → q
  | [], _, _, _, _, p, hp, _ => by cases hp
  | m :: l, k, op, hk, ho, p, hp, he => by
    have ih := em_sub hi l
    have hand : ∀ a b : BF, (a e = true → q) → ((a e && b e) = true → q) := fun a b h h' => h (by cases ha : a e; rw [ha] at h'; cases h'; rfl)
    have hsub : ∀ a b : BF, (a e = true → q) → ((a e && !b e) = true → q) := fun a b h h' => h (by cases ha : a e; rw [ha] at h'; cases h'; rfl)
    cases m with
    | tx s =>
      rw [emM] at hp
      rcases List.mem_append.1 hp with hp | hp
      · obtain ⟨b, _, rfl⟩ := List.mem_map.1 hp; exact hk he
      · exact ih k op hk ho p hp he
    | inc =>
      rw [emM] at hp
      rcases List.mem_append.1 hp with hp | hp
      · exact hi k hk p hp he
      · exact ih k op hk ho p hp he
    | ifd F o =>
      rw [emM] at hp
      refine ih _ _ (hand k _ hk) (fun x hx => ?_) p hp he
      rcases List.mem_cons.1 hx with rfl | hx
      · exact ⟨hk, hsub k _ hk⟩
      · exact ho x hx
    | elif F o =>
      cases op with
      | nil => rw [emM] at hp; cases hp
      | cons y op =>
        obtain ⟨ou, re⟩ := y
        rw [emM] at hp
        have hy := ho (ou, re) (by simp)
        refine ih _ _ (hand re _ hy.2) (fun x hx => ?_) p hp he
        rcases List.mem_cons.1 hx with rfl | hx
        · exact ⟨hy.1, hsub re _ hy.2⟩
        · exact ho x (by simp [hx])
    | els =>
      cases op with
      | nil => rw [emM] at hp; cases hp
      | cons y op =>
        obtain ⟨ou, re⟩ := y
        rw [emM] at hp
        exact ih _ _ (ho (ou, re) (by simp)).2 ho p hp he
    | en =>
      cases op with
      | nil => rw [emM] at hp; cases hp
      | cons y op =>
        obtain ⟨ou, re⟩ := y
        rw [emM] at hp
        exact ih _ _ (ho (ou, re) (by simp)).1 (fun x hx => ho x (by simp [hx])) p hp he
theorem onl_none {e : Nat → Bool} {c : CB} (h : ∀ p ∈ c, p.2 e = true → False) : onl e c = [] := by
  unfold onl
  rw [List.filter_eq_nil_iff.2 (fun p hp hh => h p hp hh)]; rfl
/-- The text of the other file in a configuration. -/
def othC (k0 : Nat) (e : Nat → Bool) (other : List Lx) : List Nat := chM e [] (othM k0 other) []
theorem made_sel {k0 : Nat} (hk0 : k0 ≤ 4) {main other : List Lx} (h : ∀ x ∈ main, x.i ≤ 255) (h' : ∀ x ∈ other, x.i ≤ 255) {g : Gs} (hg : cbG g = mainE k0 main other) (e : Nat → Bool) : selG g.tx g.sg e = chM e (othC k0 e other) (mainM k0 main) [] := by
  rw [sel_cb, hg]
  refine em_ch (ic := true) (D := 3) (fun k hk => ?_) (fun k hk => ?_) (mainM k0 main) [] _ [] [] (main_wf hk0 h) rfl
  · exact em_ch (ic := false) (D := 3) (fun _ _ => rfl) (fun _ _ => rfl) (othM k0 other) [] k [] [] (oth_wf hk0 h') hk
  · refine onl_none (fun p hp he => ?_)
    exact em_sub (q := False) (fun _ _ p hp _ => by cases hp) (othM k0 other) k [] (fun h => by rw [hk] at h; cases h) (fun x hx => by cases hx) p hp he

/-! ### The included file's lines in the place of the include -/
end
end Go.Proofs.YtedopgkbajhanaaGreatDoor

namespace Go.Proofs.YtedopgkbajhanaaGreatDoor
section
open Go Go.RowKit

/-! ### Offsets -/
def cnt (e : Nat → Bool) (c : CB) : Nat := (c.filter (fun p => p.2 e)).length
section
variable {fs : List (List Nat × List Nat)} {g : Gs} (h : GInv fs g)
include h
end
/-! ### The condition of a byte, by segments -/
/-! ### The scan for includes -/
end
end Go.Proofs.YtedopgkbajhanaaGreatDoor

namespace Go.Proofs.YtedopgkbajhanaaGreatDoor
section
open Go Go.RowKit

def wrdL : List (List Nat) := [[120], [43], [121], [42], [40], [41], [105, 102], [101, 108, 115, 101], [59], [94], [122], [37, 99]]
theorem wrd_fn (k : Nat) (w : World) (hk : k ≤ 255) : Fn Tryz.prog 132 [.int .u8 k] w (fun v w' => v = .string (strOf (wrdT k)) ∧ Ext w w') := by
  refine fn_of_exec (c := { c132 with cuts := [] }) gx_ok Tryz.func132 rfl rfl rfl ?_
  have h12 : k % 12 < 12 := Nat.mod_lt _ (by decide)
  refine at_buildN gx_ok (wrdL.map (fun s => [Value.string (strOf s)])) rfl rfl rfl rfl rfl ⟨rfl, rfl, rfl, rfl, rfl, rfl, rfl, rfl, rfl, rfl, rfl, rfl, rfl, rfl, rfl, rfl, rfl, rfl, rfl, rfl, rfl, rfl, rfl, rfl, ⟨⟩⟩ rfl (fun cs h => by simp only [List.mem_map] at h; obtain ⟨s, _, rfl⟩ := h; rfl) rfl (by decide) (by decide) ?_
  intro w1 hE1 hz1 hB1
  refine norm_i64_to ((k : Nat) : Int) rfl (by omega) ?_
  refine normIf (m := ((k % 12 : Nat) : Int)) (by decide) (tmod_nat k 12) ?_
  refine index (j := k % 12) h12 ?_
  refine load_blk hB1 (v := .string (strOf (wrdT k))) (by
    unfold wrdT
    generalize k % 12 = r at h12
    rcases (show r = 0 ∨ r = 1 ∨ r = 2 ∨ r = 3 ∨ r = 4 ∨ r = 5 ∨ r = 6 ∨ r = 7 ∨ r = 8 ∨ r = 9 ∨ r = 10 ∨ r = 11 by omega) with rfl | rfl | rfl | rfl | rfl | rfl | rfl | rfl | rfl | rfl | rfl | rfl <;> rfl) ?_
  exact ⟨rfl, hE1⟩

set_option maxHeartbeats 1600000 in
theorem mtext_fn (x : Lx) (w : World) (hx : LxOk w x) : Fn Tryz.prog 99 [.agg x.cells.toArray] w (fun v w' => v = .string (strOf (textT x.k x.ws ++ [10])) ∧ Ext w w') := by
  have hn : x.ws.length = x.n := by have := hx.sl.len; rw [bytesV_length] at this; omega
  have hcap : x.n ≤ 9223372036854775807 := by have := hx.sl.le; have := hx.sl.cap; simp only [maxLen] at this; omega
  have hk := hx.k8
  refine fn_of_exec (c := { c99 with cuts := [] }) gx_ok Tryz.func99 rfl rfl rfl ?_
  refine new (fun w1 hE1 hz1 hB1 => ?_)
  refine load_blk0 hB1 rfl ?_
  refine normIf (m := ((x.k / 8 : Nat) : Int)) (by decide) (by
    show IntKind.u8.wrap ((x.k / 8 : Nat) : Int) = _
    rw [wrap_u8_nat]; omega) ?_
  refine norm_i64_to ((x.k / 8 : Nat) : Int) rfl (by omega) ?_
  refine normIf (m := ((x.k / 8 % 4 : Nat) : Int)) (by decide) (tmod_nat _ 4) ?_
  have h4 : x.k / 8 % 4 < 4 := Nat.mod_lt _ (by decide)
  refine need_to (v' := .string (strOf (List.replicate (x.k / 8 % 4) 32))) (by
    generalize x.k / 8 % 4 = r at h4
    rcases (show r = 0 ∨ r = 1 ∨ r = 2 ∨ r = 3 by omega) with rfl | rfl | rfl | rfl <;> decide) (by
    generalize x.k / 8 % 4 = r at h4
    rcases (show r = 0 ∨ r = 1 ∨ r = 2 ∨ r = 3 by omega) with rfl | rfl | rfl | rfl <;> rfl) ?_
  refine loop gx_ok [4, 3] (fun s : Nat × List Nat => [.int .i64 s.1, .string (strOf s.2)]) (fun s w' => Ext w1 w' ∧ s.1 ≤ x.n ∧ s.1 ≤ 6 ∧ s.2.length ≤ 3 + s.1 * 5 ∧ s.2 ++ wsT (decide (0 < s.1)) ((x.ws.take 6).drop s.1) = textT x.k x.ws) (fun s _ => 6 - s.1) (0, List.replicate (x.k / 8 % 4) 32) rfl ⟨Ext.refl _, Nat.zero_le _, Nat.zero_le _, by simp; omega, rfl⟩ ?_
  rintro ⟨i, out⟩ w2 ⟨hE2, hi, hi6, hol, hrs⟩
  simp only at hi hi6 hol hrs
  have hB2 := hB1.ext hE2
  have so := strOf_size out
  have hSl := hx.sl.ext (hE1.trans hE2)
  have fine : out = textT x.k x.ws → out.length ≤ 40 → (strOf out).size + (strOf [10]).size ≤ maxLen := fun _ h => by rw [strOf_size, strOf_size]; show _ + 1 ≤ maxLen; unfold maxLen; omega
  have stop : (x.ws.take 6).drop i = [] → out = textT x.k x.ws := fun h => by rw [h, wsT, List.append_nil] at hrs; exact hrs
  refine load_blk hB2 rfl ?_
  refine wif_d (fun c1 => ?_) (fun c1 => ?_)
  · refine wif_d (fun c2 => ?_) (fun c2 => ?_)
    · have hin : i < x.n := by omega
      have hg : x.ws[i]? = some (x.ws[i]'(by omega)) := List.getElem?_eq_getElem _
      have hb := hx.w8 _ (List.mem_of_getElem? hg)
      generalize x.ws[i]'(by omega) = b at *
      have hdrop : (x.ws.take 6).drop i = b :: (x.ws.take 6).drop (i + 1) := drop_get (by rw [List.getElem?_take_of_lt (by omega)]; exact hg)
      rw [hdrop, wsT] at hrs
      obtain ⟨_, _, _, hwl⟩ := wrd_ok b
      refine wif_d (fun c3 => ?_) (fun c3 => ?_)
      · rw [if_pos (by simp; omega), ← List.append_assoc] at hrs
        have hl2 : (out ++ [32]).length ≤ 4 + i * 5 := by simp; omega
        refine need_to (v' := .string (strOf (out ++ [32]))) (by rw [so]; show _ + 1 ≤ maxLen; unfold maxLen; omega) (congrArg Value.string (strOf_append out [32])) ?_
        generalize out ++ [32] = o2 at *
        refine load_blk hB2 rfl ?_
        refine index_sl hSl hin (fun ad u hA hu hcell => ?_)
        rw [bytesV_get' hg] at hu
        cases hu
        refine load hcell ?_
        refine call (wrd_fn b w2 hb) ?_
        rintro _ w3 ⟨rfl, hE3⟩
        have so2 := strOf_size (o2)
        have so3 := strOf_size (wrdT b)
        refine need_to (v' := .string (strOf (o2 ++ wrdT b))) (by rw [so2, so3]; unfold maxLen; omega) (congrArg Value.string (strOf_append _ _)) ?_
        have hB3 := hB2.ext hE3
        have hSl3 := hSl.ext hE3
        refine load_blk hB3 rfl ?_
        refine index_sl hSl3 hin (fun ad u hA hu hcell => ?_)
        rw [bytesV_get' hg] at hu
        cases hu
        refine load hcell ?_
        refine normIf (m := ((b % 12 : Nat) : Int)) (by decide) (tmod_nat b 12) ?_
        refine wif_eq (fun c4 => ?_) (fun c4 => ?_)
        · rw [if_pos (by omega), List.append_nil] at hrs
          have so4 := strOf_size (o2 ++ wrdT b)
          refine need_to (v' := .string (strOf (o2 ++ wrdT b ++ [10]))) (by rw [so4, List.length_append]; show _ + 1 ≤ maxLen; unfold maxLen; omega) (congrArg Value.string (strOf_append _ [10])) ?_
          exact ⟨by rw [← hrs], hE1.trans (hE2.trans hE3)⟩
        · rw [if_neg (by omega), ← List.append_assoc] at hrs
          refine norm_i64_to ((i + 1 : Nat) : Int) (by show ((i : Nat) : Int) + 1 = _; omega) (by omega) ?_
          exact ⟨(i + 1, o2 ++ wrdT b), rfl, ⟨hE2.trans hE3, by show i + 1 ≤ x.n; omega, by show i + 1 ≤ 6; omega, by show (o2 ++ wrdT b).length ≤ 3 + (i + 1) * 5; rw [List.length_append]; omega, by show _ ++ wsT (decide (0 < i + 1)) _ = _; rw [show decide (0 < i + 1) = true by simp]; exact hrs⟩, by show 6 - (i + 1) < 6 - i; omega⟩
      · rw [if_neg (by simp; omega), List.nil_append] at hrs
        refine load_blk hB2 rfl ?_
        refine index_sl hSl hin (fun ad u hA hu hcell => ?_)
        rw [bytesV_get' hg] at hu
        cases hu
        refine load hcell ?_
        refine call (wrd_fn b w2 hb) ?_
        rintro _ w3 ⟨rfl, hE3⟩
        have so2 := strOf_size (out)
        have so3 := strOf_size (wrdT b)
        refine need_to (v' := .string (strOf (out ++ wrdT b))) (by rw [so2, so3]; unfold maxLen; omega) (congrArg Value.string (strOf_append _ _)) ?_
        have hB3 := hB2.ext hE3
        have hSl3 := hSl.ext hE3
        refine load_blk hB3 rfl ?_
        refine index_sl hSl3 hin (fun ad u hA hu hcell => ?_)
        rw [bytesV_get' hg] at hu
        cases hu
        refine load hcell ?_
        refine normIf (m := ((b % 12 : Nat) : Int)) (by decide) (tmod_nat b 12) ?_
        refine wif_eq (fun c4 => ?_) (fun c4 => ?_)
        · rw [if_pos (by omega), List.append_nil] at hrs
          have so4 := strOf_size (out ++ wrdT b)
          refine need_to (v' := .string (strOf (out ++ wrdT b ++ [10]))) (by rw [so4, List.length_append]; show _ + 1 ≤ maxLen; unfold maxLen; omega) (congrArg Value.string (strOf_append _ [10])) ?_
          exact ⟨by rw [← hrs], hE1.trans (hE2.trans hE3)⟩
        · rw [if_neg (by omega), ← List.append_assoc] at hrs
          refine norm_i64_to ((i + 1 : Nat) : Int) (by show ((i : Nat) : Int) + 1 = _; omega) (by omega) ?_
          exact ⟨(i + 1, out ++ wrdT b), rfl, ⟨hE2.trans hE3, by show i + 1 ≤ x.n; omega, by show i + 1 ≤ 6; omega, by show (out ++ wrdT b).length ≤ 3 + (i + 1) * 5; rw [List.length_append]; omega, by show _ ++ wsT (decide (0 < i + 1)) _ = _; rw [show decide (0 < i + 1) = true by simp]; exact hrs⟩, by show 6 - (i + 1) < 6 - i; omega⟩
    · have e := stop (List.drop_eq_nil_of_le (by rw [List.length_take]; omega))
      refine need_to (v' := .string (strOf (out ++ [10]))) (fine e (by omega)) (congrArg Value.string (strOf_append out [10])) ?_
      exact ⟨by rw [e], hE1.trans hE2⟩
  · have e := stop (List.drop_eq_nil_of_le (by rw [List.length_take]; omega))
    refine need_to (v' := .string (strOf (out ++ [10]))) (fine e (by omega)) (congrArg Value.string (strOf_append out [10])) ?_
    exact ⟨by rw [e], hE1.trans hE2⟩
end
end Go.Proofs.YtedopgkbajhanaaGreatDoor

namespace Go.Proofs.YtedopgkbajhanaaGreatDoor
section
open Go Go.RowKit

theorem lx_len (x : Lx) : x.cells.length = 3 := rfl
section
variable {k0 : Nat} {ic : Bool} {x : Lx} {op : List Bool}
theorem mdS_tx (h4 : x.k % 8 = 4 → 3 ≤ op.length) (h5 : x.k % 8 = 5 → op.head? ≠ some false) (h6 : x.k % 8 = 6 → op = []) (h7 : x.k % 8 = 7 → ic = false) : mdS k0 ic x op = (.tx (textT x.k x.ws), op) := by
  unfold mdS
  rw [if_neg (fun h => by have := h4 h.1; omega), if_neg (fun h => h5 h.1 h.2.1), if_neg (fun h => h5 h.1 h.2), if_neg (fun h => h.2 (h6 h.1)), if_neg (fun h => by rw [h7 h.1] at h; exact absurd h.2 (by decide))]
theorem mdS_if (h4 : x.k % 8 = 4) (h : op.length < 3) : mdS k0 ic x op = (.ifd (formT (letters12.take k0) x.i) (formO k0 x.i), false :: op) := by
  unfold mdS; rw [if_pos ⟨h4, h⟩]
theorem mdS_elif {op' : List Bool} (h5 : x.k % 8 = 5) (h : x.i % 2 = 0) : mdS k0 ic x (false :: op') = (.elif (formT (letters12.take k0) (x.i / 2)) (formO k0 (x.i / 2)), false :: op') := by
  unfold mdS; rw [if_neg (by omega), if_pos ⟨h5, rfl, h⟩]
theorem mdS_els {op' : List Bool} (h5 : x.k % 8 = 5) (h : x.i % 2 ≠ 0) : mdS k0 ic x (false :: op') = (.els, true :: op') := by
  unfold mdS; rw [if_neg (by omega), if_neg (fun hh => h hh.2.2), if_pos ⟨h5, rfl⟩]; rfl
theorem mdS_en {b : Bool} {op' : List Bool} (h6 : x.k % 8 = 6) : mdS k0 ic x (b :: op') = (.en, op') := by
  unfold mdS; rw [if_neg (by omega), if_neg (by omega), if_neg (by omega), if_pos ⟨h6, by simp⟩]; rfl
theorem mdS_inc (h7 : x.k % 8 = 7) (h : ic = true) : mdS k0 ic x op = (.inc, op) := by
  unfold mdS; rw [if_neg (by omega), if_neg (by omega), if_neg (by omega), if_neg (by omega), if_pos ⟨h7, h⟩]
end
theorem own_some {w : World} {base e n c : Nat} {A : Option Addr} {cs : List Value} (h : Own w base e 1 A n c cs) (hn : 0 < n) : ∃ a, A = some a := by
  obtain ⟨g, sp, hA, _⟩ := h.blk hn
  exact ⟨_, hA⟩
theorem own_cell {w : World} {base e n c j : Nat} {a : Addr} {cs : List Value} {u : Value} (h : Own w base e 1 (some a) n c cs) (hj : cs[j]? = some u) : w.cell? (a.add j) = some u := by
  have hl := h.sl.len
  have hlt := (List.getElem?_eq_some_iff.1 hj).1
  obtain ⟨ad, e, hc⟩ := h.sl.at_ (by omega)
  cases e
  exact hc j u hj
theorem last_rev (b : Bool) {op : List Bool} {op' : List Bool} (h : op = b :: op') : op.reverse[op.length - 1]? = some b := by
  subst h
  rw [List.reverse_cons, List.getElem?_append_right (by simp)]
  simp
structure LnS where
  i : Nat
  out : List Nat
  op : List Bool
  A : Option Addr
  c : Nat
structure LnI (w0 : World) (base : Nat) (k0 : Nat) (ic : Bool) (T : List Lx) (tot : List Nat) (s : LnS) (w : World) : Prop where
  e : Ext w0 w
  ow : Own w base 4 1 s.A s.op.length s.c (boolsV s.op.reverse)
  ol : s.op.length ≤ 3
  il : s.i ≤ T.length
  rs : s.out ++ unl ((mdL k0 ic (T.drop s.i) s.op).map mnT) = tot
  ll : s.out.length ≤ s.i * 40
theorem LnI.step {w0 w w' : World} {base k0 : Nat} {ic : Bool} {T : List Lx} {tot : List Nat} {s : LnS} (h : LnI w0 base k0 ic T tot s w) (hk : k0 ≤ 4) {y : Lx} (hx : y.i ≤ 255) (hy : T[s.i]? = some y) {M : Mn} {op' : List Bool} (e : mdS k0 ic y s.op = (M, op')) {A' : Option Addr} {c' : Nat} (hE : Ext w w') (ho : Own w' base 4 1 A' op'.length c' (boolsV op'.reverse)) :
    LnI w0 base k0 ic T tot ⟨s.i + 1, s.out ++ (mnT M ++ [10]), op', A', c'⟩ w' := by
  have hb := mdS_b (ic := ic) (op := s.op) hk hx
  have hl := mdS_len (k0 := k0) (ic := ic) (x := y) h.ol
  rw [e] at hb hl
  simp only at hb hl
  have hrs := h.rs
  rw [drop_get hy, mdL, e, List.map_cons, unl_cons] at hrs
  refine ⟨h.e.trans hE, ho, hl, (List.getElem?_eq_some_iff.1 hy).1, ?_, ?_⟩
  · rw [← hrs]; simp
  · have := h.ll; simp only [List.length_append, List.length_singleton]; omega
theorem LnI.step2 {w0 w w' : World} {base k0 : Nat} {ic : Bool} {T : List Lx} {tot : List Nat} {s : LnS} (h : LnI w0 base k0 ic T tot s w) (hk : k0 ≤ 4) {y : Lx} (hx : y.i ≤ 255) (hy : T[s.i]? = some y) {M : Mn} {op' : List Bool} (e : mdS k0 ic y s.op = (M, op')) {A' : Option Addr} {c' : Nat} {o' : List Nat} (ho' : o' = s.out ++ (mnT M ++ [10])) (hE : Ext w0 w') (ho : Own w' base 4 1 A' op'.length c' (boolsV op'.reverse)) :
    LnI w0 base k0 ic T tot ⟨s.i + 1, o', op', A', c'⟩ w' := by
  have hb := mdS_b (ic := ic) (op := s.op) hk hx
  have hl := mdS_len (k0 := k0) (ic := ic) (x := y) h.ol
  rw [e] at hb hl
  simp only at hb hl
  have hrs := h.rs
  rw [drop_get hy, mdL, e, List.map_cons, unl_cons] at hrs
  subst ho'
  refine ⟨hE, ho, hl, (List.getElem?_eq_some_iff.1 hy).1, ?_, ?_⟩
  · rw [← hrs]; simp
  · have := h.ll; simp only [List.length_append, List.length_singleton]; omega
theorem ends_drop {op : List Bool} {j : Nat} (h : j < op.length) : unl ((op.drop j).map (fun _ => lEnd)) = lEnd ++ 10 :: unl ((op.drop (j + 1)).map (fun _ => lEnd)) := by
  rw [List.drop_eq_getElem_cons h, List.map_cons, unl_cons]

set_option maxHeartbeats 3200000 in
theorem lines_fn (k0 : Nat) (hk : k0 ≤ 4) (NA : Option Addr) (nc : Nat) (A : Option Addr) (n c : Nat) (L : List Lx) (most : Nat) (name : List Nat) (w : World) (hN : Sl w 1 NA k0 nc (strsV (letters12.take k0))) (hL : SlS Lx.cells 3 w A n c L) (hok : ∀ x ∈ L, LxOk w x) (hm : most ≤ 100) (hname : name = [] ∨ name = [110]) :
    Fn Tryz.prog 58 [.slice NA k0 nc, .slice A n c, .int .i64 most, .string (strOf name)] w (fun v w' => v = .string (strOf (unl ((mdL k0 (decide (name ≠ [])) (L.take most) []).map mnT))) ∧ Ext w w') := by
  have hlen := hL.2
  have hcap : n ≤ 9223372036854775807 := by have := hL.1.le; have := hL.1.cap; simp only [maxLen] at this; omega
  have hs100 : ∀ s ∈ letters12.take k0, s.length ≤ 100 := fun s hs => by
    have h12 : letters12.all (fun s => decide (s.length ≤ 100)) = true := by decide
    exact of_decide_eq_true (List.all_eq_true.1 h12 s (List.mem_of_mem_take hs))
  refine fn_of_exec (c := { c58 with cuts := [] }) gx_ok Tryz.func58 rfl rfl rfl ?_
  refine at_build0 gx_ok rfl rfl rfl rfl rfl rfl ?_
  intro w1 hE1 hz1 hB1
  generalize hic : decide (name ≠ []) = ic
  generalize htot : unl ((mdL k0 ic (L.take most) []).map mnT) = tot
  have hTl : (L.take most).length = min most L.length := List.length_take
  have hT100 : (L.take most).length ≤ 100 := by omega
  generalize hT : L.take most = T at *
  refine loop gx_ok [11, 10, 9] (fun s : LnS => [.int .i64 s.i, .slice s.A s.op.length s.c, .string (strOf s.out)]) (fun s w' => LnI w w.heap.size k0 ic T tot s w') (fun s _ => T.length - s.i) ⟨0, [], [], some ⟨w.heap.size, 0, none⟩, 0⟩ rfl ⟨hE1, Own.empty hB1 (Nat.le_refl _), Nat.zero_le _, Nat.zero_le _, htot, Nat.le_refl _⟩ ?_
  rintro ⟨i, out, op, A', c'⟩ w2 hI
  have hol := hI.ol
  have hil := hI.il
  have hll := hI.ll
  simp only at hol hil hll
  have hE02 := hI.e
  have so := strOf_size out
  refine wif_d (fun c1 => ?_) (fun c1 => ?_)
  · simp only at c1
    refine wif_d (fun c2 => ?_) (fun c2 => ?_)
    · simp only at c2
      have hin : i < n := by omega
      have hiT : i < T.length := by omega
      refine index_sls lx_len (hL.ext hE02) rfl hin (fun p y hyL hcl => ?_)
      have hyL : L[i]? = some y := hyL
      have hy : T[i]? = some y := by rw [← hT, List.getElem?_take_of_lt (by omega)]; exact hyL
      have hyok := (hok y (List.mem_of_getElem? hyL)).ext hE02
      have hxi := hyok.i8
      have hk8 := hyok.k8
      refine loadN_at (vs := y.cells) rfl hcl ?_
      refine new (fun w4 hE4 hz4 hB4 => ?_)
      refine storeN_blk0 hB4 rfl (sc rfl) (fun w5 hg5 _ hB5 => ?_)
      have hE25 : Ext w2 w5 := newBox hE4 hB4 hg5
      have hE15 := hI.e.trans hE25
      have how := hI.ow.ext hE25
      simp only at how
      refine load_blk0 hB5 rfl ?_
      refine normIf (m := ((y.k % 8 : Nat) : Int)) (by decide) (tmod_nat y.k 8) ?_
      have h8 : y.k % 8 < 8 := Nat.mod_lt _ (by decide)
      refine wif_eq (fun k4 => ?_) (fun k4 => ?_)
      · refine wif_d (fun n3 => ?_) (fun n3 => ?_)
        · simp only at n3
          have e5 := formula_fn (letters12.take k0) NA k0 nc y.i
          refine need_to (v' := .string (strOf (out ++ [35, 105, 102, 32]))) (by rw [so]; show _ + 4 ≤ maxLen; unfold maxLen; omega) (congrArg Value.string (strOf_append out [35, 105, 102, 32])) ?_
          refine load_blk hB5 rfl ?_
          refine call (e5 w5 (hN.ext hE15) hs100 hxi) ?_
          rintro _ w6 ⟨rfl, hE6⟩
          have hfl := (form_line hk hxi).2.2
          refine need_to (v' := .string (strOf (out ++ [35, 105, 102, 32] ++ formT (letters12.take k0) y.i))) (by rw [strOf_size, strOf_size, List.length_append]; show _ + 4 + _ ≤ maxLen; unfold maxLen; omega) (congrArg Value.string (strOf_append _ _)) ?_
          refine need_to (v' := .string (strOf (out ++ [35, 105, 102, 32] ++ formT (letters12.take k0) y.i ++ [10]))) (by rw [strOf_size, List.length_append, List.length_append]; show _ + 4 + _ + 1 ≤ maxLen; unfold maxLen; omega) (congrArg Value.string (strOf_append _ [10])) ?_
          refine at_buildN gx_ok [[Value.bool false]] rfl rfl rfl rfl rfl ⟨rfl, rfl, ⟨⟩⟩ rfl (fun cs hh => by simp only [List.mem_singleton] at hh; subst hh; rfl) rfl (by decide) (by decide) ?_
          intro w7 hE7 hz7 hB7
          have hs7 : Sl w7 1 (some ⟨w6.heap.size, 0, none⟩) 1 1 [Value.bool false] := Sl.own (sz := 1) (n := 1) hB7 (Nat.le_refl _) (by decide) (by simp)
          have hE57 := hE6.trans hE7
          refine at_app (n := op.length) gx_ok rfl rfl rfl rfl rfl (by decide) rfl rfl ⟨_, rfl⟩ rfl rfl (how.ext hE57) hs7 (by simp [scalar]) (by unfold maxLen; omega) (by show (op.length + 1) * 1 ≤ _; omega) (by have := hE15.size; have := hE57.size; omega) ?_
          intro A2 c2 w8 hm8 how8 hmv8
          refine norm_i64_to ((i + 1 : Nat) : Int) (by show ((i : Nat) : Int) + 1 = _; omega) (by (try simp only); omega) ?_
          exact ⟨⟨i + 1, out ++ [35, 105, 102, 32] ++ formT (letters12.take k0) y.i ++ [10], false :: op, A2, c2⟩, by simp only [List.length_cons]; rfl, hI.step2 hk hxi hy (mdS_if (by first | omega | (simp only; omega)) (by first | omega | (simp only; omega))) (by simp [mnT, pIf]) (hm8.ext (hE15.trans hE57) (fun i hi => by have := (how.ext hE57).rows i hi; omega)) (by rw [List.reverse_cons]; simpa [boolsV] using how8), by show T.length - (i + 1) < T.length - i; omega⟩
        · simp only at n3
          refine wif_eqf (by first | omega | (simp only; omega)) ?_
          refine wif_eqf (by first | omega | (simp only; omega)) ?_
          refine wif_eqf (by first | omega | (simp only; omega)) ?_
          refine wif_eqf (by first | omega | (simp only; omega)) ?_
          refine loadN_blk0 hB5 rfl ?_
          refine call (mtext_fn y w5 (hyok.ext hE25)) ?_
          rintro _ w6 ⟨rfl, hE6⟩
          have s2 := strOf_size (textT y.k y.ws ++ [10])
          have s3 := (text_ok3 y.k y.ws).2.2.2
          refine need_to (v' := .string (strOf (out ++ (textT y.k y.ws ++ [10])))) (by rw [so, s2, List.length_append]; show _ + (_ + 1) ≤ maxLen; unfold maxLen; omega) (congrArg Value.string (strOf_append _ _)) ?_
          refine norm_i64_to ((i + 1 : Nat) : Int) (by show ((i : Nat) : Int) + 1 = _; omega) (by (try simp only); omega) ?_
          exact ⟨⟨i + 1, out ++ (textT y.k y.ws ++ [10]), op, A', c'⟩, rfl, hI.step hk hxi hy (mdS_tx (fun _ => by first | omega | (simp only; omega)) (fun h => by first | omega | (simp only; omega)) (fun h => by first | omega | (simp only; omega)) (fun h => by first | omega | (simp only; omega))) (hE25.trans hE6) (how.ext hE6), by show T.length - (i + 1) < T.length - i; omega⟩
      refine wif_eq (fun k5 => ?_) (fun k5 => ?_)
      · have k5' : y.k % 8 = 5 := by omega
        refine wif_d (fun n0 => ?_) (fun n0 => ?_)
        · simp only at n0
          have n0 : 0 < op.length := by omega
          obtain ⟨f, op', rfl⟩ : ∃ f op', op = f :: op' := by
            cases op with
            | nil => exact absurd n0 (by decide)
            | cons f op' => exact ⟨f, op', rfl⟩
          refine norm_i64_to (((f :: op').length - 1 : Nat) : Int) (by (try simp only); omega) (by (try simp only); omega) ?_
          obtain ⟨oa, hoa⟩ := own_some how (show 0 < (f :: op').length by omega)
          rw [hoa]
          refine index (j := (f :: op').length - 1) (by (try simp only); omega) ?_
          refine load (own_cell (by rw [← hoa]; exact how) (boolsV_get (last_rev f rfl))) ?_
          cases f with
          | false =>
            refine wif_t rfl ?_
            refine load_blk hB5 rfl ?_
            refine normIf (m := ((y.i % 2 : Nat) : Int)) (by decide) (tmod_nat y.i 2) ?_
            refine wif_eq (fun i2 => ?_) (fun i2 => ?_)
            · refine need_to (v' := .string (strOf (out ++ [35, 101, 108, 105, 102, 32]))) (by rw [so]; show _ + 6 ≤ maxLen; unfold maxLen; omega) (congrArg Value.string (strOf_append out [35, 101, 108, 105, 102, 32])) ?_
              refine load_blk hB5 rfl ?_
              refine normIf (m := ((y.i / 2 : Nat) : Int)) (by decide) (by
                show IntKind.u8.wrap ((y.i / 2 : Nat) : Int) = _
                rw [wrap_u8_nat]; omega) ?_
              have h255 : y.i / 2 ≤ 255 := by omega
              refine call (formula_fn (letters12.take k0) NA k0 nc (y.i / 2) w5 (hN.ext hE15) hs100 h255) ?_
              rintro _ w6 ⟨rfl, hE6⟩
              have hfl := (form_line hk h255).2.2
              refine need_to (v' := .string (strOf (out ++ [35, 101, 108, 105, 102, 32] ++ formT (letters12.take k0) (y.i / 2)))) (by rw [strOf_size, strOf_size, List.length_append]; show _ + 6 + _ ≤ maxLen; unfold maxLen; omega) (congrArg Value.string (strOf_append _ _)) ?_
              refine need_to (v' := .string (strOf (out ++ [35, 101, 108, 105, 102, 32] ++ formT (letters12.take k0) (y.i / 2) ++ [10]))) (by rw [strOf_size, List.length_append, List.length_append]; show _ + 6 + _ + 1 ≤ maxLen; unfold maxLen; omega) (congrArg Value.string (strOf_append _ [10])) ?_
              rw [← hoa]
              refine norm_i64_to ((i + 1 : Nat) : Int) (by show ((i : Nat) : Int) + 1 = _; omega) (by (try simp only); omega) ?_
              exact ⟨⟨i + 1, out ++ [35, 101, 108, 105, 102, 32] ++ formT (letters12.take k0) (y.i / 2) ++ [10], false :: op', A', c'⟩, rfl, hI.step2 hk hxi hy (mdS_elif k5' (by first | omega | (simp only; omega))) (by simp [mnT, pElif]) (hE15.trans hE6) (how.ext hE6), by show T.length - (i + 1) < T.length - i; omega⟩
            · refine wif_eqt (by first | omega | (simp only; omega)) ?_
              refine wif_dt (by (try simp only); omega) ?_
              refine norm_i64_to (((false :: op').length - 1 : Nat) : Int) (by (try simp only); omega) (by (try simp only); omega) ?_
              refine index (j := (false :: op').length - 1) (by (try simp only); omega) ?_
              refine load (own_cell (by rw [← hoa]; exact how) (boolsV_get (last_rev false rfl))) ?_
              refine wif_t rfl ?_
              refine need_to (v' := .string (strOf (out ++ [35, 101, 108, 115, 101, 10]))) (by rw [so]; show _ + 6 ≤ maxLen; unfold maxLen; omega) (congrArg Value.string (strOf_append out [35, 101, 108, 115, 101, 10])) ?_
              refine norm_i64_to (((false :: op').length - 1 : Nat) : Int) (by (try simp only); omega) (by (try simp only); omega) ?_
              refine index (j := (false :: op').length - 1) (by (try simp only); omega) ?_
              rw [hoa] at how
              refine store_own how (by (try simp only); omega) (fun w6 hg6 how6 => ?_)
              have hm6 := Mod.of_row hg6
              have how6' : Own w6 w.heap.size 4 1 (some oa) (true :: op').length c' (boolsV (true :: op').reverse) := by
                have e : (boolsV (false :: op').reverse).set ((false :: op').length - 1) (Value.bool true) = boolsV (true :: op').reverse := by
                  rw [← boolsV_set]
                  congr 1
                  rw [List.reverse_cons, List.reverse_cons, List.set_append_right _ _ (by simp)]
                  simp
                rw [e] at how6
                exact how6
              refine norm_i64_to ((i + 1 : Nat) : Int) (by show ((i : Nat) : Int) + 1 = _; omega) (by (try simp only); omega) ?_
              exact ⟨⟨i + 1, out ++ [35, 101, 108, 115, 101, 10], true :: op', some oa, c'⟩, rfl, hI.step2 hk hxi hy (mdS_els k5' (by first | omega | (simp only; omega))) (by simp [mnT, lElse]) (hm6.ext hE15 (fun i hi => by have := how.rows i hi; omega)) (how6'), by show T.length - (i + 1) < T.length - i; omega⟩
          | true =>
            refine wif_f rfl ?_
            refine wif_eqt (by first | omega | (simp only; omega)) ?_
            refine wif_dt (by (try simp only); omega) ?_
            refine norm_i64_to (((true :: op').length - 1 : Nat) : Int) (by (try simp only); omega) (by (try simp only); omega) ?_
            refine index (j := (true :: op').length - 1) (by (try simp only); omega) ?_
            refine load (own_cell (by rw [← hoa]; exact how) (boolsV_get (last_rev true rfl))) ?_
            refine wif_f rfl ?_
            refine wif_eqf (by first | omega | (simp only; omega)) ?_
            refine wif_eqf (by first | omega | (simp only; omega)) ?_
            rw [← hoa]
            refine loadN_blk0 hB5 rfl ?_
            refine call (mtext_fn y w5 (hyok.ext hE25)) ?_
            rintro _ w6 ⟨rfl, hE6⟩
            have s2 := strOf_size (textT y.k y.ws ++ [10])
            have s3 := (text_ok3 y.k y.ws).2.2.2
            refine need_to (v' := .string (strOf (out ++ (textT y.k y.ws ++ [10])))) (by rw [so, s2, List.length_append]; show _ + (_ + 1) ≤ maxLen; unfold maxLen; omega) (congrArg Value.string (strOf_append _ _)) ?_
            refine norm_i64_to ((i + 1 : Nat) : Int) (by show ((i : Nat) : Int) + 1 = _; omega) (by (try simp only); omega) ?_
            exact ⟨⟨i + 1, out ++ (textT y.k y.ws ++ [10]), true :: op', A', c'⟩, rfl, hI.step hk hxi hy (mdS_tx (fun h => by first | omega | (simp only; omega)) (fun _ h => by cases h) (fun h => by first | omega | (simp only; omega)) (fun h => by first | omega | (simp only; omega))) (hE25.trans hE6) (how.ext hE6), by show T.length - (i + 1) < T.length - i; omega⟩
        · simp only at n0
          have hop : op = [] := List.eq_nil_of_length_eq_zero (by first | omega | (simp only; omega))
          subst hop
          refine wif_eqt (by first | omega | (simp only; omega)) ?_
          refine wif_df (by simp) ?_
          refine wif_eqf (by first | omega | (simp only; omega)) ?_
          refine wif_eqf (by first | omega | (simp only; omega)) ?_
          refine loadN_blk0 hB5 rfl ?_
          refine call (mtext_fn y w5 (hyok.ext hE25)) ?_
          rintro _ w6 ⟨rfl, hE6⟩
          have s2 := strOf_size (textT y.k y.ws ++ [10])
          have s3 := (text_ok3 y.k y.ws).2.2.2
          refine need_to (v' := .string (strOf (out ++ (textT y.k y.ws ++ [10])))) (by rw [so, s2, List.length_append]; show _ + (_ + 1) ≤ maxLen; unfold maxLen; omega) (congrArg Value.string (strOf_append _ _)) ?_
          refine norm_i64_to ((i + 1 : Nat) : Int) (by show ((i : Nat) : Int) + 1 = _; omega) (by (try simp only); omega) ?_
          exact ⟨⟨i + 1, out ++ (textT y.k y.ws ++ [10]), [], A', c'⟩, rfl, hI.step hk hxi hy (mdS_tx (fun h => by first | omega | (simp only; omega)) (fun _ h => by cases h) (fun h => by first | omega | (simp only; omega)) (fun h => by first | omega | (simp only; omega))) (hE25.trans hE6) (how.ext hE6), by show T.length - (i + 1) < T.length - i; omega⟩
      refine wif_eqf (by first | omega | (simp only; omega)) ?_
      refine wif_eq (fun k6 => ?_) (fun k6 => ?_)
      · refine wif_d (fun n0 => ?_) (fun n0 => ?_)
        · simp only at n0
          obtain ⟨f, op', rfl⟩ : ∃ f op', op = f :: op' := by
            cases op with
            | nil => exact absurd n0 (by decide)
            | cons f op' => exact ⟨f, op', rfl⟩
          refine need_to (v' := .string (strOf (out ++ [35, 101, 110, 100, 10]))) (by rw [so]; show _ + 5 ≤ maxLen; unfold maxLen; omega) (congrArg Value.string (strOf_append out [35, 101, 110, 100, 10])) ?_
          refine norm_i64_to ((op'.length : Nat) : Int) (by simp only [List.length_cons]; omega) (by simp only [List.length_cons] at hol; omega) ?_
          have hle := how.sl.le
          simp only [List.length_cons] at hle
          refine at_slice_h (h := op'.length) gx_ok rfl rfl rfl rfl rfl rfl (by first | omega | (simp only; omega)) ?_
          have how2 := how.take (k := op'.length) (by simp)
          have e2 : (boolsV (f :: op').reverse).take (op'.length * 1) = boolsV op'.reverse := by
            rw [Nat.mul_one, List.reverse_cons]
            unfold boolsV
            rw [List.map_append, List.take_append_of_le_length (by simp), List.take_of_length_le (by simp)]
          rw [e2] at how2
          refine norm_i64_to ((i + 1 : Nat) : Int) (by show ((i : Nat) : Int) + 1 = _; omega) (by (try simp only); omega) ?_
          exact ⟨⟨i + 1, out ++ [35, 101, 110, 100, 10], op', A', c'⟩, rfl, hI.step2 hk hxi hy (mdS_en (by first | omega | (simp only; omega))) (by simp [mnT, lEnd]) (hE15) (how2), by show T.length - (i + 1) < T.length - i; omega⟩
        · simp only at n0
          have hop : op = [] := List.eq_nil_of_length_eq_zero (by first | omega | (simp only; omega))
          subst hop
          refine wif_eqf (by first | omega | (simp only; omega)) ?_
          refine loadN_blk0 hB5 rfl ?_
          refine call (mtext_fn y w5 (hyok.ext hE25)) ?_
          rintro _ w6 ⟨rfl, hE6⟩
          have s2 := strOf_size (textT y.k y.ws ++ [10])
          have s3 := (text_ok3 y.k y.ws).2.2.2
          refine need_to (v' := .string (strOf (out ++ (textT y.k y.ws ++ [10])))) (by rw [so, s2, List.length_append]; show _ + (_ + 1) ≤ maxLen; unfold maxLen; omega) (congrArg Value.string (strOf_append _ _)) ?_
          refine norm_i64_to ((i + 1 : Nat) : Int) (by show ((i : Nat) : Int) + 1 = _; omega) (by (try simp only); omega) ?_
          exact ⟨⟨i + 1, out ++ (textT y.k y.ws ++ [10]), [], A', c'⟩, rfl, hI.step hk hxi hy (mdS_tx (fun h => by first | omega | (simp only; omega)) (fun h => by first | omega | (simp only; omega)) (fun _ => rfl) (fun h => by first | omega | (simp only; omega))) (hE25.trans hE6) (how.ext hE6), by show T.length - (i + 1) < T.length - i; omega⟩
      refine wif_eq (fun k7 => ?_) (fun k7 => ?_)
      · rcases hname with rfl | rfl
        · have hicf : ic = false := by rw [← hic]; rfl
          refine wif_f (by decide) ?_
          refine loadN_blk0 hB5 rfl ?_
          refine call (mtext_fn y w5 (hyok.ext hE25)) ?_
          rintro _ w6 ⟨rfl, hE6⟩
          have s2 := strOf_size (textT y.k y.ws ++ [10])
          have s3 := (text_ok3 y.k y.ws).2.2.2
          refine need_to (v' := .string (strOf (out ++ (textT y.k y.ws ++ [10])))) (by rw [so, s2, List.length_append]; show _ + (_ + 1) ≤ maxLen; unfold maxLen; omega) (congrArg Value.string (strOf_append _ _)) ?_
          refine norm_i64_to ((i + 1 : Nat) : Int) (by show ((i : Nat) : Int) + 1 = _; omega) (by (try simp only); omega) ?_
          exact ⟨⟨i + 1, out ++ (textT y.k y.ws ++ [10]), op, A', c'⟩, rfl, hI.step hk hxi hy (mdS_tx (fun h => by first | omega | (simp only; omega)) (fun h => by first | omega | (simp only; omega)) (fun h => by first | omega | (simp only; omega)) (fun _ => hicf)) (hE25.trans hE6) (how.ext hE6), by show T.length - (i + 1) < T.length - i; omega⟩
        · have hict : ic = true := by rw [← hic]; rfl
          refine wif_t (by decide) ?_
          refine need_to (v' := .string (strOf (out ++ [35, 105, 110, 99, 108, 117, 100, 101, 32, 34]))) (by rw [so]; show _ + 10 ≤ maxLen; unfold maxLen; omega) (congrArg Value.string (strOf_append out [35, 105, 110, 99, 108, 117, 100, 101, 32, 34])) ?_
          refine need_to (v' := .string (strOf (out ++ [35, 105, 110, 99, 108, 117, 100, 101, 32, 34] ++ [110]))) (by rw [strOf_size, List.length_append]; show _ + 10 + 1 ≤ maxLen; unfold maxLen; omega) (congrArg Value.string (strOf_append _ [110])) ?_
          refine need_to (v' := .string (strOf (out ++ [35, 105, 110, 99, 108, 117, 100, 101, 32, 34] ++ [110] ++ [34, 10]))) (by rw [strOf_size, List.length_append, List.length_append]; show _ + 10 + 1 + 2 ≤ maxLen; unfold maxLen; omega) (congrArg Value.string (strOf_append _ [34, 10])) ?_
          refine norm_i64_to ((i + 1 : Nat) : Int) (by show ((i : Nat) : Int) + 1 = _; omega) (by (try simp only); omega) ?_
          exact ⟨⟨i + 1, out ++ [35, 105, 110, 99, 108, 117, 100, 101, 32, 34] ++ [110] ++ [34, 10], op, A', c'⟩, rfl, hI.step2 hk hxi hy (mdS_inc (by first | omega | (simp only; omega)) hict) (by simp [mnT, pInc, nInc]) (hE15) (how), by show T.length - (i + 1) < T.length - i; omega⟩
      · refine loadN_blk0 hB5 rfl ?_
        refine call (mtext_fn y w5 (hyok.ext hE25)) ?_
        rintro _ w6 ⟨rfl, hE6⟩
        have s2 := strOf_size (textT y.k y.ws ++ [10])
        have s3 := (text_ok3 y.k y.ws).2.2.2
        refine need_to (v' := .string (strOf (out ++ (textT y.k y.ws ++ [10])))) (by rw [so, s2, List.length_append]; show _ + (_ + 1) ≤ maxLen; unfold maxLen; omega) (congrArg Value.string (strOf_append _ _)) ?_
        refine norm_i64_to ((i + 1 : Nat) : Int) (by show ((i : Nat) : Int) + 1 = _; omega) (by (try simp only); omega) ?_
        exact ⟨⟨i + 1, out ++ (textT y.k y.ws ++ [10]), op, A', c'⟩, rfl, hI.step hk hxi hy (mdS_tx (fun h => by first | omega | (simp only; omega)) (fun h => by first | omega | (simp only; omega)) (fun h => by first | omega | (simp only; omega)) (fun h => by first | omega | (simp only; omega))) (hE25.trans hE6) (how.ext hE6), by show T.length - (i + 1) < T.length - i; omega⟩
    · try simp only at c1
      try simp only at c2
      have hiT : i = T.length := by omega
      have hrs := hI.rs
      simp only at hrs
      rw [hiT, List.drop_length, mdL, List.map_map] at hrs
      have hrs : out ++ unl ((op.drop 0).map (fun _ => lEnd)) = tot := hrs
      refine loop gx_ok [15, 9] (fun s : Nat × List Nat => [.int .i64 s.1, .string (strOf s.2)]) (fun s w' => w2 = w' ∧ s.1 ≤ op.length ∧ s.2.length ≤ 4000 + s.1 * 5 ∧ s.2 ++ unl ((op.drop s.1).map (fun _ => lEnd)) = tot) (fun s _ => op.length - s.1) (0, out) rfl ⟨rfl, Nat.zero_le _, by show out.length ≤ _; omega, hrs⟩ ?_
      rintro ⟨j, o2⟩ _ ⟨rfl, hj, hol2, hrs2⟩
      simp only at hj hol2 hrs2
      refine wif_d (fun d1 => ?_) (fun d1 => ?_)
      · simp only at d1
        have hjl : j < op.length := by omega
        rw [ends_drop hjl] at hrs2
        refine need_to (v' := .string (strOf (o2 ++ [35, 101, 110, 100, 10]))) (by rw [strOf_size]; show o2.length + 5 ≤ maxLen; unfold maxLen; omega) (congrArg Value.string (strOf_append o2 [35, 101, 110, 100, 10])) ?_
        refine norm_i64_to ((j + 1 : Nat) : Int) (by show ((j : Nat) : Int) + 1 = _; omega) (by (try simp only); omega) ?_
        exact ⟨(j + 1, o2 ++ [35, 101, 110, 100, 10]), rfl, ⟨rfl, hjl, by show (o2 ++ [35, 101, 110, 100, 10]).length ≤ _; rw [List.length_append]; show _ + 5 ≤ 4000 + (j + 1) * 5; omega, by show (o2 ++ [35, 101, 110, 100, 10]) ++ _ = _; rw [← hrs2]; simp [lEnd]⟩, by show op.length - (j + 1) < op.length - j; omega⟩
      · simp only at d1
        have hjl : j = op.length := by omega
        rw [hjl, List.drop_length] at hrs2
        have hrs2 : o2 ++ [] = tot := hrs2
        rw [List.append_nil] at hrs2
        exact ⟨by rw [hrs2], hE02⟩
  · try simp only at c1
    try simp only at c2
    have hiT : i = T.length := by omega
    have hrs := hI.rs
    simp only at hrs
    rw [hiT, List.drop_length, mdL, List.map_map] at hrs
    have hrs : out ++ unl ((op.drop 0).map (fun _ => lEnd)) = tot := hrs
    refine loop gx_ok [15, 9] (fun s : Nat × List Nat => [.int .i64 s.1, .string (strOf s.2)]) (fun s w' => w2 = w' ∧ s.1 ≤ op.length ∧ s.2.length ≤ 4000 + s.1 * 5 ∧ s.2 ++ unl ((op.drop s.1).map (fun _ => lEnd)) = tot) (fun s _ => op.length - s.1) (0, out) rfl ⟨rfl, Nat.zero_le _, by show out.length ≤ _; omega, hrs⟩ ?_
    rintro ⟨j, o2⟩ _ ⟨rfl, hj, hol2, hrs2⟩
    simp only at hj hol2 hrs2
    refine wif_d (fun d1 => ?_) (fun d1 => ?_)
    · simp only at d1
      have hjl : j < op.length := by omega
      rw [ends_drop hjl] at hrs2
      refine need_to (v' := .string (strOf (o2 ++ [35, 101, 110, 100, 10]))) (by rw [strOf_size]; show o2.length + 5 ≤ maxLen; unfold maxLen; omega) (congrArg Value.string (strOf_append o2 [35, 101, 110, 100, 10])) ?_
      refine norm_i64_to ((j + 1 : Nat) : Int) (by show ((j : Nat) : Int) + 1 = _; omega) (by (try simp only); omega) ?_
      exact ⟨(j + 1, o2 ++ [35, 101, 110, 100, 10]), rfl, ⟨rfl, hjl, by show (o2 ++ [35, 101, 110, 100, 10]).length ≤ _; rw [List.length_append]; show _ + 5 ≤ 4000 + (j + 1) * 5; omega, by show (o2 ++ [35, 101, 110, 100, 10]) ++ _ = _; rw [← hrs2]; simp [lEnd]⟩, by show op.length - (j + 1) < op.length - j; omega⟩
    · simp only at d1
      have hjl : j = op.length := by omega
      rw [hjl, List.drop_length] at hrs2
      have hrs2 : o2 ++ [] = tot := hrs2
      rw [List.append_nil] at hrs2
      exact ⟨by rw [hrs2], hE02⟩

set_option maxHeartbeats 1600000 in
theorem rmade_fn (k0 : Nat) (hk : k0 ≤ 4) (NA : Option Addr) (nc : Nat) (A B : Option Addr) (n c m d : Nat) (main other : List Lx) (w : World) (hN : Sl w 1 NA k0 nc (strsV (letters12.take k0))) (hL : SlS Lx.cells 3 w A n c main) (hok : ∀ x ∈ main, LxOk w x) (hL' : SlS Lx.cells 3 w B m d other) (hok' : ∀ x ∈ other, LxOk w x) :
    Fn Tryz.prog 31 [.slice NA k0 nc, .slice A n c, .slice B m d] w (fun v w' => ∃ F, v = .slice F 2 2 ∧ Ext w w' ∧ SlS fileC 2 w' F 2 2 (madeF k0 main other)) := by
  refine fn_of_exec (c := { c31 with cuts := [] }) gx_ok Tryz.func31 rfl rfl rfl ?_
  refine call (lines_fn k0 hk NA nc A n c main 12 [110] w hN hL hok (by decide) (.inr rfl)) ?_
  rintro _ w1 ⟨rfl, hE1⟩
  refine call (lines_fn k0 hk NA nc B m d other 5 [] w1 (hN.ext hE1) (hL'.ext hE1) (fun x hx => (hok' x hx).ext hE1) (by decide) (.inl rfl)) ?_
  rintro _ w2 ⟨rfl, hE2⟩
  refine at_buildN gx_ok ((madeF k0 main other).map fileC) rfl rfl rfl rfl rfl ⟨rfl, rfl, rfl, rfl, ⟨⟩⟩ rfl (fun cs h => by simp only [List.mem_map] at h; obtain ⟨s, _, rfl⟩ := h; rfl) rfl (by decide) (by decide) ?_
  intro w3 hE3 hz3 hB3
  exact ⟨_, rfl, (hE1.trans hE2).trans hE3, Sl.own (sz := 2) (n := 2) hB3 (Nat.le_refl _) (by decide) (by simp [madeF, fileC]), rfl⟩
end
end Go.Proofs.YtedopgkbajhanaaGreatDoor

namespace Go.Proofs.YtedopgkbajhanaaGreatDoor
section
open Go Go.RowKit

theorem value_fn (w0 : World) (F : Option Addr) (n cF : Nat) (f : List Fz) (cfg : Nat) (hcf : cfg ≤ 18446744073709551615) (h : SF w0 F n cF f) : ∀ (t : Fm) (i : Nat) (w : World), Ext w0 w → RepF f t i → VarsIn 64 t →
    Fn Tryz.prog 163 [.slice F n cF, .int .i64 i, .int .u64 cfg] w (fun v w' => v = .bool (evF t (bitE cfg)) ∧ Ext w w') := by
  have hn := h.2
  intro t
  induction t with
  | c b =>
    intro i w hE ht _
    have hi := RepF.lt ht
    refine fn_of_exec (c := { c163 with cuts := [] }) gx_ok Tryz.func163 rfl rfl rfl ?_
    refine index_sls fz_len (h.ext hE) rfl (by omega) (fun p x hx hc => ?_)
    refine loadN_at (vs := x.cells) rfl hc ?_
    refine new (fun w1 hE1 hz1 hB1 => ?_)
    refine storeN_blk0 hB1 rfl (sc rfl) (fun w2 hg2 hz2 hB2 => ?_)
    have hE2 : Ext w w2 := newBox hE1 hB1 hg2
    cases b with
    | true =>
      have hxx : x = ⟨1, 0, 0, 0⟩ := Option.some.inj (hx.symm.trans ht)
      subst hxx
      refine load_blk0 hB2 rfl ?_
      refine wif_eqt rfl ?_
      exact ⟨rfl, hE2⟩
    | false =>
      have hxx : x = ⟨0, 0, 0, 0⟩ := Option.some.inj (hx.symm.trans ht)
      subst hxx
      refine load_blk0 hB2 rfl ?_
      refine wif_eqf (show ¬ (0 : Int) = 1 by decide) ?_
      refine wif_eqf (show ¬ (0 : Int) = 2 by decide) ?_
      refine wif_eqf (show ¬ (0 : Int) = 3 by decide) ?_
      refine wif_eqf (show ¬ (0 : Int) = 4 by decide) ?_
      refine wif_eqf (show ¬ (0 : Int) = 5 by decide) ?_
      exact ⟨rfl, hE2⟩
  | v q =>
    intro i w hE ht hv
    have hi := RepF.lt ht
    have hq : q < 64 := hv
    refine fn_of_exec (c := { c163 with cuts := [] }) gx_ok Tryz.func163 rfl rfl rfl ?_
    refine index_sls fz_len (h.ext hE) rfl (by omega) (fun p x hx hc => ?_)
    refine loadN_at (vs := x.cells) rfl hc ?_
    refine new (fun w1 hE1 hz1 hB1 => ?_)
    refine storeN_blk0 hB1 rfl (sc rfl) (fun w2 hg2 hz2 hB2 => ?_)
    have hE2 : Ext w w2 := newBox hE1 hB1 hg2
    have hxx : x = ⟨2, (q : Nat), 0, 0⟩ := Option.some.inj (hx.symm.trans ht)
    subst hxx
    refine load_blk0 hB2 rfl ?_
    refine wif_eqf (show ¬ (2 : Int) = 1 by decide) ?_
    refine wif_eqt rfl ?_
    refine load_blk hB2 rfl ?_
    refine norm (m := ((q : Nat) : Int)) (IntWalk.u64_in _ (by show 0 ≤ ((q : Nat) : Int) ∧ ((q : Nat) : Int) ≤ 18446744073709551615; omega)) ?_
    refine norm_shr q (2 ^ q) (show (0 : Int) ≤ ((q : Nat) : Int) by omega) (by show min ((q : Nat) : Int).toNat 64 = _; omega) rfl ?_
    have hlt : cfg / 2 ^ q < 18446744073709551616 := Nat.lt_of_le_of_lt (Nat.div_le_self _ _) (by omega)
    refine norm (m := ((cfg / 2 ^ q % 2 : Nat) : Int)) (and_one _ hlt) ?_
    refine ⟨?_, hE2⟩
    show Value.bool _ = .bool (decide (cfg / 2 ^ q % 2 = 1))
    congr 1
    rcases (show cfg / 2 ^ q % 2 = 0 ∨ cfg / 2 ^ q % 2 = 1 by omega) with h | h <;> rw [h] <;> rfl
  | not a ih =>
    intro i w hE ht hv
    have hi := RepF.lt ht
    obtain ⟨j, hj, hxj, hra⟩ := ht
    refine fn_of_exec (c := { c163 with cuts := [] }) gx_ok Tryz.func163 rfl rfl rfl ?_
    refine index_sls fz_len (h.ext hE) rfl (by omega) (fun p x hx hc => ?_)
    refine loadN_at (vs := x.cells) rfl hc ?_
    refine new (fun w1 hE1 hz1 hB1 => ?_)
    refine storeN_blk0 hB1 rfl (sc rfl) (fun w2 hg2 hz2 hB2 => ?_)
    have hE2 : Ext w w2 := newBox hE1 hB1 hg2
    have hxx : x = ⟨3, 0, (j : Nat), 0⟩ := Option.some.inj (hx.symm.trans hxj)
    subst hxx
    refine load_blk0 hB2 rfl ?_
    refine wif_eqf (show ¬ (3 : Int) = 1 by decide) ?_
    refine wif_eqf (show ¬ (3 : Int) = 2 by decide) ?_
    refine wif_eqt rfl ?_
    refine load_blk hB2 rfl ?_
    refine call (ih j w2 (hE.trans hE2) hra hv) ?_
    rintro _ w3 ⟨rfl, hE3⟩
    exact ⟨rfl, hE2.trans hE3⟩
  | and a b iha ihb =>
    intro i w hE ht hv
    have hi := RepF.lt ht
    obtain ⟨j, l, hj, hl, hxj, hra, hrb⟩ := ht
    refine fn_of_exec (c := { c163 with cuts := [] }) gx_ok Tryz.func163 rfl rfl rfl ?_
    refine index_sls fz_len (h.ext hE) rfl (by omega) (fun p x hx hc => ?_)
    refine loadN_at (vs := x.cells) rfl hc ?_
    refine new (fun w1 hE1 hz1 hB1 => ?_)
    refine storeN_blk0 hB1 rfl (sc rfl) (fun w2 hg2 hz2 hB2 => ?_)
    have hE2 : Ext w w2 := newBox hE1 hB1 hg2
    have hxx : x = ⟨4, 0, (j : Nat), (l : Nat)⟩ := Option.some.inj (hx.symm.trans hxj)
    subst hxx
    refine load_blk0 hB2 rfl ?_
    refine wif_eqf (show ¬ (4 : Int) = 1 by decide) ?_
    refine wif_eqf (show ¬ (4 : Int) = 2 by decide) ?_
    refine wif_eqf (show ¬ (4 : Int) = 3 by decide) ?_
    refine wif_eqt rfl ?_
    refine load_blk hB2 rfl ?_
    refine call (iha j w2 (hE.trans hE2) hra hv.1) ?_
    rintro _ w3 ⟨rfl, hE3⟩
    have hE03 := hE2.trans hE3
    cases hea : evF a (bitE cfg) with
    | true =>
      refine wif_t rfl ?_
      refine load_blk (hB2.ext hE3) rfl ?_
      refine call (ihb l w3 (hE.trans hE03) hrb hv.2) ?_
      rintro _ w4 ⟨rfl, hE4⟩
      exact ⟨by simp [evF, hea], hE03.trans hE4⟩
    | false =>
      refine wif_f rfl ?_
      exact ⟨by simp [evF, hea], hE03⟩
  | or a b iha ihb =>
    intro i w hE ht hv
    have hi := RepF.lt ht
    obtain ⟨j, l, hj, hl, hxj, hra, hrb⟩ := ht
    refine fn_of_exec (c := { c163 with cuts := [] }) gx_ok Tryz.func163 rfl rfl rfl ?_
    refine index_sls fz_len (h.ext hE) rfl (by omega) (fun p x hx hc => ?_)
    refine loadN_at (vs := x.cells) rfl hc ?_
    refine new (fun w1 hE1 hz1 hB1 => ?_)
    refine storeN_blk0 hB1 rfl (sc rfl) (fun w2 hg2 hz2 hB2 => ?_)
    have hE2 : Ext w w2 := newBox hE1 hB1 hg2
    have hxx : x = ⟨5, 0, (j : Nat), (l : Nat)⟩ := Option.some.inj (hx.symm.trans hxj)
    subst hxx
    refine load_blk0 hB2 rfl ?_
    refine wif_eqf (show ¬ (5 : Int) = 1 by decide) ?_
    refine wif_eqf (show ¬ (5 : Int) = 2 by decide) ?_
    refine wif_eqf (show ¬ (5 : Int) = 3 by decide) ?_
    refine wif_eqf (show ¬ (5 : Int) = 4 by decide) ?_
    refine wif_eqt rfl ?_
    refine load_blk hB2 rfl ?_
    refine call (iha j w2 (hE.trans hE2) hra hv.1) ?_
    rintro _ w3 ⟨rfl, hE3⟩
    have hE03 := hE2.trans hE3
    cases hea : evF a (bitE cfg) with
    | true =>
      refine wif_t rfl ?_
      exact ⟨by simp [evF, hea], hE03⟩
    | false =>
      refine wif_f rfl ?_
      refine load_blk (hB2.ext hE3) rfl ?_
      refine call (ihb l w3 (hE.trans hE03) hrb hv.2) ?_
      rintro _ w4 ⟨rfl, hE4⟩
      exact ⟨by simp [evF, hea], hE03.trans hE4⟩

theorem FV.vars64 {f : List Fz} (h : FV f) : varsOk 64 f := fun x hx ho => by
  obtain ⟨i, hi, e⟩ := List.mem_iff_getElem.1 hx
  have := (h.2.2.1 i x (by rw [← e]; exact List.getElem?_eq_getElem hi)).2.1
  rw [if_pos ho] at this
  exact this.2
theorem rholds_fn (F : Option Addr) (n cF : Nat) (f : List Fz) (cfg : Nat) (hcf : cfg ≤ 18446744073709551615) (w : World) (h : SF w F n cF f) :
    Fn Tryz.prog 133 [.slice F n cF, .int .u64 cfg] w (fun v w' => v = .bool (holdsP f cfg) ∧ Ext w w') := by
  have hn := h.2
  refine fn_of_exec (c := { c133 with cuts := [] }) gx_ok Tryz.func133 rfl rfl rfl ?_
  refine call (rcheck_fn F n cF f w h) ?_
  rintro _ w2 ⟨rfl, hE2⟩
  by_cases hv : FV f
  · have hv0 := hv.2.1
    have hvl := hv.1
    refine wif_eqt (chkF_ok hv) ?_
    refine norm_i64_to ((n - 1 : Nat) : Int) (by omega) (by omega) ?_
    refine call (value_fn w2 F n cF f cfg hcf (h.ext hE2) (treeOf f) (n - 1) w2 (Ext.refl _) (by rw [← hn]; exact treeOf_rep hv) (varsIn_of hv.vars64 (treeOf_rep hv))) ?_
    rintro _ w3 ⟨rfl, hE3⟩
    exact ⟨by rw [show holdsP f cfg = evF (treeOf f) (bitE cfg) from if_pos hv], hE2.trans hE3⟩
  · refine wif_eqf (by rw [chkF_no hv]; decide) ?_
    exact ⟨by unfold holdsP; rw [if_neg hv], hE2⟩
end
end Go.Proofs.YtedopgkbajhanaaGreatDoor

namespace Go.Proofs.YtedopgkbajhanaaGreatDoor
section
open Go Go.RowKit

theorem pref_take (p s : List Nat) : p.isPrefixOf s = decide (p.length ≤ s.length ∧ s.take p.length = p) := by
  have h := (List.isPrefixOf_iff_prefix (l₁ := p) (l₂ := s)).trans List.prefix_iff_eq_take
  cases hb : p.isPrefixOf s with
  | true =>
    have h1 := h.1 hb
    have h2 := congrArg List.length h1
    rw [List.length_take] at h2
    exact (decide_eq_true ⟨by omega, h1.symm⟩).symm
  | false =>
    refine (decide_eq_false (fun hh => ?_)).symm
    rw [h.2 hh.2.symm] at hb; cases hb
theorem begins_fn (s p : List Nat) (w : World) (h8 : ∀ x ∈ s, x < 256) (hp8 : ∀ x ∈ p, x < 256) :
    Fn Tryz.prog 59 [.string (strOf s), .string (strOf p)] w (fun v w' => v = .bool (p.isPrefixOf s) ∧ w = w') := by
  refine fn_of_exec (c := { c59 with cuts := [] }) gx_ok Tryz.func59 rfl rfl rfl ?_
  have hs := strOf_size s
  have hp := strOf_size p
  rw [pref_take]
  refine wif_d (fun c1 => ?_) (fun c1 => ?_)
  · refine need_to (v' := .string (strOf (s.take p.length))) ⟨by omega, by omega, by omega⟩ (by rw [strOf_extract]; simp [hp]) ?_
    refine ⟨?_, rfl⟩
    rw [strOf_eq (fun x hx => h8 x (List.mem_of_mem_take hx)) hp8]
    congr 1
    exact decide_eq_decide.2 ⟨fun h => ⟨by omega, h⟩, fun h => h.2⟩
  · exact ⟨by rw [decide_eq_false (by omega)], rfl⟩

section
variable {nm : List (List Nat)} {F : List Nat} {o : BF}
theorem rholds7_fn (hF : FOk nm F o) (A : Option Addr) (n nc : Nat) (cfg : Nat) (hcf : cfg ≤ 18446744073709551615) (w : World) (h : Sl w 1 A n nc (strsV nm)) (hb : NamesOk nm) (hl : F.length ≤ 1000000000000) (h64 : nm.length ≤ 64) :
    Fn Tryz.prog 100 [.slice A n nc, .string (strOf F), .int .u64 cfg] w (fun v w' => v = .bool (o (bitE cfg)) ∧ Ext w w') := by
  refine fn_of_exec (c := { c100 with cuts := [] }) gx_ok Tryz.func100 rfl rfl rfl ?_
  have hst := hF.st
  unfold setE at hst
  cases hpt : parseT nm F with
  | error e => rw [hpt] at hst; cases hst
  | ok t =>
    rw [hpt] at hst
    simp only [Except.ok.injEq] at hst
    subst hst
    obtain ⟨k1, k2, k3⟩ := parseT_ok hpt
    refine call (rparse_fn nm A n nc F w h hb hF.b8 hl) ?_
    rw [parse_T, hpt]
    rintro _ w2 ⟨G, mg, cG, rfl, hE2, hG⟩
    refine call (rholds_fn G mg cG _ cfg hcf w2 hG) ?_
    rintro _ w3 ⟨rfl, hE3⟩
    have hv : holdsP (postF t 0) cfg = evF t (bitE cfg) := by
      unfold holdsP
      rw [if_pos (post_FV (k2.mono h64) k3), treeOf_post]
    exact ⟨by rw [hv], hE2.trans hE3⟩
theorem opened_fn (hF : FOk nm F o) (on : Bool) (A : Option Addr) (n nc : Nat) (cfg : Nat) (hcf : cfg ≤ 18446744073709551615) (w : World) (h : Sl w 1 A n nc (strsV nm)) (hb : NamesOk nm) (hl : F.length ≤ 1000000000000) (h64 : nm.length ≤ 64) :
    Fn Tryz.prog 60 [.slice A n nc, .string (strOf F), .int .u64 cfg, .bool on] w (fun v w' => v = .int .i64 (if on then (if o (bitE cfg) then 1 else 0) else 3 : Nat) ∧ Ext w w') := by
  refine fn_of_exec (c := { c60 with cuts := [] }) gx_ok Tryz.func60 rfl rfl rfl ?_
  cases on with
  | false => refine wif_t rfl ?_; exact ⟨rfl, Ext.refl _⟩
  | true =>
    refine wif_f rfl ?_
    refine call (rholds7_fn hF A n nc cfg hcf w h hb hl h64) ?_
    rintro _ w2 ⟨rfl, hE2⟩
    cases ho : o (bitE cfg) with
    | true => refine wif_t rfl ?_; exact ⟨rfl, hE2⟩
    | false => refine wif_f rfl ?_; exact ⟨rfl, hE2⟩
theorem next_elif_fn (hF : FOk nm F o) (s : Nat) (hs : s ≤ 100) (A : Option Addr) (n nc : Nat) (cfg : Nat) (hcf : cfg ≤ 18446744073709551615) (w : World) (h : Sl w 1 A n nc (strsV nm)) (hb : NamesOk nm) (hl : F.length ≤ 1000000000000) (h64 : nm.length ≤ 64) :
    Fn Tryz.prog 61 [.slice A n nc, .string (strOf (pElif ++ F)), .int .u64 cfg, .int .i64 s] w (fun v w' => v = .int .i64 (if s = 1 then 2 else if s = 0 ∧ o (bitE cfg) = true then 1 else s : Nat) ∧ Ext w w') := by
  refine fn_of_exec (c := { c61 with cuts := [] }) gx_ok Tryz.func61 rfl rfl rfl ?_
  have hsz := strOf_size (pElif ++ F)
  have hl6 : (pElif ++ F).length = 6 + F.length := by simp [pElif]; omega
  refine wif_eq (fun c1 => ?_) (fun c1 => ?_)
  · exact ⟨by rw [if_pos (by omega)]; rfl, Ext.refl _⟩
  rw [if_neg (by omega)]
  refine wif_eq (fun c2 => ?_) (fun c2 => ?_)
  · have hne : decide (strOf (pElif ++ F) = strOf lElse) = false := by
      rw [strOf_eq (b8_app (by decide) hF.b8) (by decide)]
      simp [pElif, lElse]
    refine wif_f hne ?_
    refine need_to (v' := .string (strOf F)) ⟨by omega, by omega, by omega⟩ (by
      rw [strOf_extract, hsz]
      simp only [Int.toNat_natCast]
      rw [List.take_of_length_le (Nat.le_refl _)]
      rfl) ?_
    refine call (rholds7_fn hF A n nc cfg hcf w h hb hl h64) ?_
    rintro _ w2 ⟨rfl, hE2⟩
    cases ho : o (bitE cfg) with
    | true => refine wif_t rfl ?_; exact ⟨by rw [if_pos ⟨by omega, rfl⟩]; rfl, hE2⟩
    | false => refine wif_f rfl ?_; exact ⟨by rw [if_neg (by rintro ⟨_, h⟩; cases h)], hE2⟩
  · exact ⟨by rw [if_neg (fun hh => c2 (by omega))], Ext.refl _⟩
theorem next_else_fn (s : Nat) (hs : s ≤ 100) (A : Option Addr) (n nc : Nat) (cfg : Nat) (w : World) :
    Fn Tryz.prog 61 [.slice A n nc, .string (strOf lElse), .int .u64 cfg, .int .i64 s] w (fun v w' => v = .int .i64 (if s = 1 then 2 else if s = 0 then 1 else s : Nat) ∧ Ext w w') := by
  refine fn_of_exec (c := { c61 with cuts := [] }) gx_ok Tryz.func61 rfl rfl rfl ?_
  refine wif_eq (fun c1 => ?_) (fun c1 => ?_)
  · exact ⟨by rw [if_pos (by omega)]; rfl, Ext.refl _⟩
  rw [if_neg (by omega)]
  refine wif_eq (fun c2 => ?_) (fun c2 => ?_)
  · refine wif_t (by decide) ?_
    exact ⟨by rw [if_pos (by omega)]; rfl, Ext.refl _⟩
  · exact ⟨by rw [if_neg (fun hh => c2 (by omega))], Ext.refl _⟩
end

theorem txt_no {s : List Nat} (h : dirOf s = .txt) : pIf.isPrefixOf s = false ∧ pInc.isPrefixOf s = false ∧ pElif.isPrefixOf s = false ∧ s ≠ lElse ∧ s ≠ lEnd := by
  unfold dirOf at h
  split at h
  · cases h
  split at h
  · cases h
  split at h
  · cases h
  split at h
  · cases h
  split at h
  · cases h
  rename_i h1 h2 h3 h4 h5
  exact ⟨Bool.eq_false_iff.2 h1, Bool.eq_false_iff.2 h2, Bool.eq_false_iff.2 h3, h4, h5⟩
theorem text_at {text s l : List Nat} {a j : Nat} (h : text.drop a = s ++ 10 :: l) (hj : j < s.length) : text[a + j]? = s[j]? := by
  rw [← List.getElem?_drop, h, List.getElem?_append_left hj]
theorem text_lf {text s l : List Nat} {a : Nat} (h : text.drop a = s ++ 10 :: l) : text[a + s.length]? = some 10 := by
  rw [← List.getElem?_drop, h, List.getElem?_append_right (Nat.le_refl _)]; simp

structure ChS where
  at_ : Nat
  out : List Nat
  st : List Nat
  A : Option Addr
  c : Nat
  l : List Mn
  fl : List Bool
structure ChI (w0 : World) (base : Nat) (nm : List (List Nat)) (ic : Bool) (D : Nat) (ee : Nat → Bool) (oth text tot : List Nat) (s : ChS) (w : World) : Prop where
  e : Ext w0 w
  ow : Own w base 3 1 s.A s.st.length s.c (ixV s.st.reverse)
  sl : s.st.length ≤ D
  s3 : ∀ x ∈ s.st, x ≤ 3
  dr : text.drop s.at_ = unl (s.l.map mnT)
  al : s.at_ ≤ text.length
  wf : wfM nm ic D s.fl s.l
  fl : s.fl.length = s.st.length
  rs : s.out ++ chM ee oth s.l s.st = tot
  ol : s.out.length ≤ s.at_ * (oth.length + 1)
theorem ixV_rev_last {x : Nat} {st : List Nat} : (ixV (x :: st).reverse)[st.length]? = some (.int .i64 (x : Nat)) := by
  unfold ixV
  rw [List.reverse_cons, List.map_append, List.getElem?_append_right (by simp)]
  simp
theorem ixV_rev_set {x y : Nat} {st : List Nat} : (ixV (x :: st).reverse).set st.length (.int .i64 (y : Nat)) = ixV (y :: st).reverse := by
  unfold ixV
  rw [List.reverse_cons, List.reverse_cons, List.map_append, List.map_append, List.set_append_right _ _ (by simp)]
  simp
theorem ixV_rev_take {x : Nat} {st : List Nat} : (ixV (x :: st).reverse).take (st.length * 1) = ixV st.reverse := by
  unfold ixV
  rw [Nat.mul_one, List.reverse_cons, List.map_append, List.take_append_of_le_length (by simp), List.take_of_length_le (by simp)]
end
end Go.Proofs.YtedopgkbajhanaaGreatDoor

namespace Go.Proofs.YtedopgkbajhanaaGreatDoor
section
open Go Go.RowKit

theorem ChI.step {w0 w w' : World} {base : Nat} {nm : List (List Nat)} {ic : Bool} {D : Nat} {e : Nat → Bool} {oth text tot : List Nat} {s : ChS} (h : ChI w0 base nm ic D e oth text tot s w) {m : Mn} {l : List Mn} (hl : s.l = m :: l) {at2 : Nat} (ha : at2 = s.at_ + (mnT m).length + 1) {st' : List Nat} {fl' : List Bool} {A' : Option Addr} {c' : Nat} {o' : List Nat} (hE : Ext w0 w') (how : Own w' base 3 1 A' st'.length c' (ixV st'.reverse)) (hsl : st'.length ≤ D) (h3 : ∀ x ∈ st', x ≤ 3)
    (hw : wfM nm ic D fl' l) (hfl : fl'.length = st'.length) (hrs : s.out ++ chM e oth (m :: l) s.st = o' ++ chM e oth l st') (hol : o'.length ≤ s.out.length + (mnT m).length + 1 ∨ o'.length ≤ s.out.length + oth.length) : ChI w0 base nm ic D e oth text tot ⟨at2, o', st', A', c', l, fl'⟩ w' := by
  have hdr := h.dr
  rw [hl, List.map_cons, unl_cons] at hdr
  have hle : text.length - s.at_ = (mnT m).length + 1 + (unl (l.map mnT)).length := by
    have := congrArg List.length hdr
    simp only [List.length_drop, List.length_append, List.length_cons] at this
    omega
  subst ha
  have e1 : s.at_ + (mnT m).length + 1 = s.at_ + ((mnT m).length + 1) := by omega
  refine ⟨hE, how, hsl, h3, ?_, by show s.at_ + (mnT m).length + 1 ≤ text.length; have := h.al; omega, hw, hfl, by rw [← h.rs, hl]; exact hrs.symm, ?_⟩
  · show text.drop (s.at_ + (mnT m).length + 1) = _
    rw [e1, ← List.drop_drop, hdr, ← List.drop_drop, List.drop_left' rfl]; rfl
  · have := h.ol
    show o'.length ≤ (s.at_ + (mnT m).length + 1) * (oth.length + 1)
    rw [e1, Nat.add_mul]
    have p1 : (mnT m).length + 1 ≤ ((mnT m).length + 1) * (oth.length + 1) := Nat.le_mul_of_pos_right _ (by first | omega | (simp only; omega))
    have p2 : oth.length + 1 ≤ ((mnT m).length + 1) * (oth.length + 1) := Nat.le_mul_of_pos_left _ (by first | omega | (simp only; omega))
    rcases hol with hol | hol <;> omega
theorem pre_self (p F : List Nat) : p.isPrefixOf (p ++ F) = true := List.isPrefixOf_iff_prefix.2 (List.prefix_append p F)
theorem wf_tail {nm : List (List Nat)} {ic : Bool} {D : Nat} {fl : List Bool} {l : List Mn} {s : List Nat} (h : wfM nm ic D fl (.tx s :: l)) : TxOk s ∧ wfM nm ic D fl l := by
  cases fl with
  | nil => exact h
  | cons b fl => cases b <;> exact h
theorem wf_itail {nm : List (List Nat)} {ic : Bool} {D : Nat} {fl : List Bool} {l : List Mn} (h : wfM nm ic D fl (.inc :: l)) : ic = true ∧ wfM nm ic D fl l := by
  cases fl with
  | nil => exact h
  | cons b fl => cases b <;> exact h
theorem wf_ftail {nm : List (List Nat)} {ic : Bool} {D : Nat} {fl : List Bool} {l : List Mn} {F : List Nat} {o : BF} (h : wfM nm ic D fl (.ifd F o :: l)) : FOk nm F o ∧ fl.length < D ∧ wfM nm ic D (false :: fl) l := by
  cases fl with
  | nil => exact h
  | cons b fl => cases b <;> exact h

set_option maxHeartbeats 6400000 in
theorem chosen_fn {nm : List (List Nat)} (hnb : NamesOk nm) (h64 : nm.length ≤ 64) (A : Option Addr) (n nc : Nat) (FA : Option Addr) (nf cf : Nat) (fs : List (List Nat × List Nat)) (i : Nat) (x : List Nat × List Nat) (hx : fs[i]? = some x) {ic : Bool} {D : Nat} (hD : D ≤ 100) {l0 : List Mn} (htx : x.2 = unl (l0.map mnT)) (hlen : x.2.length ≤ 1000000) (hw0 : wfM nm ic D [] l0) (cfg : Nat) (hcf : cfg ≤ 18446744073709551615) {oth : List Nat} (hoth : oth.length ≤ 1000000) (w0 : World) (hN : Sl w0 1 A n nc (strsV nm)) (hF : SlS fileC 2 w0 FA nf cf fs)
    (hrec : ic = true → ∀ w', Ext w0 w' → Fn Tryz.prog 32 [.slice A n nc, .slice FA nf cf, .int .i64 1, .int .u64 cfg] w' (fun v w'' => v = .string (strOf oth) ∧ Ext w' w'')) (w : World) (hE : Ext w0 w) :
    Fn Tryz.prog 32 [.slice A n nc, .slice FA nf cf, .int .i64 i, .int .u64 cfg] w (fun v w' => v = .string (strOf (chM (bitE cfg) oth l0 [])) ∧ Ext w w') := by
  have hfs := hF.2
  have hnf := hF.1.le
  have hil := (List.getElem?_eq_some_iff.1 hx).1
  have hall := wf_all hw0
  have ht8 : ∀ b ∈ x.2, b < 256 := by rw [htx]; exact mns_b8 hall
  generalize htext : x.2 = text at *
  refine fn_of_exec (c := { c32 with cuts := [] }) gx_ok Tryz.func32 rfl rfl rfl ?_
  refine index_sls file_len (hF.ext hE) rfl (by first | omega | (simp only; omega)) (fun p x' hx' hcl => ?_)
  obtain rfl : x = x' := Option.some.inj (hx.symm.trans hx')
  refine load (hcl 1 _ rfl) ?_
  rw [htext]
  refine at_build0 gx_ok rfl rfl rfl rfl rfl rfl ?_
  intro w1 hE1 hz1 hB1
  generalize htot : chM (bitE cfg) oth l0 [] = tot
  have hts := strOf_size text
  refine loop gx_ok [12, 11, 9] (fun s : ChS => [.int .i64 s.at_, .slice s.A s.st.length s.c, .string (strOf s.out)]) (fun s w' => ChI w w.heap.size nm ic D (bitE cfg) oth text tot s w') (fun s _ => text.length - s.at_) ⟨0, [], [], some ⟨w.heap.size, 0, none⟩, 0, l0, []⟩ rfl ⟨hE1, Own.empty hB1 (Nat.le_refl _), Nat.zero_le _, (fun x hx => by cases hx), (by rw [List.drop_zero]; exact htx), Nat.zero_le _, hw0, rfl, htot, Nat.zero_le _⟩ ?_
  rintro ⟨at_, out, st, A', c', ls, fl⟩ w2 hI
  have hsl := hI.sl
  have hs3 := hI.s3
  have hal := hI.al
  have hdr := hI.dr
  have hfl := hI.fl
  have hwf := hI.wf
  have how := hI.ow
  have hol := hI.ol
  simp only at hsl hs3 hal hdr hfl hwf how hol
  have hol2 : out.length ≤ 1000000 * 1000001 := Nat.le_trans hol (Nat.mul_le_mul (by first | omega | (simp only; omega)) (by first | omega | (simp only; omega)))
  have hE02 := hI.e
  have so := strOf_size out
  refine wif_d (fun c1 => ?_) (fun c1 => ?_)
  rotate_left
  · simp only at c1
    have hrs := hI.rs
    have hls : ls = [] := by
      rw [List.drop_eq_nil_of_le (by first | omega | (simp only; omega))] at hdr
      cases ls with
      | nil => rfl
      | cons m ls => rw [List.map_cons, unl_cons] at hdr; simp at hdr
    subst hls
    simp only at hrs
    rw [chM, List.append_nil] at hrs
    exact ⟨by rw [hrs], hE02⟩
  simp only at c1
  cases ls with
  | nil =>
    have := congrArg List.length hdr
    rw [List.length_drop, List.map_nil] at this
    have h0 : (unl []).length = 0 := rfl
    omega
  | cons m ls =>
  rw [List.map_cons, unl_cons] at hdr
  generalize hs : mnT m = s at hdr
  have hle : text.length - at_ = s.length + 1 + (unl (ls.map mnT)).length := by
    have := congrArg List.length hdr
    simp only [List.length_drop, List.length_append, List.length_cons] at this
    omega
  have hmok : MnOk nm m := wf_all hwf m (by simp)
  obtain ⟨hnl, h8⟩ := mn_line hmok
  rw [hs] at hnl h8
  refine loop gx_ok [13] (fun e : Nat => [.int .i64 e]) (fun e w' => w2 = w' ∧ at_ ≤ e ∧ e ≤ at_ + s.length) (fun e _ => at_ + s.length - e) at_ rfl ⟨rfl, Nat.le_refl _, by omega⟩ ?_
  rintro en _ ⟨rfl, he1, he2⟩
  refine sindex' (j := en) (by first | omega | (simp only; omega)) (fun b hb hb2 => ?_)
  rw [bytesOf_strOf ht8] at hb
  refine wif_ne (fun d1 => ?_) (fun d1 => ?_)
  · have hne : en ≠ at_ + s.length := fun e => by
      rw [e, text_lf hdr] at hb
      cases hb; exact d1 rfl
    refine norm_i64_to ((en + 1 : Nat) : Int) (by show ((en : Nat) : Int) + 1 = _; omega) (by first | omega | (simp only; omega)) ?_
    exact ⟨en + 1, rfl, ⟨rfl, by omega, by omega⟩, by show at_ + s.length - (en + 1) < at_ + s.length - en; omega⟩
  have hen : en = at_ + s.length := by
    by_cases h : en < at_ + s.length
    · have h2 := text_at hdr (j := en - at_) (by first | omega | (simp only; omega))
      rw [show at_ + (en - at_) = en by omega, hb] at h2
      have := List.mem_of_getElem? h2.symm
      exact absurd (by rw [show b = 10 by omega] at this; exact this) hnl
    · omega
  have hcut : (text.take (at_ + s.length)).drop at_ = s := by
    rw [List.drop_take, hdr, show at_ + s.length - at_ = s.length by omega, List.take_left' rfl]
  have hcut2 : (text.take (at_ + s.length + 1)).drop at_ = s ++ [10] := by
    rw [List.drop_take, hdr, show at_ + s.length + 1 - at_ = s.length + 1 by omega, show s ++ 10 :: unl (ls.map mnT) = (s ++ [10]) ++ unl (ls.map mnT) by simp, List.take_left' (by simp)]
  subst hen
  refine need_to (v' := .string (strOf s)) ⟨(by first | omega | (simp only; omega)), (by first | omega | (simp only; omega)), (by first | omega | (simp only; omega))⟩ (by rw [strOf_extract]; simp only [Int.toNat_natCast]; rw [hcut]) ?_
  have bg : ∀ p : List Nat, (∀ b ∈ p, b < 256) → ∀ w', Fn Tryz.prog 59 [.string (strOf s), .string (strOf p)] w' (fun v w'' => v = .bool (p.isPrefixOf s) ∧ w' = w'') := fun p hp w' => begins_fn s p w' h8 hp
  have dec : ∀ p : List Nat, (∀ b ∈ p, b < 256) → decide (strOf s = strOf p) = decide (s = p) := fun p hp => strOf_eq h8 hp
  cases m with
  | ifd F o =>
    obtain ⟨w1', w2', w3'⟩ := wf_ftail hwf
    have hFl : s.length = 4 + F.length := by rw [← hs]; simp [mnT, pIf]; omega
    cases st with
    | nil =>
      refine wif_eqt rfl ?_
      refine call (bg pIf (by decide) w2) ?_
      rintro _ _ ⟨rfl, rfl⟩
      refine wif_t (by rw [← hs]; exact pre_self _ _) ?_
      refine need_to (v' := .string (strOf F)) ⟨(by first | omega | (simp only; omega)), (by have := strOf_size s; have := hFl; omega), (by have := strOf_size s; omega)⟩ (by
        rw [strOf_extract, strOf_size, ← hs]
        simp only [Int.toNat_natCast]
        rw [List.take_of_length_le (Nat.le_refl _)]
        rfl) ?_
      refine call (opened_fn w1' true A n nc cfg hcf w2 ((hN.ext hE).ext hE02) hnb (by have := hFl; omega) h64) ?_
      rintro _ w3 ⟨rfl, hE3⟩
      generalize hy : (if true then (if o (bitE cfg) then 1 else 0) else 3 : Nat) = y
      have hy3 : y ≤ 3 := by rw [← hy]; split; split; all_goals decide
      refine at_buildN gx_ok [[Value.int .i64 ((y : Nat) : Int)]] rfl rfl rfl rfl rfl ⟨rfl, rfl, ⟨⟩⟩ rfl (fun cs hh => by simp only [List.mem_singleton] at hh; subst hh; rfl) rfl (by decide) (by decide) ?_
      intro w4 hE4 hz4 hB4
      have hs4 : Sl w4 1 (some ⟨w3.heap.size, 0, none⟩) 1 1 [Value.int .i64 ((y : Nat) : Int)] := Sl.own (sz := 1) (n := 1) hB4 (Nat.le_refl _) (by decide) (by simp)
      have hE24 := hE3.trans hE4
      refine at_app (n := ([]).length) gx_ok rfl rfl rfl rfl rfl (by decide) rfl rfl ⟨_, rfl⟩ rfl rfl (how.ext hE24) hs4 (by simp [scalar]) (by unfold maxLen; omega) (by show (_ + 1) * 8 ≤ _; omega) (by have := hE02.size; have := hE24.size; omega) ?_
      intro A2 c2 w5 hm5 how5 hmv5

      refine norm_i64_to ((at_ + s.length + 1 : Nat) : Int) (by show ((at_ + s.length : Nat) : Int) + 1 = _; omega) (by first | omega | (simp only; omega)) ?_
      exact ⟨⟨at_ + s.length + 1, out, y :: [], A2, c2, ls, false :: fl⟩, rfl, hI.step rfl (by rw [hs]) (hm5.ext (hI.e.trans hE24) (fun i hi => by have := (how.ext hE24).rows i hi; omega)) (by rw [List.reverse_cons]; simpa [ixV] using how5) (by simp only [List.length_cons] at hfl ⊢; omega) (fun z hz => by rcases List.mem_cons.1 hz with rfl | hz; exact hy3; exact hs3 z hz) w3' (by simp only [List.length_cons] at hfl ⊢; omega) (by rw [chM, ← hy]; try rfl) (by rw [hs]; exact .inl (by first | omega | (simp only; omega))), by show text.length - (at_ + s.length + 1) < text.length - at_; omega⟩
    | cons z st =>
      refine wif_eqf (by simp only [List.length_cons]; omega) ?_
      refine norm_i64_to ((st.length : Nat) : Int) (by simp only [List.length_cons]; omega) (by simp only [List.length_cons] at hsl; omega) ?_
      obtain ⟨oa, hoa⟩ := own_some how (by simp)
      rw [hoa]
      refine index (j := st.length) (by simp) ?_
      refine load (own_cell (by rw [← hoa]; exact how) ixV_rev_last) ?_
      have hon : (((z : Nat) : Int) == 1) = onS (z :: st) := by
        show _ = decide (z = 1)
        by_cases h : z = 1
        · subst h; rfl
        · rw [decide_eq_false h]; exact beq_false_of_ne (by first | omega | (simp only; omega))
      rw [← hoa]
      refine call (bg pIf (by decide) w2) ?_
      rintro _ _ ⟨rfl, rfl⟩
      refine wif_t (by rw [← hs]; exact pre_self _ _) ?_
      refine need_to (v' := .string (strOf F)) ⟨(by first | omega | (simp only; omega)), (by have := strOf_size s; have := hFl; omega), (by have := strOf_size s; omega)⟩ (by
        rw [strOf_extract, strOf_size, ← hs]
        simp only [Int.toNat_natCast]
        rw [List.take_of_length_le (Nat.le_refl _)]
        rfl) ?_
      refine call (opened_fn w1' (((z : Nat) : Int) == 1) A n nc cfg hcf w2 ((hN.ext hE).ext hE02) hnb (by have := hFl; omega) h64) ?_
      rintro _ w3 ⟨rfl, hE3⟩
      generalize hy : (if (((z : Nat) : Int) == 1) = true then (if o (bitE cfg) then 1 else 0) else 3 : Nat) = y
      rw [hon] at hy
      have hy3 : y ≤ 3 := by rw [← hy]; split; split; all_goals decide
      refine at_buildN gx_ok [[Value.int .i64 ((y : Nat) : Int)]] rfl rfl rfl rfl rfl ⟨rfl, rfl, ⟨⟩⟩ rfl (fun cs hh => by simp only [List.mem_singleton] at hh; subst hh; rfl) rfl (by decide) (by decide) ?_
      intro w4 hE4 hz4 hB4
      have hs4 : Sl w4 1 (some ⟨w3.heap.size, 0, none⟩) 1 1 [Value.int .i64 ((y : Nat) : Int)] := Sl.own (sz := 1) (n := 1) hB4 (Nat.le_refl _) (by decide) (by simp)
      have hE24 := hE3.trans hE4
      refine at_app (n := (z :: st).length) gx_ok rfl rfl rfl rfl rfl (by decide) rfl rfl ⟨_, rfl⟩ rfl rfl (how.ext hE24) hs4 (by simp [scalar]) (by unfold maxLen; omega) (by show (_ + 1) * 8 ≤ _; omega) (by have := hE02.size; have := hE24.size; omega) ?_
      intro A2 c2 w5 hm5 how5 hmv5

      refine norm_i64_to ((at_ + s.length + 1 : Nat) : Int) (by show ((at_ + s.length : Nat) : Int) + 1 = _; omega) (by first | omega | (simp only; omega)) ?_
      exact ⟨⟨at_ + s.length + 1, out, y :: z :: st, A2, c2, ls, false :: fl⟩, rfl, hI.step rfl (by rw [hs]) (hm5.ext (hI.e.trans hE24) (fun i hi => by have := (how.ext hE24).rows i hi; omega)) (by rw [List.reverse_cons]; simpa [ixV] using how5) (by simp only [List.length_cons] at hfl ⊢; omega) (fun z hz => by rcases List.mem_cons.1 hz with rfl | hz; exact hy3; exact hs3 z hz) w3' (by simp only [List.length_cons] at hfl ⊢; omega) (by rw [chM, ← hy]; try rfl) (by rw [hs]; exact .inl (by first | omega | (simp only; omega))), by show text.length - (at_ + s.length + 1) < text.length - at_; omega⟩
  | elif F o =>
    cases fl with
    | nil => exact hwf.elim
    | cons f fl =>
      cases f with
      | true => exact hwf.elim
      | false =>
        obtain ⟨w1', w2'⟩ : FOk nm F o ∧ wfM nm ic D (false :: fl) ls := hwf
        have hFl : s.length = 6 + F.length := by rw [← hs]; simp [mnT, pElif]; omega
        cases st with
        | nil => cases hfl
        | cons z st =>
          refine wif_eqf (by simp only [List.length_cons]; omega) ?_
          refine norm_i64_to ((st.length : Nat) : Int) (by simp only [List.length_cons]; omega) (by simp only [List.length_cons] at hsl; omega) ?_
          obtain ⟨oa, hoa⟩ := own_some how (by simp)
          rw [hoa]
          refine index (j := st.length) (by simp) ?_
          refine load (own_cell (by rw [← hoa]; exact how) ixV_rev_last) ?_
          refine call (bg pIf (by decide) w2) ?_
          rintro _ _ ⟨rfl, rfl⟩
          refine wif_f (by rw [← hs]; simp [mnT, pIf, pElif, List.isPrefixOf]) ?_
          refine call (bg pElif (by decide) w2) ?_
          rintro _ _ ⟨rfl, rfl⟩
          refine wif_t (by rw [← hs]; exact pre_self _ _) ?_

          refine norm_i64_to ((st.length : Nat) : Int) (by simp only [List.length_cons]; omega) (by simp only [List.length_cons] at hsl; omega) ?_
          refine norm_i64_to ((st.length : Nat) : Int) (by simp only [List.length_cons]; omega) (by simp only [List.length_cons] at hsl; omega) ?_
          refine index (j := st.length) (by simp) ?_
          refine load (own_cell (by rw [← hoa]; exact how) ixV_rev_last) ?_
          refine call (by rw [← hs]; exact next_elif_fn w1' z (by have := hs3 z (by simp); omega) A n nc cfg hcf w2 ((hN.ext hE).ext hE02) hnb (by first | omega | (simp only; omega)) h64) ?_
          rintro _ w3 ⟨rfl, hE3⟩
          generalize hy : (if z = 1 then 2 else if z = 0 ∧ o (bitE cfg) = true then 1 else z : Nat) = y
          have hy3 : y ≤ 3 := by
            have := hs3 z (by simp)
            rw [← hy]; split
            · decide
            split
            · decide
            · exact this
          refine index (j := st.length) (by simp) ?_
          have how3 := how.ext hE3
          rw [hoa] at how3
          refine store_own how3 (by simp) (fun w4 hg4 how4 => ?_)
          rw [ixV_rev_set] at how4
          have hm4 := Mod.of_row hg4

          refine norm_i64_to ((at_ + s.length + 1 : Nat) : Int) (by show ((at_ + s.length : Nat) : Int) + 1 = _; omega) (by first | omega | (simp only; omega)) ?_
          exact ⟨⟨at_ + s.length + 1, out, y :: st, some oa, c', ls, false :: fl⟩, rfl, hI.step rfl (by rw [hs]) (hm4.ext (hI.e.trans hE3) (fun i hi => by have := how3.rows i hi; omega)) how4 hsl (fun q hq => by rcases List.mem_cons.1 hq with rfl | hq; exact hy3; exact hs3 q (by simp [hq])) w2' hfl (by rw [chM]; simp only; rw [hy]) (by rw [hs]; exact .inl (by first | omega | (simp only; omega))), by show text.length - (at_ + s.length + 1) < text.length - at_; omega⟩
  | els =>
    cases fl with
    | nil => exact hwf.elim
    | cons f fl =>
      cases f with
      | true => exact hwf.elim
      | false =>
        have w2' : wfM nm ic D (true :: fl) ls := hwf
        cases st with
        | nil => cases hfl
        | cons z st =>
          refine wif_eqf (by simp only [List.length_cons]; omega) ?_
          refine norm_i64_to ((st.length : Nat) : Int) (by simp only [List.length_cons]; omega) (by simp only [List.length_cons] at hsl; omega) ?_
          obtain ⟨oa, hoa⟩ := own_some how (by simp)
          rw [hoa]
          refine index (j := st.length) (by simp) ?_
          refine load (own_cell (by rw [← hoa]; exact how) ixV_rev_last) ?_
          refine call (bg pIf (by decide) w2) ?_
          rintro _ _ ⟨rfl, rfl⟩
          refine wif_f (by rw [← hs]; rfl) ?_
          refine call (bg pElif (by decide) w2) ?_
          rintro _ _ ⟨rfl, rfl⟩
          refine wif_f (by rw [← hs]; rfl) ?_
          refine wif_t (by rw [← hs]; decide) ?_

          refine norm_i64_to ((st.length : Nat) : Int) (by simp only [List.length_cons]; omega) (by simp only [List.length_cons] at hsl; omega) ?_
          refine norm_i64_to ((st.length : Nat) : Int) (by simp only [List.length_cons]; omega) (by simp only [List.length_cons] at hsl; omega) ?_
          refine index (j := st.length) (by simp) ?_
          refine load (own_cell (by rw [← hoa]; exact how) ixV_rev_last) ?_
          refine call (by rw [← hs]; exact next_else_fn z (by have := hs3 z (by simp); omega) A n nc cfg w2) ?_
          rintro _ w3 ⟨rfl, hE3⟩
          generalize hy : (if z = 1 then 2 else if z = 0 then 1 else z : Nat) = y
          have hy3 : y ≤ 3 := by
            have := hs3 z (by simp)
            rw [← hy]; split
            · decide
            split
            · decide
            · exact this
          refine index (j := st.length) (by simp) ?_
          have how3 := how.ext hE3
          rw [hoa] at how3
          refine store_own how3 (by simp) (fun w4 hg4 how4 => ?_)
          rw [ixV_rev_set] at how4
          have hm4 := Mod.of_row hg4

          refine norm_i64_to ((at_ + s.length + 1 : Nat) : Int) (by show ((at_ + s.length : Nat) : Int) + 1 = _; omega) (by first | omega | (simp only; omega)) ?_
          exact ⟨⟨at_ + s.length + 1, out, y :: st, some oa, c', ls, true :: fl⟩, rfl, hI.step rfl (by rw [hs]) (hm4.ext (hI.e.trans hE3) (fun i hi => by have := how3.rows i hi; omega)) how4 hsl (fun q hq => by rcases List.mem_cons.1 hq with rfl | hq; exact hy3; exact hs3 q (by simp [hq])) w2' hfl (by rw [chM]; simp only; rw [hy]) (by rw [hs]; exact .inl (by first | omega | (simp only; omega))), by show text.length - (at_ + s.length + 1) < text.length - at_; omega⟩
  | en =>
    cases fl with
    | nil => exact hwf.elim
    | cons f fl =>
      have w2' : wfM nm ic D fl ls := by cases f <;> exact hwf
      cases st with
      | nil => cases hfl
      | cons z st =>
        refine wif_eqf (by simp only [List.length_cons]; omega) ?_
        refine norm_i64_to ((st.length : Nat) : Int) (by simp only [List.length_cons]; omega) (by simp only [List.length_cons] at hsl; omega) ?_
        obtain ⟨oa, hoa⟩ := own_some how (by simp)
        rw [hoa]
        refine index (j := st.length) (by simp) ?_
        refine load (own_cell (by rw [← hoa]; exact how) ixV_rev_last) ?_
        refine call (bg pIf (by decide) w2) ?_
        rintro _ _ ⟨rfl, rfl⟩
        refine wif_f (by rw [← hs]; rfl) ?_
        refine call (bg pElif (by decide) w2) ?_
        rintro _ _ ⟨rfl, rfl⟩
        refine wif_f (by rw [← hs]; rfl) ?_
        refine wif_f (by rw [← hs]; decide) ?_
        refine wif_t (by rw [← hs]; decide) ?_
        refine norm_i64_to ((st.length : Nat) : Int) (by simp only [List.length_cons]; omega) (by simp only [List.length_cons] at hsl; omega) ?_
        have hle2 := how.sl.le
        simp only [List.length_cons] at hle2
        refine at_slice_h (h := st.length) gx_ok rfl rfl rfl rfl rfl rfl (by first | omega | (simp only; omega)) ?_
        have how2 := how.take (k := st.length) (by simp)
        rw [ixV_rev_take, hoa] at how2

        refine norm_i64_to ((at_ + s.length + 1 : Nat) : Int) (by show ((at_ + s.length : Nat) : Int) + 1 = _; omega) (by first | omega | (simp only; omega)) ?_
        exact ⟨⟨at_ + s.length + 1, out, st, some oa, c', ls, fl⟩, rfl, hI.step rfl (by rw [hs]) hI.e how2 (by simp only [List.length_cons] at hsl; omega) (fun q hq => hs3 q (by simp [hq])) w2' (by simpa using hfl) (by rw [chM]) (by rw [hs]; exact .inl (by first | omega | (simp only; omega))), by show text.length - (at_ + s.length + 1) < text.length - at_; omega⟩
  | tx t =>
    obtain ⟨w1', w2'⟩ := wf_tail hwf
    have hts2 : t = s := hs
    obtain ⟨q1, q2, q3, q4, q5⟩ := txt_no w1'.dr
    rw [hts2] at q1 q2 q3 q4 q5
    cases st with
    | nil =>
      have hon1 : onS [] = true := rfl
      refine wif_eqt rfl ?_
      refine call (bg pIf (by decide) w2) ?_
      rintro _ _ ⟨rfl, rfl⟩
      refine wif_f (by exact q1) ?_
      refine call (bg pElif (by decide) w2) ?_
      rintro _ _ ⟨rfl, rfl⟩
      refine wif_f (by exact q3) ?_
      refine wif_f (by show decide (strOf s = strOf lElse) = false; rw [dec lElse (by decide)]; exact decide_eq_false q4) ?_
      refine wif_f (by show decide (strOf s = strOf lEnd) = false; rw [dec lEnd (by decide)]; exact decide_eq_false q5) ?_
      refine call (bg pInc (by decide) w2) ?_
      rintro _ _ ⟨rfl, rfl⟩
      refine wif_f (by exact q2) ?_

      refine norm_i64_to ((at_ + s.length + 1 : Nat) : Int) (by show ((at_ + s.length : Nat) : Int) + 1 = _; omega) (by first | omega | (simp only; omega)) ?_
      refine need_to (v' := .string (strOf (s ++ [10]))) ⟨(by first | omega | (simp only; omega)), (by first | omega | (simp only; omega)), (by first | omega | (simp only; omega))⟩ (by rw [strOf_extract]; simp only [Int.toNat_natCast]; rw [hcut2]) ?_
      refine need_to (v' := .string (strOf (out ++ (s ++ [10])))) (by rw [so, strOf_size, List.length_append]; show _ + (_ + 1) ≤ maxLen; unfold maxLen; omega) (congrArg Value.string (strOf_append _ _)) ?_

      refine norm_i64_to ((at_ + s.length + 1 : Nat) : Int) (by show ((at_ + s.length : Nat) : Int) + 1 = _; omega) (by first | omega | (simp only; omega)) ?_
      exact ⟨⟨at_ + s.length + 1, out ++ (s ++ [10]), [], A', c', ls, fl⟩, rfl, hI.step rfl (by rw [hs]) hI.e how hsl hs3 w2' hfl (by rw [chM, if_pos hon1, hts2]; exact (List.append_assoc _ _ _).symm) (.inl (by rw [hs]; simp only [List.length_append, List.length_singleton]; first | omega | (simp only; omega))), by show text.length - (at_ + s.length + 1) < text.length - at_; omega⟩
    | cons z st =>
      refine wif_eqf (by simp only [List.length_cons]; omega) ?_
      refine norm_i64_to ((st.length : Nat) : Int) (by simp only [List.length_cons]; omega) (by simp only [List.length_cons] at hsl; omega) ?_
      obtain ⟨oa, hoa⟩ := own_some how (by simp)
      rw [hoa]
      refine index (j := st.length) (by simp) ?_
      refine load (own_cell (by rw [← hoa]; exact how) ixV_rev_last) ?_
      refine call (bg pIf (by decide) w2) ?_
      rintro _ _ ⟨rfl, rfl⟩
      refine wif_f (by exact q1) ?_
      refine call (bg pElif (by decide) w2) ?_
      rintro _ _ ⟨rfl, rfl⟩
      refine wif_f (by exact q3) ?_
      refine wif_f (by show decide (strOf s = strOf lElse) = false; rw [dec lElse (by decide)]; exact decide_eq_false q4) ?_
      refine wif_f (by show decide (strOf s = strOf lEnd) = false; rw [dec lEnd (by decide)]; exact decide_eq_false q5) ?_
      refine wif_eq (fun on1 => ?_) (fun on1 => ?_)
      · have hon1 : onS (z :: st) = true := decide_eq_true (by first | omega | (simp only; omega))
        refine call (bg pInc (by decide) w2) ?_
        rintro _ _ ⟨rfl, rfl⟩
        refine wif_f (by exact q2) ?_
        refine wif_eqt on1 ?_

        refine norm_i64_to ((at_ + s.length + 1 : Nat) : Int) (by show ((at_ + s.length : Nat) : Int) + 1 = _; omega) (by first | omega | (simp only; omega)) ?_
        refine need_to (v' := .string (strOf (s ++ [10]))) ⟨(by first | omega | (simp only; omega)), (by first | omega | (simp only; omega)), (by first | omega | (simp only; omega))⟩ (by rw [strOf_extract]; simp only [Int.toNat_natCast]; rw [hcut2]) ?_
        refine need_to (v' := .string (strOf (out ++ (s ++ [10])))) (by rw [so, strOf_size, List.length_append]; show _ + (_ + 1) ≤ maxLen; unfold maxLen; omega) (congrArg Value.string (strOf_append _ _)) ?_

        refine norm_i64_to ((at_ + s.length + 1 : Nat) : Int) (by show ((at_ + s.length : Nat) : Int) + 1 = _; omega) (by first | omega | (simp only; omega)) ?_
        exact ⟨⟨at_ + s.length + 1, out ++ (s ++ [10]), z :: st, some oa, c', ls, fl⟩, rfl, hI.step rfl (by rw [hs]) hI.e (by rw [← hoa]; exact how) hsl hs3 w2' hfl (by rw [chM, if_pos hon1, hts2]; exact (List.append_assoc _ _ _).symm) (.inl (by rw [hs]; simp only [List.length_append, List.length_singleton]; first | omega | (simp only; omega))), by show text.length - (at_ + s.length + 1) < text.length - at_; omega⟩
      · have hon1 : onS (z :: st) = false := decide_eq_false (by first | omega | (simp only; omega))
        refine wif_eqf on1 ?_
        refine norm_i64_to ((at_ + s.length + 1 : Nat) : Int) (by show ((at_ + s.length : Nat) : Int) + 1 = _; omega) (by first | omega | (simp only; omega)) ?_
        exact ⟨⟨at_ + s.length + 1, out, z :: st, some oa, c', ls, fl⟩, rfl, hI.step rfl (by rw [hs]) hI.e (by rw [← hoa]; exact how) hsl hs3 w2' hfl (by rw [chM, if_neg (by rw [hon1]; decide), List.nil_append]) (by rw [hs]; exact .inl (by first | omega | (simp only; omega))), by show text.length - (at_ + s.length + 1) < text.length - at_; omega⟩
  | inc =>
    obtain ⟨w1', w2'⟩ := wf_itail hwf
    cases st with
    | nil =>
      have hon1 : onS [] = true := rfl
      refine wif_eqt rfl ?_
      refine call (bg pIf (by decide) w2) ?_
      rintro _ _ ⟨rfl, rfl⟩
      refine wif_f (by rw [← hs]; rfl) ?_
      refine call (bg pElif (by decide) w2) ?_
      rintro _ _ ⟨rfl, rfl⟩
      refine wif_f (by rw [← hs]; rfl) ?_
      refine wif_f (by rw [← hs]; decide) ?_
      refine wif_f (by rw [← hs]; decide) ?_
      refine call (bg pInc (by decide) w2) ?_
      rintro _ _ ⟨rfl, rfl⟩
      refine wif_t (by rw [← hs]; rfl) ?_

      refine call (hrec w1' w2 (hE.trans hE02)) ?_
      rintro _ w3 ⟨rfl, hE3⟩
      refine need_to (v' := .string (strOf (out ++ oth))) (by rw [so, strOf_size]; unfold maxLen; omega) (congrArg Value.string (strOf_append _ _)) ?_

      refine norm_i64_to ((at_ + s.length + 1 : Nat) : Int) (by show ((at_ + s.length : Nat) : Int) + 1 = _; omega) (by first | omega | (simp only; omega)) ?_
      exact ⟨⟨at_ + s.length + 1, out ++ oth, [], A', c', ls, fl⟩, rfl, hI.step rfl (by rw [hs]) (hI.e.trans hE3) (how.ext hE3) hsl hs3 w2' hfl (by rw [chM, if_pos hon1, List.append_assoc]) (.inr (by rw [List.length_append]; first | omega | (simp only; omega))), by show text.length - (at_ + s.length + 1) < text.length - at_; omega⟩
    | cons z st =>
      refine wif_eqf (by simp only [List.length_cons]; omega) ?_
      refine norm_i64_to ((st.length : Nat) : Int) (by simp only [List.length_cons]; omega) (by simp only [List.length_cons] at hsl; omega) ?_
      obtain ⟨oa, hoa⟩ := own_some how (by simp)
      rw [hoa]
      refine index (j := st.length) (by simp) ?_
      refine load (own_cell (by rw [← hoa]; exact how) ixV_rev_last) ?_
      refine call (bg pIf (by decide) w2) ?_
      rintro _ _ ⟨rfl, rfl⟩
      refine wif_f (by rw [← hs]; rfl) ?_
      refine call (bg pElif (by decide) w2) ?_
      rintro _ _ ⟨rfl, rfl⟩
      refine wif_f (by rw [← hs]; rfl) ?_
      refine wif_f (by rw [← hs]; decide) ?_
      refine wif_f (by rw [← hs]; decide) ?_
      refine wif_eq (fun on1 => ?_) (fun on1 => ?_)
      · have hon1 : onS (z :: st) = true := decide_eq_true (by first | omega | (simp only; omega))
        refine call (bg pInc (by decide) w2) ?_
        rintro _ _ ⟨rfl, rfl⟩
        refine wif_t (by rw [← hs]; rfl) ?_

        refine call (hrec w1' w2 (hE.trans hE02)) ?_
        rintro _ w3 ⟨rfl, hE3⟩
        refine need_to (v' := .string (strOf (out ++ oth))) (by rw [so, strOf_size]; unfold maxLen; omega) (congrArg Value.string (strOf_append _ _)) ?_

        refine norm_i64_to ((at_ + s.length + 1 : Nat) : Int) (by show ((at_ + s.length : Nat) : Int) + 1 = _; omega) (by first | omega | (simp only; omega)) ?_
        exact ⟨⟨at_ + s.length + 1, out ++ oth, z :: st, some oa, c', ls, fl⟩, rfl, hI.step rfl (by rw [hs]) (hI.e.trans hE3) (by rw [← hoa]; exact how.ext hE3) hsl hs3 w2' hfl (by rw [chM, if_pos hon1, List.append_assoc]) (.inr (by rw [List.length_append]; first | omega | (simp only; omega))), by show text.length - (at_ + s.length + 1) < text.length - at_; omega⟩
      · have hon1 : onS (z :: st) = false := decide_eq_false (by first | omega | (simp only; omega))
        refine wif_eqf on1 ?_
        refine norm_i64_to ((at_ + s.length + 1 : Nat) : Int) (by show ((at_ + s.length : Nat) : Int) + 1 = _; omega) (by first | omega | (simp only; omega)) ?_
        exact ⟨⟨at_ + s.length + 1, out, z :: st, some oa, c', ls, fl⟩, rfl, hI.step rfl (by rw [hs]) hI.e (by rw [← hoa]; exact how) hsl hs3 w2' hfl (by rw [chM, if_neg (by rw [hon1]; decide), List.nil_append]) (by rw [hs]; exact .inl (by first | omega | (simp only; omega))), by show text.length - (at_ + s.length + 1) < text.length - at_; omega⟩
end
end Go.Proofs.YtedopgkbajhanaaGreatDoor

namespace Go.Proofs.YtedopgkbajhanaaGreatDoor
section
open Go Go.RowKit

theorem made_fb {k0 : Nat} (hk : k0 ≤ 4) {main other : List Lx} (h : ∀ x ∈ main, x.i ≤ 255) (h' : ∀ x ∈ other, x.i ≤ 255) : ∀ x ∈ madeF k0 main other, FileB x := by
  have l1 := mns_len (main_b hk h)
  have l2 := mns_len (oth_b hk h')
  have n1 := main_len k0 main
  have n2 := oth_len k0 other
  intro x hx
  simp only [madeF, List.mem_cons, List.not_mem_nil, or_false] at hx
  rcases hx with rfl | rfl
  · exact ⟨(by decide : ∀ b ∈ [109], b < 256), mns_b8 (wf_all (main_wf hk h)), (by decide : [109].length ≤ _), by simp only; omega⟩
  · exact ⟨(by decide : ∀ b ∈ [110], b < 256), mns_b8 (wf_all (oth_wf hk h')), (by decide : [110].length ≤ _), by simp only; omega⟩

set_option maxHeartbeats 1600000 in
theorem selection_law (A B : Option Addr) (n1 c1 n2 c2 : Nat) (main other : List Lx) (n : Nat) (w : World) (hL : SlS Lx.cells 3 w A n1 c1 main) (hok : ∀ x ∈ main, LxOk w x) (hL' : SlS Lx.cells 3 w B n2 c2 other) (hok' : ∀ x ∈ other, LxOk w x) (hn : n ≤ 255) :
    Fn Tryz.prog 6 [.slice A n1 c1, .slice B n2 c2, .int .u8 n] w (fun v w' => v = .bool true ∧ Ext w w') := by
  refine fn_of_exec (c := { c6 with cuts := [] }) gx_ok Tryz.func6 rfl rfl rfl ?_
  refine call (sanity7_fn w) ?_
  rintro _ w1 ⟨rfl, hE1⟩
  have m5 : n % 5 < 5 := Nat.mod_lt _ (by decide)
  refine norm_i64_to ((n : Nat) : Int) rfl (by omega) ?_
  refine normIf (m := ((n % 5 : Nat) : Int)) (by decide) (tmod_nat n 5) ?_
  have hk : n % 5 ≤ 4 := by omega
  generalize n % 5 = k0 at *
  refine call (letters_fn k0 w1 (by omega)) ?_
  rintro _ w2 ⟨NA, nc, rfl, hE2, hN2⟩
  have hE02 := hE1.trans hE2
  obtain ⟨hnb, hnok, hnl⟩ := letters_ok k0 (by omega)
  refine call (rmade_fn k0 hk NA nc A B n1 c1 n2 c2 main other w2 hN2 (hL.ext hE02) (fun x hx => (hok x hx).ext hE02) (hL'.ext hE02) (fun x hx => (hok' x hx).ext hE02)) ?_
  rintro _ w3 ⟨FA, rfl, hE3, hF3⟩
  have hE03 := hE02.trans hE3
  have hi : ∀ x ∈ main, x.i ≤ 255 := fun x hx => (hok x hx).i8
  have hi' : ∀ x ∈ other, x.i ≤ 255 := fun x hx => (hok' x hx).i8
  obtain ⟨g, hr, hcb⟩ := made_read hk hi hi'
  have hsel := made_sel hk hi hi' hcb
  have hN3 := hN2.ext hE3
  refine call (sread_fn (letters12.take k0) NA k0 nc (madeF k0 main other) FA 2 2 [109] w3 hN3 hnb (by omega) hF3 (made_fb hk hi hi') (by decide) (by decide)) ?_
  rw [hr]
  rintro _ w4 ⟨hE4, hg, RA, rc, RL, rfl, hS4⟩
  have hI4 := srcIn_read (by omega) hr hg hS4
  refine new (fun w5 hE5 hz5 hB5 => ?_)
  refine new (fun w6 hE6 hz6 hB6 => ?_)
  refine storeN_blk0 (hB5.ext hE6) rfl (sc rfl) (fun w7 hg7 _ hB7 => ?_)
  have hM7 : Mod (· = w4.heap.size) w6 w7 := Mod.of_grown hg7 rfl
  refine storeN_blk0 (hB6.mod hM7 (by omega)) rfl (sc rfl) (fun w8 hg8 _ hB8 => ?_)
  have hM8 : Mod (· = w5.heap.size) w7 w8 := Mod.of_grown hg8 rfl
  have hB78 := hB7.mod hM8 (by omega)
  have hE48 : Ext w4 w8 := hM8.ext (hM7.ext (hE5.trans hE6) (fun i hi => by omega)) (fun i hi => by omega)
  have hI8 := hI4.ext hE48
  refine loadN_blk0 hB8 rfl ?_
  refine wif_f rfl ?_
  refine loadN_blk0 hB78 rfl ?_
  refine call (rchk_fn hI8) ?_
  rintro _ w9 ⟨rfl, hE9⟩
  refine wif_nef rfl ?_
  have hE39 := (hE4.trans hE48).trans hE9
  have hF9 := hF3.ext hE39
  have hN9 := hN3.ext hE39
  have hI9 := hI8.ext hE9
  have hB9 := hB78.ext hE9
  have l1 := mns_len (main_b hk hi)
  have l2 := mns_len (oth_b hk hi')
  have q1 := main_len k0 main
  have q2 := oth_len k0 other
  have hw := main_wf hk hi
  have hw' := oth_wf hk hi'
  have hoth : ∀ e, (othC k0 e other).length ≤ 100000 := fun e => by
    have h1 := em_ch (ic := false) (D := 3) (ie := noE) (e := e) (oth := []) (fun _ _ => rfl) (fun _ _ => rfl) (othM k0 other) [] (fun _ => true) [] [] hw' rfl
    have h2 := em_len (M := 34) (ie := noE) (fun _ => Nat.zero_le _) (othM k0 other) (fun _ => true) [] (oth_b hk hi')
    have h3 : (onl e (emM noE (othM k0 other) (fun _ => true) [])).length ≤ (emM noE (othM k0 other) (fun _ => true) []).length := by
      unfold onl; rw [List.length_map]; exact List.length_filter_le _ _
    unfold othC
    rw [← h1]; omega
  refine loop gx_ok [12] (fun s : Nat => [.int .i64 s]) (fun s w' => Ext w9 w' ∧ s ≤ 2 ^ k0) (fun s _ => 2 ^ k0 - s) 0 rfl ⟨Ext.refl _, Nat.zero_le _⟩ ?_
  rintro c w10 ⟨hE10, hc⟩
  have hpow : 2 ^ k0 ≤ 16 := by
    rcases (show k0 = 0 ∨ k0 = 1 ∨ k0 = 2 ∨ k0 = 3 ∨ k0 = 4 by omega) with rfl | rfl | rfl | rfl | rfl <;> decide
  refine normIf (m := ((2 ^ k0 : Nat) : Int)) (by omega) (by
    rcases (show k0 = 0 ∨ k0 = 1 ∨ k0 = 2 ∨ k0 = 3 ∨ k0 = 4 by omega) with rfl | rfl | rfl | rfl | rfl <;> rfl) ?_
  refine wif_d (fun d1 => ?_) (fun d1 => ?_)
  · refine loadN_blk0 (hB9.ext hE10) rfl ?_
    refine norm_u64_to ((c : Nat) : Int) rfl (by omega) ?_
    refine call (rsel_fn (hI9.ext hE10) c (by omega)) ?_
    rintro _ w11 ⟨rfl, hE11⟩
    refine norm_u64_to ((c : Nat) : Int) rfl (by omega) ?_
    have hE911 := hE10.trans hE11
    refine call (chosen_fn hnb (by omega) NA k0 nc FA 2 2 (madeF k0 main other) 0 _ rfl (D := 3) (by decide) rfl (by simp only; omega) hw c (by omega) (oth := othC k0 (bitE c) other) (by have := hoth (bitE c); omega) w9 hN9 hF9 (fun _ w' hw2 => ?_) w11 hE911) ?_
    · exact chosen_fn hnb (by omega) NA k0 nc FA 2 2 (madeF k0 main other) 1 _ rfl (ic := false) (D := 3) (by decide) rfl (by simp only; omega) hw' c (by omega) (oth := []) (by decide) w9 hN9 hF9 (fun h => by cases h) w' hw2
    rintro _ w12 ⟨rfl, hE12⟩
    refine wif_f (by rw [hsel]; simp) ?_
    refine norm_i64_to ((c + 1 : Nat) : Int) (by show ((c : Nat) : Int) + 1 = _; omega) (by omega) ?_
    exact ⟨c + 1, rfl, ⟨hE911.trans hE12, by omega⟩, by show 2 ^ k0 - (c + 1) < 2 ^ k0 - c; omega⟩
  · exact ⟨rfl, (hE03.trans hE39).trans hE10⟩
end
end Go.Proofs.YtedopgkbajhanaaGreatDoor
