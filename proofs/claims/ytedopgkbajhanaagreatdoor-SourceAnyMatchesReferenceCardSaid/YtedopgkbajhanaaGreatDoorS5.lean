/-
  source: Check and what reads a source (Select, Local, Global, Origin), for segments of any kind.
  source: Select, Local, Global, Origin, for segments of any kind.
  diagram.Disjoint; source.Dead.
  Conditions: none.
-/
import Derived.Test.YtedopgkbajhanaaGreatDoorS4
import Derived.Test.YtedopgkbajhanaaGreatDoorDg
import Derived.Test.YtedopgkbajhanaaGreatDoorZr
namespace Go.Proofs.YtedopgkbajhanaaGreatDoor
section
open Go Go.RowKit

/-! ### Segments -/
structure Sx where
  f : Int
  t : Int
  fl : Int
  at_ : Int
  x : DV
def Sx.cells (y : Sx) : List Value := [.int .i64 y.f, .int .i64 y.t, .int .i64 y.fl, .int .i64 y.at_, .slice y.x.A y.x.n y.x.c, .int .i64 y.x.r]
theorem sx_len (y : Sx) : y.cells.length = 6 := rfl
/-- Segments in memory. -/
structure SX (w : World) (A : Option Addr) (n c : Nat) (L : List Sx) : Prop where
  sl : SlS Sx.cells 6 w A n c L
  dg : ∀ y ∈ L, SB w y.x.A y.x.n y.x.c y.x.nd
theorem SX.ext {w w' : World} {A : Option Addr} {n c : Nat} {L : List Sx} (h : SX w A n c L) (k : Ext w w') : SX w' A n c L := ⟨h.sl.ext k, fun y hy => (h.dg y hy).ext k⟩
def segOk (tx : List Nat) (at_ : Int) (y : Sx) : Prop := y.f = at_ ∧ at_ < y.t ∧ y.t ≤ tx.length ∧ tx[(y.t - 1).toNat]? = some 10 ∧ chkD y.x.nd y.x.r = 0 ∧ 0 ≤ y.fl ∧ 0 ≤ y.at_ ∧ y.at_ ≤ 1048576 - (y.t - y.f)
def chkL (tx : List Nat) : Int → List Sx → Prop
  | at_, [] => at_ = tx.length
  | at_, y :: L => segOk tx at_ y ∧ chkL tx y.t L
open Classical in
noncomputable def chkS (tx : List Nat) (L : List Sx) : Int := if 1048576 < tx.length ∨ 65536 < L.length then 2 else if chkL tx 0 L then 0 else 70
theorem chkS_zero {tx : List Nat} {L : List Sx} : chkS tx L = 0 ↔ tx.length ≤ 1048576 ∧ L.length ≤ 65536 ∧ chkL tx 0 L := by
  unfold chkS
  by_cases h1 : 1048576 < tx.length ∨ 65536 < L.length
  · rw [if_pos h1]; constructor
    · intro h; cases h
    · rintro ⟨a, b, _⟩; omega
  · rw [if_neg h1]
    by_cases h2 : chkL tx 0 L
    · rw [if_pos h2]; exact ⟨fun _ => ⟨by omega, by omega, h2⟩, fun _ => rfl⟩
    · rw [if_neg h2]; constructor
      · intro h; cases h
      · rintro ⟨_, _, h⟩; exact absurd h h2

/-- What Check has seen. -/
structure ChkI (w0 : World) (tx : List Nat) (L : List Sx) (i : Nat) (at_ : Int) (w : World) : Prop where
  e : Ext w0 w
  le : i ≤ L.length
  a0 : 0 ≤ at_
  al : at_ ≤ tx.length
  rs : chkL tx 0 L ↔ chkL tx at_ (L.drop i)

set_option maxHeartbeats 1600000 in
theorem scheck_fn (tx : List Nat) (A : Option Addr) (n c : Nat) (L : List Sx) (w : World) (h : SX w A n c L) (h8 : ∀ x ∈ tx, x < 256) :
    Fn Tryz.prog 27 [srcV tx A n c] w (fun u w' => u = .int .i64 (chkS tx L) ∧ Ext w w') := by
  have hlen := h.sl.2
  have hts := strOf_size tx
  refine fn_of_exec (c := { c27 with cuts := [] }) gx_ok Tryz.func27 rfl rfl rfl ?_
  refine new (fun w1 hE1 hz1 hB1 => ?_)
  refine load_blk0 hB1 rfl ?_
  refine wif_d (fun c1 => ?_) (fun c1 => ?_)
  · exact ⟨by unfold chkS; rw [if_pos (.inl (by omega))], hE1⟩
  refine load_blk hB1 rfl ?_
  refine wif_d (fun c2 => ?_) (fun c2 => ?_)
  · exact ⟨by unfold chkS; rw [if_pos (.inr (by omega))], hE1⟩
  have hcs : chkS tx L = open Classical in if chkL tx 0 L then 0 else 70 := by unfold chkS; rw [if_neg (by omega)]
  refine load_blk hB1 rfl ?_
  refine loop gx_ok [19, 3] (fun s : Nat × Int => [.int .i64 s.1, .int .i64 s.2]) (fun s w' => ChkI w1 tx L s.1 s.2 w') (fun s _ => L.length - s.1) (0, 0) rfl ⟨Ext.refl _, Nat.zero_le _, Int.le_refl _, by omega, Iff.rfl⟩ ?_
  rintro ⟨i, at_⟩ w2 hI
  have hE02 := hE1.trans hI.e
  have a0 := hI.a0
  have al := hI.al
  simp only at a0 al
  refine wif_d (fun c3 => ?_) (fun c3 => ?_)
  · have hi : i < n := by omega
    refine index_sls sx_len (h.sl.ext hE02) rfl hi (fun p y hy hc => ?_)
    refine loadN_at (vs := y.cells) rfl hc ?_
    refine new (fun w3 hE3 hz3 hB3 => ?_)
    refine storeN_blk0 hB3 rfl (sc rfl) (fun w4 hg4 _ hB4 => ?_)
    have hE24 : Ext w2 w4 := newBox hE3 hB3 hg4
    have hE04 := hE02.trans hE24
    have hB1' := hB1.ext (hI.e.trans hE24)
    have hdrop : L.drop i = y :: L.drop (i + 1) := by
      rw [List.drop_eq_getElem_cons (by omega)]
      congr 1
      exact Option.some.inj ((List.getElem?_eq_getElem (by omega)).symm.trans hy)
    have hrs := hI.rs
    simp only at hrs
    rw [hdrop, chkL] at hrs
    have bad : ¬ segOk tx at_ y → ∀ w', Ext w w' → (Value.int .i64 70 = .int .i64 (chkS tx L)) ∧ Ext w w' := fun hno w' hE => ⟨by rw [hcs, if_neg (fun hh => hno (hrs.1 hh).1)], hE⟩
    refine load_blk0 hB4 rfl ?_
    refine wif_ne (fun d1 => ?_) (fun d1 => ?_)
    · exact bad (fun hb => d1 hb.1) _ hE04
    refine load_blk hB4 rfl ?_
    refine wif_d (fun d2 => ?_) (fun d2 => ?_)
    · exact bad (fun hb => by have := hb.2.1; omega) _ hE04
    refine load_blk hB4 rfl ?_
    refine load_blk0 hB1' rfl ?_
    refine wif_d (fun d3 => ?_) (fun d3 => ?_)
    · exact bad (fun hb => by have := hb.2.2.1; omega) _ hE04
    have hyt : y.t ≤ tx.length := by omega
    refine load_blk0 hB1' rfl ?_
    refine load_blk hB4 rfl ?_
    have hj : (y.t - 1).toNat < tx.length := by omega
    refine norm_i64_to (((y.t - 1).toNat : Nat) : Int) (by omega) (by omega) ?_
    refine sindex' (by rw [hts]; exact hj) (fun b hb _ => ?_)
    rw [bytesOf_strOf h8] at hb
    refine wif_ne (fun d4 => ?_) (fun d4 => ?_)
    · exact bad (fun hh => by have := hh.2.2.2.1; rw [hb] at this; exact d4 (by have := Option.some.inj this; omega)) _ hE04
    have hb10 : tx[(y.t - 1).toNat]? = some 10 := by rw [hb]; congr 1; omega
    refine loadN_at (vs := [.slice y.x.A y.x.n y.x.c, .int .i64 y.x.r]) rfl (fun j v hj => by rw [Addr.add_add]; exact (hB4.cell _).trans (by match j, hj with | 0, hj => exact hj | 1, hj => exact hj)) ?_
    refine call (check2_fn y.x.A y.x.n y.x.c y.x.nd y.x.r w4 ((h.dg y (List.mem_of_getElem? hy)).ext hE04)) ?_
    rintro _ w5 ⟨rfl, hE5⟩
    have hE05 := hE04.trans hE5
    have hB5 := hB4.ext hE5
    refine wif_ne (fun d5 => ?_) (fun d5 => ?_)
    · exact bad (fun hh => d5 hh.2.2.2.2.1) _ hE05
    refine load_blk hB5 rfl ?_
    refine wif_d (fun d6 => ?_) (fun d6 => ?_)
    · exact bad (fun hh => by have := hh.2.2.2.2.2.1; omega) _ hE05
    refine load_blk hB5 rfl ?_
    refine wif_d (fun d7 => ?_) (fun d7 => ?_)
    · exact bad (fun hh => by have := hh.2.2.2.2.2.2.1; omega) _ hE05
    refine load_blk hB5 rfl ?_
    refine load_blk hB5 rfl ?_
    refine load_blk0 hB5 rfl ?_
    refine norm_i64_to (y.t - y.f) rfl (by omega) ?_
    refine norm_i64_to (1048576 - (y.t - y.f)) rfl (by omega) ?_
    refine wif_d (fun d8 => ?_) (fun d8 => ?_)
    · exact bad (fun hh => by have := hh.2.2.2.2.2.2.2; omega) _ hE05
    refine load_blk hB5 rfl ?_
    refine norm_i64_to ((i + 1 : Nat) : Int) (by show ((i : Nat) : Int) + 1 = _; omega) (by omega) ?_
    have hok : segOk tx at_ y := ⟨d1, by omega, hyt, hb10, d5, by omega, by omega, by omega⟩
    exact ⟨(i + 1, y.t), rfl, ⟨hI.e.trans (hE24.trans hE5), by show i + 1 ≤ L.length; omega, by show 0 ≤ y.t; omega, hyt, by simp only; rw [hrs]; exact ⟨fun hh => hh.2, fun hh => ⟨hok, hh⟩⟩⟩, by show L.length - (i + 1) < L.length - i; omega⟩
  · have hdrop : L.drop i = [] := List.drop_eq_nil_of_le (by omega)
    have hrs := hI.rs
    simp only at hrs
    rw [hdrop, chkL] at hrs
    refine load_blk0 (hB1.ext hI.e) rfl ?_
    refine wif_d (fun d1 => ?_) (fun d1 => ?_)
    · exact ⟨by rw [hcs, if_neg (fun hh => by have := hrs.1 hh; omega)], hE02⟩
    · exact ⟨by rw [hcs, if_pos (hrs.2 (by omega))], hE02⟩
end

section
open Go Go.RowKit

/-! ### What a valid source's segments are -/
structure SegB (tx : List Nat) (y : Sx) : Prop where
  f0 : 0 ≤ y.f
  ft : y.f < y.t
  tl : y.t ≤ tx.length
  ck : chkD y.x.nd y.x.r = 0
  l0 : 0 ≤ y.fl
  a0 : 0 ≤ y.at_
  a1 : y.at_ ≤ 1048576
theorem chkL_all {tx : List Nat} : ∀ {L : List Sx} {a : Int}, 0 ≤ a → chkL tx a L → ∀ y ∈ L, SegB tx y
  | [], _, _, _, y, hy => by cases hy
  | z :: L, a, ha, h, y, hy => by
    obtain ⟨⟨h1, h2, h3, h4, h5, h6, h7, h8⟩, hr⟩ := h
    rcases List.mem_cons.1 hy with rfl | hy
    · exact ⟨by omega, by omega, h3, h5, h6, h7, by omega⟩
    · exact chkL_all (by omega) hr y hy
def totS (L : List Sx) : Int := (L.map (fun y => y.t - y.f)).sum
theorem totS_cons (y : Sx) (L : List Sx) : totS (y :: L) = (y.t - y.f) + totS L := by simp [totS]
theorem totS_nn {tx : List Nat} : ∀ {L : List Sx}, (∀ y ∈ L, SegB tx y) → 0 ≤ totS L
  | [], _ => by simp [totS]
  | y :: L, h => by
    rw [totS_cons]
    have := (h y (by simp)).ft
    have : 0 ≤ totS L := totS_nn (tx := tx) (fun z hz => h z (List.mem_cons_of_mem _ hz))
    omega
theorem totS_chk {tx : List Nat} : ∀ {L : List Sx} {a : Int}, chkL tx a L → totS L = tx.length - a
  | [], a, h => by have : a = tx.length := h; simp [totS, this]
  | y :: L, a, h => by
    rw [totS_cons, totS_chk h.2, h.1.1]; omega
theorem totS_filter {tx : List Nat} (q : Sx → Bool) : ∀ {L : List Sx}, (∀ y ∈ L, SegB tx y) → totS (L.filter q) ≤ totS L
  | [], _ => by simp [totS]
  | y :: L, h => by
    have h1 := (h y (by simp)).ft
    have h2 : totS (L.filter q) ≤ totS L := totS_filter (tx := tx) q (fun z hz => h z (List.mem_cons_of_mem _ hz))
    rw [List.filter_cons]
    split
    · rw [totS_cons, totS_cons]; omega
    · rw [totS_cons]; omega

def inS (c : Nat) (y : Sx) : Bool := ev y.x.nd y.x.r (bitE c)
def selL (c : Nat) (L : List Sx) : List Sx := L.filter (inS c)
def pieceS (tx : List Nat) (y : Sx) : List Nat := (tx.take y.t.toNat).drop y.f.toNat
noncomputable def selP (tx : List Nat) (L : List Sx) (c : Nat) : List Nat := if chkS tx L = 0 then (selL c L).flatMap (pieceS tx) else []
def locL (tl at_ : Int) : Int → List Sx → Int × Bool
  | n, [] => if at_ = tl then (n, true) else (0, false)
  | n, y :: L => if y.f ≤ at_ ∧ at_ < y.t then (n + at_ - y.f, true) else locL tl at_ (n + (y.t - y.f)) L
noncomputable def locP (tx : List Nat) (L : List Sx) (c : Nat) (at_ : Int) : Int × Bool := if chkS tx L = 0 then locL tx.length at_ 0 (selL c L) else (0, false)
def glbL (tl : Int) : Int → List Sx → Int × Bool
  | at_, [] => if 0 < at_ then (0, false) else (tl, true)
  | at_, y :: L => if y.t - y.f ≤ at_ then glbL tl (at_ - (y.t - y.f)) L else (y.f + at_, true)
noncomputable def glbP (tx : List Nat) (L : List Sx) (c : Nat) (at_ : Int) : Int × Bool := if chkS tx L = 0 ∧ 0 ≤ at_ then glbL tx.length at_ (selL c L) else (0, false)
def oriL (at_ : Int) : List Sx → Int × Int × Bool
  | [] => (0, 0, false)
  | y :: L => if at_ < y.t then (y.fl, y.at_ + at_ - y.f, true) else oriL at_ L
noncomputable def oriP (tx : List Nat) (L : List Sx) (at_ : Int) : Int × Int × Bool := if chkS tx L = 0 ∧ 0 ≤ at_ ∧ at_ < tx.length then oriL at_ L else (0, 0, false)

theorem drop_get {α : Type} {l : List α} {i : Nat} {x : α} (h : l[i]? = some x) : l.drop i = x :: l.drop (i + 1) := by
  obtain ⟨h1, rfl⟩ := List.getElem?_eq_some_iff.1 h
  exact List.drop_eq_getElem_cons h1
theorem sx_scalar (y : Sx) : ∀ u ∈ y.cells, scalar u = true := by intro u hu; simp [Sx.cells] at hu; rcases hu with rfl | rfl | rfl | rfl | rfl | rfl <;> rfl

/-! ### selected -/
structure SelI (w0 : World) (base : Nat) (c : Nat) (L : List Sx) (i : Nat) (O : Option Addr) (oc : Nat) (w : World) : Prop where
  e : Ext w0 w
  le : i ≤ L.length
  own : Own w base 45 6 O (selL c (L.take i)).length oc ((selL c (L.take i)).flatMap Sx.cells)

set_option maxHeartbeats 1600000 in
theorem selected_fn (tx : List Nat) (A : Option Addr) (n cp : Nat) (L : List Sx) (c : Nat) (w : World) (h : SX w A n cp L) (hc : c ≤ 18446744073709551615) (hv : ∀ y ∈ L, chkD y.x.nd y.x.r = 0) (hn : n ≤ 65536) :
    Fn Tryz.prog 52 [srcV tx A n cp, .int .u64 c] w (fun u w' => ∃ O oc, u = .slice O (selL c L).length oc ∧ Ext w w' ∧ SX w' O (selL c L).length oc (selL c L) ∧ Own w' w.heap.size 45 6 O (selL c L).length oc ((selL c L).flatMap Sx.cells)) := by
  have hlen := h.sl.2
  refine fn_of_exec (c := { c52 with cuts := [] }) gx_ok Tryz.func52 rfl rfl rfl ?_
  refine new (fun w1 hE1 hz1 hB1 => ?_)
  refine load_blk hB1 rfl ?_
  refine loop gx_ok [11, 5] (fun s : Nat × Option Addr × Nat => [.int .i64 s.1, .slice s.2.1 (selL c (L.take s.1)).length s.2.2]) (fun s w' => SelI w1 w1.heap.size c L s.1 s.2.1 s.2.2 w') (fun s _ => L.length - s.1) (0, none, 0) rfl ⟨Ext.refl _, Nat.zero_le _, Own.nil _ _ _ _⟩ ?_
  rintro ⟨i, O, oc⟩ w2 hI
  have hE02 := hE1.trans hI.e
  have ho := hI.own
  have hle := hI.le
  simp only at ho hle
  refine wif_d (fun c3 => ?_) (fun c3 => ?_)
  · have hi : i < n := by omega
    refine index_sls sx_len (h.sl.ext hE02) rfl hi (fun p y hy hcl => ?_)
    have htk : L.take (i + 1) = L.take i ++ [y] := by rw [List.take_add_one, hy]; rfl
    refine loadN_at (vs := y.cells) rfl hcl ?_
    refine new (fun w3 hE3 hz3 hB3 => ?_)
    refine storeN_blk0 hB3 rfl (sc rfl) (fun w4 hg4 _ hB4 => ?_)
    have hE24 : Ext w2 w4 := newBox hE3 hB3 hg4
    have hE04 := hE02.trans hE24
    refine loadN_at (vs := [.slice y.x.A y.x.n y.x.c, .int .i64 y.x.r]) rfl (fun j v hj => by rw [Addr.add_add]; exact (hB4.cell _).trans (by match j, hj with | 0, hj => exact hj | 1, hj => exact hj)) ?_
    have hym := List.mem_of_getElem? hy
    refine call (dholds_fn y.x.A y.x.n y.x.c y.x.nd y.x.r c hc w4 ((h.dg y hym).ext hE04) (hv y hym)) ?_
    rintro _ w5 ⟨rfl, hE5⟩
    have hE25 := hE24.trans hE5
    have hB5 := hB4.ext hE5
    refine wif (fun d1 => ?_) (fun d1 => ?_)
    · have d1 : inS c y = true := d1
      have hsl : selL c (L.take (i + 1)) = selL c (L.take i) ++ [y] := by rw [htk]; unfold selL; rw [List.filter_append]; simp [d1]
      refine loadN_blk0 hB5 rfl ?_
      refine at_buildN gx_ok [y.cells] rfl rfl rfl rfl rfl ⟨rfl, rfl, ⟨⟩⟩ rfl (fun cs hh => by simp only [List.mem_singleton] at hh; subst hh; rfl) rfl (by decide) (by decide) ?_
      intro w6 hE6 hz6 hB6
      have hE26 := hE25.trans hE6
      have hs6 : Sl w6 6 (some ⟨w5.heap.size, 0, none⟩) 1 1 y.cells := Sl.own (sz := 6) (n := 1) hB6 (Nat.le_refl _) (by decide) (by simp [Sx.cells])
      have hfl : (selL c (L.take i)).length ≤ i := Nat.le_trans (List.length_filter_le _ _) (by simp; omega)
      refine at_app (n := (selL c (L.take i)).length) gx_ok rfl rfl rfl rfl rfl (by decide) rfl rfl ⟨_, rfl⟩ rfl rfl (ho.ext hE26) hs6 (sx_scalar y) (by unfold maxLen; omega) (by show ((selL c (L.take i)).length + 1) * 64 ≤ _; omega) (by have := hI.e.size; have := hE26.size; omega) ?_
      intro A' c' w7 hm7 hown7 hmv7
      refine norm_i64_to ((i + 1 : Nat) : Int) (by show ((i : Nat) : Int) + 1 = _; omega) (by omega) ?_
      refine ⟨(i + 1, A', c'), by simp only [hsl, List.length_append]; rfl, ⟨hm7.ext (hI.e.trans hE26) (fun k hk => (ho.rows k hk).1), by show i + 1 ≤ L.length; omega, ?_⟩, by show L.length - (i + 1) < L.length - i; omega⟩
      simp only
      rw [hsl, List.flatMap_append, List.length_append]
      simpa using hown7
    · have d1 : inS c y = false := d1
      have hsl : selL c (L.take (i + 1)) = selL c (L.take i) := by rw [htk]; unfold selL; rw [List.filter_append]; simp [d1]
      refine norm_i64_to ((i + 1 : Nat) : Int) (by show ((i : Nat) : Int) + 1 = _; omega) (by omega) ?_
      refine ⟨(i + 1, O, oc), by simp only [hsl]; rfl, ⟨hI.e.trans hE25, by show i + 1 ≤ L.length; omega, ?_⟩, by show L.length - (i + 1) < L.length - i; omega⟩
      simp only
      rw [hsl]
      exact ho.ext hE25
  · have hall : L.take i = L := List.take_of_length_le (by omega)
    rw [hall] at ho
    refine ⟨O, oc, ?_, hE02, ⟨⟨ho.sl, rfl⟩, fun y hy => (h.dg y (List.mem_filter.1 hy).1).ext hE02⟩, ho.up (by omega)⟩
    rw [hall]

/-! ### Select -/
theorem pieces_len {tx : List Nat} : ∀ {L : List Sx}, (∀ y ∈ L, SegB tx y) → ((L.flatMap (pieceS tx)).length : Int) = totS L
  | [], _ => rfl
  | y :: L, h => by
    have h1 := h y (by simp)
    have h2 := pieces_len (L := L) (tx := tx) (fun z hz => h z (List.mem_cons_of_mem _ hz))
    have := h1.f0
    have := h1.ft
    have := h1.tl
    rw [List.flatMap_cons, List.length_append, totS_cons, ← h2]
    have : (pieceS tx y).length = y.t.toNat - y.f.toNat := by unfold pieceS; rw [List.length_drop, List.length_take]; omega
    rw [this]; omega
theorem pieceS_b8 {tx : List Nat} (h8 : ∀ x ∈ tx, x < 256) (y : Sx) : ∀ x ∈ pieceS tx y, x < 256 := fun x hx => h8 x (List.mem_of_mem_take (List.mem_of_mem_drop hx))
structure SelJ (w0 : World) (base g : Nat) (tx : List Nat) (M : List Sx) (i : Nat) (w : World) : Prop where
  e : Ext w0 w
  le : i ≤ M.length
  b : ∃ A c, Bld w base g 86 [] A c ((M.take i).flatMap (pieceS tx))

set_option maxHeartbeats 1600000 in
theorem sselect_fn (tx : List Nat) (A : Option Addr) (n cp : Nat) (L : List Sx) (c : Nat) (w : World) (h : SX w A n cp L) (hc : c ≤ 18446744073709551615) (h8 : ∀ x ∈ tx, x < 256) :
    Fn Tryz.prog 29 [srcV tx A n cp, .int .u64 c] w (fun u w' => u = .string (strOf (selP tx L c)) ∧ Ext w w') := by
  have hlen := h.sl.2
  refine fn_of_exec (c := { c29 with cuts := [] }) gx_ok Tryz.func29 rfl rfl rfl ?_
  refine new (fun w1 hE1 hz1 hB1 => ?_)
  refine loadN_blk0 hB1 rfl ?_
  refine call (scheck_fn tx A n cp L w1 (h.ext hE1) h8) ?_
  rintro _ w2 ⟨rfl, hE2⟩
  have hE02 := hE1.trans hE2
  refine wif_ne (fun c1 => ?_) (fun c1 => ?_)
  · exact ⟨by unfold selP; rw [if_neg c1]; rfl, hE02⟩
  obtain ⟨t1, t2, t3⟩ := chkS_zero.1 c1
  have hall := chkL_all (Int.le_refl 0) t3
  refine new (fun w3 hE3 hz3 hB3 => ?_)
  have hE03 := hE02.trans hE3
  refine loadN_blk0 (hB1.ext (hE2.trans hE3)) rfl ?_
  refine call (selected_fn tx A n cp L c w3 (h.ext hE03) hc (fun y hy => (hall y hy).ck) (by omega)) ?_
  rintro _ w4 ⟨O, oc, rfl, hE4, hO4, how4⟩
  have hE04 := hE03.trans hE4
  have hmall : ∀ y ∈ selL c L, SegB tx y := fun y hy => hall y (List.mem_filter.1 hy).1
  have hmdg : ∀ y ∈ selL c L, SB w y.x.A y.x.n y.x.c y.x.nd := fun y hy => h.dg y (List.mem_filter.1 hy).1
  have htot : totS (selL c L) ≤ tx.length := by
    have e1 := totS_filter (inS c) hall
    have e2 := totS_chk t3
    unfold selL; omega
  have hml : (selL c L).length ≤ 65536 := Nat.le_trans (List.length_filter_le _ _) t2
  have hsp : selP tx L c = (selL c L).flatMap (pieceS tx) := if_pos c1
  generalize hM : selL c L = M at *
  have hz24 := hE4.size
  have hrow4 := how4.rows
  have hb4 : Bld w4 w4.heap.size w2.heap.size 86 [] none 0 (([] : List Sx).flatMap (pieceS tx)) := ⟨by omega, Nat.le_refl _, ⟨_, .inl rfl, hB3.ext hE4⟩, Own.nil _ _ _ _⟩
  have hg2 := hE02.size
  have hpl : ∀ i, (((M.take i).flatMap (pieceS tx)).length : Int) ≤ tx.length := fun i => by
    have e1 := pieces_len (L := M.take i) (tx := tx) (fun z hz => hmall z (List.mem_of_mem_take hz))
    have e2 := totS_nn (L := M.drop i) (tx := tx) (fun z hz => hmall z (List.mem_of_mem_drop hz))
    have e3 : totS M = totS (M.take i) + totS (M.drop i) := by
      unfold totS
      rw [← List.sum_append, ← List.map_append, List.take_append_drop]
    omega
  refine loop gx_ok [15] (fun i : Nat => [.int .i64 i]) (fun i w' => SelJ w2 w4.heap.size w2.heap.size tx M i w' ∧ Mod (fun k => k = w2.heap.size ∨ w4.heap.size ≤ k) w4 w') (fun i _ => M.length - i) 0 rfl ⟨⟨hE3.trans hE4, Nat.zero_le _, _, _, hb4⟩, Mod.refl _ _⟩ ?_
  rintro i w5 ⟨hI, hM45⟩
  have hE05 : Ext w w5 := hE02.trans hI.e
  have how5 : Own w5 w3.heap.size 45 6 O M.length oc (M.flatMap Sx.cells) := how4.mod hM45 (fun k hk hS => by have := hrow4 k hk; omega)
  obtain ⟨BA, bc, hb5⟩ := hI.b
  refine wif_d (fun c3 => ?_) (fun c3 => ?_)
  · have hi : i < M.length := by omega
    refine index_sls (l := M) sx_len ⟨how5.sl, rfl⟩ rfl hi (fun p y hy hcl => ?_)
    have hym := List.mem_of_getElem? hy
    have hyb := hmall y hym
    have htk : M.take (i + 1) = M.take i ++ [y] := by rw [List.take_add_one, hy]; rfl
    refine loadN_at (vs := y.cells) rfl hcl ?_
    refine new (fun w6 hE6 hz6 hB6 => ?_)
    refine storeN_blk0 hB6 rfl (sc rfl) (fun w7 hg7 _ hB7 => ?_)
    have hE57 : Ext w5 w7 := newBox hE6 hB6 hg7
    refine load_blk0 ((hB1.ext hE2).ext (hI.e.trans hE57)) rfl ?_
    refine load_blk0 hB7 rfl ?_
    refine load_blk hB7 rfl ?_
    have q1 := hyb.f0
    have q2 := hyb.ft
    have q3 := hyb.tl
    have hts := strOf_size tx
    refine need_to (v' := .string (strOf (pieceS tx y))) ⟨q1, by omega, by rw [hts]; omega⟩ (by rw [strOf_extract]; rfl) ?_
    have hpn := hpl (i + 1)
    rw [htk, List.flatMap_append, List.length_append] at hpn
    have hpe : [y].flatMap (pieceS tx) = pieceS tx y := by simp
    rw [hpe] at hpn
    have hps := strOf_size (pieceS tx y)
    refine call (writeString_fn w4.heap.size w2.heap.size _ [] BA bc _ (strOf (pieceS tx y)) w7 liesB0 (hb5.grow hE57) (by rw [hps]; omega)) ?_
    rintro _ w8 ⟨A8, c8, hb8, hm8, hv8⟩
    have hbr := (hb5.own.rows)
    have hS8 : ∀ k, BldS w2.heap.size BA k → k = w2.heap.size ∨ w4.heap.size ≤ k := fun k hk => hk.elim .inl (fun hk => .inr (hbr k hk).1)
    refine norm_i64_to ((i + 1 : Nat) : Int) (by show ((i : Nat) : Int) + 1 = _; omega) (by omega) ?_
    refine ⟨i + 1, rfl, ⟨⟨hm8.ext (hI.e.trans hE57) (fun k hk => by rcases hS8 k hk with e | e <;> omega), hi, A8, c8, ?_⟩, ?_⟩, by show M.length - (i + 1) < M.length - i; omega⟩
    · rw [htk, List.flatMap_append, hpe]
      rw [bytesOf_strOf (pieceS_b8 h8 y)] at hb8
      exact hb8
    · exact (hM45.trans (Mod.of_ext (fun k => k = w2.heap.size ∨ w4.heap.size ≤ k) hE57) (fun k hk => .inl hk)).trans (hm8.mono (fun k hk => .inl (hS8 k hk))) (fun k hk => .inl hk)
  · have hall : M.take i = M := List.take_of_length_le (by omega)
    rw [hall] at hb5
    have hpn := hpl i
    rw [hall] at hpn
    refine call (string_fn w4.heap.size w2.heap.size _ [] BA bc _ w5 hb5 (fun x hx => by
      obtain ⟨y, _, hxy⟩ := List.mem_flatMap.1 hx
      exact pieceS_b8 h8 y x hxy) (by omega)) ?_
    rintro _ w6 ⟨rfl, hm6⟩
    have hbr := (hb5.own.rows)
    exact ⟨by rw [hsp], hm6.ext hE05 (fun k hk => by have := hbr k hk; omega)⟩

/-! ### Local, Global -/
set_option maxHeartbeats 1600000 in
theorem slocal_fn (tx : List Nat) (A : Option Addr) (n cp : Nat) (L : List Sx) (c : Nat) (at_ : Int) (w : World) (h : SX w A n cp L) (hc : c ≤ 18446744073709551615) (h8 : ∀ x ∈ tx, x < 256) :
    Fn Tryz.prog 19 [srcV tx A n cp, .int .u64 c, .int .i64 at_] w (fun u w' => u = .tuple #[.int .i64 (locP tx L c at_).1, .bool (locP tx L c at_).2] ∧ Ext w w') := by
  have hlen := h.sl.2
  have hts := strOf_size tx
  refine fn_of_exec (c := { c19 with cuts := [] }) gx_ok Tryz.func19 rfl rfl rfl ?_
  refine new (fun w1 hE1 hz1 hB1 => ?_)
  refine loadN_blk0 hB1 rfl ?_
  refine call (scheck_fn tx A n cp L w1 (h.ext hE1) h8) ?_
  rintro _ w2 ⟨rfl, hE2⟩
  have hE02 := hE1.trans hE2
  refine wif_ne (fun c1 => ?_) (fun c1 => ?_)
  · exact ⟨by unfold locP; rw [if_neg c1], hE02⟩
  obtain ⟨t1, t2, t3⟩ := chkS_zero.1 c1
  have hall := chkL_all (Int.le_refl 0) t3
  refine loadN_blk0 (hB1.ext hE2) rfl ?_
  refine call (selected_fn tx A n cp L c w2 (h.ext hE02) hc (fun y hy => (hall y hy).ck) (by omega)) ?_
  rintro _ w4 ⟨O, oc, rfl, hE4, hO4, _⟩
  have hE04 := hE02.trans hE4
  have hmall : ∀ y ∈ selL c L, SegB tx y := fun y hy => hall y (List.mem_filter.1 hy).1
  have htot : totS (selL c L) ≤ tx.length := by
    have e1 := totS_filter (inS c) hall
    have e2 := totS_chk t3
    unfold selL; omega
  have hml : (selL c L).length ≤ 65536 := Nat.le_trans (List.length_filter_le _ _) t2
  have hsp : locP tx L c at_ = locL tx.length at_ 0 (selL c L) := if_pos c1
  rw [hsp]
  generalize hM : selL c L = M at *
  refine loop gx_ok [18, 8] (fun s : Nat × Int => [.int .i64 s.1, .int .i64 s.2]) (fun s w' => Ext w4 w' ∧ s.1 ≤ M.length ∧ 0 ≤ s.2 ∧ s.2 + totS (M.drop s.1) ≤ tx.length ∧ locL tx.length at_ 0 M = locL tx.length at_ s.2 (M.drop s.1)) (fun s _ => M.length - s.1) (0, 0) rfl ⟨Ext.refl _, Nat.zero_le _, Int.le_refl _, by simpa using htot, rfl⟩ ?_
  rintro ⟨i, b⟩ w5 ⟨hE5, hle, b0, bt, hrs⟩
  simp only at hle b0 bt hrs
  have hE05 := hE04.trans hE5
  refine wif_d (fun c3 => ?_) (fun c3 => ?_)
  · have hi : i < M.length := by simp only at c3; omega
    refine index_sls sx_len (hO4.ext hE5).sl rfl hi (fun p y hy hcl => ?_)
    have hy : M[i]? = some y := hy
    have hyb := hmall y (List.mem_of_getElem? hy)
    have q1 := hyb.f0
    have q2 := hyb.ft
    have q3 := hyb.tl
    rw [drop_get hy] at bt hrs
    rw [totS_cons] at bt
    have hnn : 0 ≤ totS (M.drop (i + 1)) := totS_nn (fun z hz => hmall z (List.mem_of_mem_drop hz))
    refine loadN_at (vs := y.cells) rfl hcl ?_
    refine new (fun w6 hE6 hz6 hB6 => ?_)
    refine storeN_blk0 hB6 rfl (sc rfl) (fun w7 hg7 _ hB7 => ?_)
    have hE57 : Ext w5 w7 := newBox hE6 hB6 hg7
    rw [locL] at hrs
    have next : ¬ (y.f ≤ at_ ∧ at_ < y.t) → locL tx.length at_ 0 M = locL tx.length at_ (b + (y.t - y.f)) (M.drop (i + 1)) := fun hh => by rw [hrs, if_neg hh]
    refine load_blk0 hB7 rfl ?_
    refine wif_d (fun d1 => ?_) (fun d1 => ?_)
    · refine load_blk hB7 rfl ?_
      refine wif_d (fun d2 => ?_) (fun d2 => ?_)
      · refine norm_i64_to (b + at_) rfl (by omega) ?_
        refine load_blk0 hB7 rfl ?_
        refine norm_i64_to (b + at_ - y.f) rfl (by omega) ?_
        exact ⟨by rw [hrs, if_pos ⟨d1, d2⟩], hE05.trans hE57⟩
      · refine load_blk hB7 rfl ?_
        refine load_blk0 hB7 rfl ?_
        refine norm_i64_to (y.t - y.f) rfl (by omega) ?_
        refine norm_i64_to (b + (y.t - y.f)) rfl (by omega) ?_
        refine norm_i64_to ((i + 1 : Nat) : Int) (by show ((i : Nat) : Int) + 1 = _; omega) (by omega) ?_
        exact ⟨(i + 1, b + (y.t - y.f)), rfl, ⟨hE5.trans hE57, hi, by show 0 ≤ b + (y.t - y.f); omega, by show b + (y.t - y.f) + totS (M.drop (i + 1)) ≤ _; omega, next (fun hh => d2 hh.2)⟩, by show M.length - (i + 1) < M.length - i; omega⟩
    · refine load_blk hB7 rfl ?_
      refine load_blk0 hB7 rfl ?_
      refine norm_i64_to (y.t - y.f) rfl (by omega) ?_
      refine norm_i64_to (b + (y.t - y.f)) rfl (by omega) ?_
      refine norm_i64_to ((i + 1 : Nat) : Int) (by show ((i : Nat) : Int) + 1 = _; omega) (by omega) ?_
      exact ⟨(i + 1, b + (y.t - y.f)), rfl, ⟨hE5.trans hE57, hi, by show 0 ≤ b + (y.t - y.f); omega, by show b + (y.t - y.f) + totS (M.drop (i + 1)) ≤ _; omega, next (fun hh => d1 hh.1)⟩, by show M.length - (i + 1) < M.length - i; omega⟩
  · rw [List.drop_eq_nil_of_le (by simp only at c3; omega), locL] at hrs
    refine load_blk0 (hB1.ext ((hE2.trans hE4).trans hE5)) rfl ?_
    refine wif_ne (fun d1 => ?_) (fun d1 => ?_)
    · exact ⟨by rw [hrs, if_neg (by rw [hts] at d1; exact d1)], hE05⟩
    · exact ⟨by rw [hrs, if_pos (by rw [hts] at d1; exact d1)], hE05⟩

set_option maxHeartbeats 1600000 in
theorem sglobal_fn (tx : List Nat) (A : Option Addr) (n cp : Nat) (L : List Sx) (c : Nat) (at_ : Int) (w : World) (h : SX w A n cp L) (hc : c ≤ 18446744073709551615) (h8 : ∀ x ∈ tx, x < 256) (h63 : at_ ≤ 9223372036854775807) :
    Fn Tryz.prog 21 [srcV tx A n cp, .int .u64 c, .int .i64 at_] w (fun u w' => u = .tuple #[.int .i64 (glbP tx L c at_).1, .bool (glbP tx L c at_).2] ∧ Ext w w') := by
  have hlen := h.sl.2
  have hts := strOf_size tx
  refine fn_of_exec (c := { c21 with cuts := [] }) gx_ok Tryz.func21 rfl rfl rfl ?_
  refine new (fun w1 hE1 hz1 hB1 => ?_)
  refine loadN_blk0 hB1 rfl ?_
  refine call (scheck_fn tx A n cp L w1 (h.ext hE1) h8) ?_
  rintro _ w2 ⟨rfl, hE2⟩
  have hE02 := hE1.trans hE2
  refine wif_ne (fun c1 => ?_) (fun c1 => ?_)
  · exact ⟨by unfold glbP; rw [if_neg (fun hh => c1 hh.1)], hE02⟩
  refine wif_d (fun c2 => ?_) (fun c2 => ?_)
  · exact ⟨by unfold glbP; rw [if_neg (fun hh => by omega)], hE02⟩
  obtain ⟨t1, t2, t3⟩ := chkS_zero.1 c1
  have hall := chkL_all (Int.le_refl 0) t3
  refine loadN_blk0 (hB1.ext hE2) rfl ?_
  refine call (selected_fn tx A n cp L c w2 (h.ext hE02) hc (fun y hy => (hall y hy).ck) (by omega)) ?_
  rintro _ w4 ⟨O, oc, rfl, hE4, hO4, _⟩
  have hE04 := hE02.trans hE4
  have hmall : ∀ y ∈ selL c L, SegB tx y := fun y hy => hall y (List.mem_filter.1 hy).1
  have hml : (selL c L).length ≤ 65536 := Nat.le_trans (List.length_filter_le _ _) t2
  have hsp : glbP tx L c at_ = glbL tx.length at_ (selL c L) := if_pos ⟨c1, by omega⟩
  rw [hsp]
  generalize hM : selL c L = M at *
  refine loop gx_ok [22, 2] (fun s : Nat × Int => [.int .i64 s.1, .int .i64 s.2]) (fun s w' => Ext w4 w' ∧ s.1 ≤ M.length ∧ 0 ≤ s.2 ∧ s.2 ≤ 9223372036854775807 ∧ glbL tx.length at_ M = glbL tx.length s.2 (M.drop s.1)) (fun s _ => M.length - s.1) (0, at_) rfl ⟨Ext.refl _, Nat.zero_le _, by show 0 ≤ at_; omega, h63, rfl⟩ ?_
  rintro ⟨i, b⟩ w5 ⟨hE5, hle, b0, bt, hrs⟩
  simp only at hle b0 bt hrs
  have hE05 := hE04.trans hE5
  refine wif_d (fun c3 => ?_) (fun c3 => ?_)
  · have hi : i < M.length := by simp only at c3; omega
    refine index_sls sx_len (hO4.ext hE5).sl rfl hi (fun p y hy hcl => ?_)
    have hy : M[i]? = some y := hy
    have hyb := hmall y (List.mem_of_getElem? hy)
    have q1 := hyb.f0
    have q2 := hyb.ft
    have q3 := hyb.tl
    rw [drop_get hy, glbL] at hrs
    refine loadN_at (vs := y.cells) rfl hcl ?_
    refine new (fun w6 hE6 hz6 hB6 => ?_)
    refine storeN_blk0 hB6 rfl (sc rfl) (fun w7 hg7 _ hB7 => ?_)
    have hE57 : Ext w5 w7 := newBox hE6 hB6 hg7
    refine load_blk hB7 rfl ?_
    refine load_blk0 hB7 rfl ?_
    refine norm_i64_to (y.t - y.f) rfl (by omega) ?_
    refine wif_d (fun d1 => ?_) (fun d1 => ?_)
    · rw [if_pos (by omega)] at hrs
      refine norm_i64_to (b - (y.t - y.f)) rfl (by omega) ?_
      refine norm_i64_to ((i + 1 : Nat) : Int) (by show ((i : Nat) : Int) + 1 = _; omega) (by omega) ?_
      exact ⟨(i + 1, b - (y.t - y.f)), rfl, ⟨hE5.trans hE57, hi, by show 0 ≤ b - (y.t - y.f); omega, by show b - (y.t - y.f) ≤ _; omega, hrs⟩, by show M.length - (i + 1) < M.length - i; omega⟩
    · rw [if_neg (by omega)] at hrs
      refine load_blk0 hB7 rfl ?_
      refine norm_i64_to (y.f + b) rfl (by omega) ?_
      exact ⟨by rw [hrs], hE05.trans hE57⟩
  · rw [List.drop_eq_nil_of_le (by simp only at c3; omega), glbL] at hrs
    refine wif_d (fun d1 => ?_) (fun d1 => ?_)
    · exact ⟨by rw [hrs, if_pos d1], hE05⟩
    · rw [if_neg d1] at hrs
      refine load_blk0 (hB1.ext ((hE2.trans hE4).trans hE5)) rfl ?_
      exact ⟨by rw [hrs, hts], hE05⟩

set_option maxHeartbeats 1600000 in
theorem sorigin_fn (tx : List Nat) (A : Option Addr) (n cp : Nat) (L : List Sx) (at_ : Int) (w : World) (h : SX w A n cp L) (h8 : ∀ x ∈ tx, x < 256) :
    Fn Tryz.prog 23 [srcV tx A n cp, .int .i64 at_] w (fun u w' => u = .tuple #[.int .i64 (oriP tx L at_).1, .int .i64 (oriP tx L at_).2.1, .bool (oriP tx L at_).2.2] ∧ Ext w w') := by
  have hlen := h.sl.2
  have hts := strOf_size tx
  refine fn_of_exec (c := { c23 with cuts := [] }) gx_ok Tryz.func23 rfl rfl rfl ?_
  refine new (fun w1 hE1 hz1 hB1 => ?_)
  refine loadN_blk0 hB1 rfl ?_
  refine call (scheck_fn tx A n cp L w1 (h.ext hE1) h8) ?_
  rintro _ w2 ⟨rfl, hE2⟩
  have hE02 := hE1.trans hE2
  refine wif_ne (fun c1 => ?_) (fun c1 => ?_)
  · exact ⟨by unfold oriP; rw [if_neg (fun hh => c1 hh.1)], hE02⟩
  refine wif_d (fun c2 => ?_) (fun c2 => ?_)
  · exact ⟨by unfold oriP; rw [if_neg (fun hh => by omega)], hE02⟩
  refine load_blk0 (hB1.ext hE2) rfl ?_
  refine wif_d (fun c3 => ?_) (fun c3 => ?_)
  · exact ⟨by unfold oriP; rw [if_neg (fun hh => by omega)], hE02⟩
  obtain ⟨t1, t2, t3⟩ := chkS_zero.1 c1
  have hall := chkL_all (Int.le_refl 0) t3
  have hsp : oriP tx L at_ = oriL at_ L := if_pos ⟨c1, by omega, by omega⟩
  rw [hsp]
  refine load_blk (hB1.ext hE2) rfl ?_
  refine loop gx_ok [26] (fun s : Nat => [.int .i64 s]) (fun s w' => Ext w2 w' ∧ s ≤ L.length ∧ oriL at_ L = oriL at_ (L.drop s)) (fun s _ => L.length - s) 0 rfl ⟨Ext.refl _, Nat.zero_le _, rfl⟩ ?_
  rintro i w5 ⟨hE5, hle, hrs⟩
  have hE05 := hE02.trans hE5
  refine wif_d (fun c3 => ?_) (fun c3 => ?_)
  · have hi : i < n := by omega
    refine index_sls sx_len (h.ext hE05).sl rfl hi (fun p y hy hcl => ?_)
    have hyb := hall y (List.mem_of_getElem? hy)
    have q1 := hyb.f0
    have q2 := hyb.ft
    have q3 := hyb.tl
    have q4 := hyb.a0
    have q5 := hyb.a1
    rw [drop_get hy, oriL] at hrs
    refine loadN_at (vs := y.cells) rfl hcl ?_
    refine new (fun w6 hE6 hz6 hB6 => ?_)
    refine storeN_blk0 hB6 rfl (sc rfl) (fun w7 hg7 _ hB7 => ?_)
    have hE57 : Ext w5 w7 := newBox hE6 hB6 hg7
    refine load_blk hB7 rfl ?_
    refine wif_d (fun d1 => ?_) (fun d1 => ?_)
    · rw [if_pos d1] at hrs
      have qB : ∀ w', Ext w7 w' → ∀ (j : Nat) (v : Value), y.cells[j]? = some v → w'.cell? ((⟨w5.heap.size, 0, none⟩ : Addr).add j) = some v := fun w' hw' j v hj => by rw [(hB7.ext hw').cell]; exact hj
      refine draw gx_ok (by kernel_rfl) ?_
      refine qload (v := .int .i64 y.fl) (fun w' hw' => qB w' hw' 2 _ rfl) ?_
      refine qload (v := .int .i64 y.at_) (fun w' hw' => qB w' hw' 3 _ rfl) ?_
      refine norm_i64_to (y.at_ + at_) rfl (by omega) ?_
      refine qload (v := .int .i64 y.f) (fun w' hw' => by have := qB w' hw' 0 _ rfl; simpa [Addr.add] using this) ?_
      refine norm_i64_to (y.at_ + at_ - y.f) rfl (by omega) ?_
      intro w8 hE8
      exact ⟨by rw [hrs], (hE05.trans hE57).trans hE8⟩
    · rw [if_neg d1] at hrs
      refine norm_i64_to ((i + 1 : Nat) : Int) (by show ((i : Nat) : Int) + 1 = _; omega) (by omega) ?_
      exact ⟨i + 1, rfl, ⟨hE5.trans hE57, by omega, hrs⟩, by show L.length - (i + 1) < L.length - i; omega⟩
  · rw [List.drop_eq_nil_of_le (by omega), oriL] at hrs
    exact ⟨by rw [hrs], hE05⟩
end

section
open Go Go.RowKit

/-! ### Keys of two numbers -/
abbrev I2 := Int × Int
abbrev i2C (t : I2) : List Value := [.int .i64 t.1, .int .i64 t.2]
abbrev i2K : I2 → Value := fun t => .agg #[.int .i64 t.1, .int .i64 t.2]
theorem i2Eq (a b : I2) (n : Nat) (w : World) : (Op.equalIn (n + 2) 43 (i2K a) (i2K b)).run Tryz.prog w = .ok (decide (a = b)) w := by
  obtain ⟨i, hi⟩ := Option.isSome_iff_exists.1 (show (Tryz.prog.info? 3).isSome = true by kernel_rfl)
  obtain ⟨a0, a1⟩ := a
  obtain ⟨b0, b1⟩ := b
  have e := run_equalIn_array (w := w) (n + 1) #[.int .i64 a0, .int .i64 a1] #[.int .i64 b0, .int .i64 b1] Tryz.underlying43 hi
  rw [ci1, show List.range 2 = [0, 1] from rfl] at e
  refine e.trans ?_
  have p0 : ∀ x y : Int, (part 3 #[Value.int .i64 x, .int .i64 y] (0 * 1)).run Tryz.prog w = .ok (.int .i64 x) w := fun x y => part_one k3 rfl w
  have p1 : ∀ x y : Int, (part 3 #[Value.int .i64 x, .int .i64 y] (1 * 1)).run Tryz.prog w = .ok (.int .i64 y) w := fun x y => part_one k3 rfl w
  have dd : decide ((a0, a1) = (b0, b1)) = (a0 == b0 && a1 == b1) := by
    by_cases h0 : a0 = b0 <;> by_cases h1 : a1 = b1 <;> simp [h0, h1]
  rw [dd]
  simp only [Op.eqItems, Sem.run_bind, p0, Result.andThen_ok, intEq]
  cases h0 : a0 == b0 with
  | false => simp
  | true =>
    simp only [Bool.not_true, Bool.false_eq_true, if_false, Sem.run_bind, p1, Result.andThen_ok, intEq, Bool.true_and]
    cases h1 : a1 == b1 <;> simp
theorem i2Check (b : Bool) (a : I2) (n : Nat) (w : World) : (Instr.checkKey b (n + 2) 43 (i2K a)).run Tryz.prog w = .ok () w := by
  obtain ⟨i, hi⟩ := Option.isSome_iff_exists.1 (show (Tryz.prog.info? 3).isSome = true by kernel_rfl)
  have p0 : ∀ x y : Int, (part 3 #[Value.int .i64 x, .int .i64 y] 0).run Tryz.prog w = .ok (.int .i64 x) w := fun x y => part_one k3 rfl w
  have p1 : ∀ x y : Int, (part 3 #[Value.int .i64 x, .int .i64 y] 1).run Tryz.prog w = .ok (.int .i64 y) w := fun x y => part_one k3 rfl w
  have hz : (sizeOf 3).run Tryz.prog w = .ok 1 w := by rw [← ci1]; exact Go.run_sizeOf w hi
  simp [Instr.checkKey, run_underlying Tryz.underlying43, run_underlying Tryz.underlying3, hz, p0, p1, Std.Legacy.Range.forIn_eq_forIn_range', Std.Legacy.Range.size, List.range'_succ]
theorem i2Key : KeyQ Tryz.prog 43 i2K :=
  KeyQ.askingA Tryz.underlying43 (fun a b w => i2Eq a b 9998 w) (fun b a w => i2Check b a 9998 w) (fun a => by simp [Instr.sameBits])

/-! ### Common configurations -/
def Meets (a : List Br) (x : Int) (b : List Br) (y : Int) : Prop := ∃ e, ev a x e = true ∧ ev b y e = true
theorem ev_some {a : List Br} (h : Rd0 a) {x : Int} (h0 : 0 ≤ x) (h1 : x < a.length + 2) (hx : x ≠ 0) : ∃ e, ev a x e = true := by
  apply Classical.byContradiction
  intro hn
  refine hx (inj h h0 (by decide) h1 (by omega) (fun e => ?_))
  have e1 : ev a 0 e = false := by rw [ev_lt (by decide)]; rfl
  rw [e1]
  cases hc : ev a x e with
  | false => rfl
  | true => exact absurd ⟨e, hc⟩ hn
theorem meets_kids {a b : List Br} (ha : Rd0 a) (hb : Rd0 b) {x y : Int} (x0 : 0 ≤ x) (x1 : x < a.length + 2) (y0 : 0 ≤ y) (y1 : y < b.length + 2) {v : Int} (hv : v = min (lvlD a x) (lvlD b y)) (h64 : v < 64) :
    Meets a x b y ↔ Meets a (sideD a x v).1 b (sideD b y v).1 ∨ Meets a (sideD a x v).2 b (sideD b y v).2 := by
  have l1 : v ≤ lvlD a x := by rw [hv, Int.min_def]; split <;> omega
  have l2 : v ≤ lvlD b y := by rw [hv, Int.min_def]; split <;> omega
  obtain ⟨p1, p2, p3, p4, p5⟩ := side_mean ha x0 x1 l1 h64
  obtain ⟨q1, q2, q3, q4, q5⟩ := side_mean hb y0 y1 l2 h64
  have v0 : 0 ≤ v := by
    have := ha.lvl0 x1
    have := hb.lvl0 y1
    rw [hv, Int.min_def]; split <;> omega
  constructor
  · rintro ⟨e, e1, e2⟩
    rw [p1] at e1
    rw [q1] at e2
    cases he : e v.toNat with
    | true => rw [he, if_pos rfl] at e1 e2; exact .inr ⟨e, e1, e2⟩
    | false => rw [he, if_neg (by decide)] at e1 e2; exact .inl ⟨e, e1, e2⟩
  · rintro (⟨e, e1, e2⟩ | ⟨e, e1, e2⟩)
    · refine ⟨upd e v.toNat false, ?_, ?_⟩
      · rw [p1, show upd e v.toNat false v.toNat = false from if_pos rfl, if_neg (by decide), ev_upd ha v.toNat false e _ _ (Nat.lt_succ_self _) p4 (by omega)]; exact e1
      · rw [q1, show upd e v.toNat false v.toNat = false from if_pos rfl, if_neg (by decide), ev_upd hb v.toNat false e _ _ (Nat.lt_succ_self _) q4 (by omega)]; exact e2
    · refine ⟨upd e v.toNat true, ?_, ?_⟩
      · rw [p1, show upd e v.toNat true v.toNat = true from if_pos rfl, if_pos rfl, ev_upd ha v.toNat true e _ _ (Nat.lt_succ_self _) p5 (by omega)]; exact e1
      · rw [q1, show upd e v.toNat true v.toNat = true from if_pos rfl, if_pos rfl, ev_upd hb v.toNat true e _ _ (Nat.lt_succ_self _) q5 (by omega)]; exact e2

/-! ### meets -/
structure MP where
  D : DV
  E : DV
  bo : Nat
  sx : Nat
  ax : Nat
  bx : Nat
  cx : Nat
  q : Nat
def MP.caps (p : MP) : List Value := [VP.ptr p.bo, VP.ptr p.sx, VP.ptr p.ax, VP.ptr p.bx, VP.ptr p.cx]
def MP.clo (p : MP) : Value := .func (.func 101) #[] #[VP.ptr p.bo, VP.ptr p.sx, VP.ptr p.ax, VP.ptr p.bx, VP.ptr p.cx]
structure MK (w : World) (p : MP) : Prop where
  bob : Blk w p.bo 4 [.bool true]
  sxb : Blk w p.sx 169 [.map (some p.q)]
  axb : Blk w p.ax 42 p.D.cells
  bxb : Blk w p.bx 42 p.E.cells
  cxb : Blk w p.cx 170 [p.clo]
  as_ : SB w p.D.A p.D.n p.D.c p.D.nd
  bs : SB w p.E.A p.E.n p.E.c p.E.nd
  off : p.bo ≠ p.q ∧ p.sx ≠ p.q ∧ p.ax ≠ p.q ∧ p.bx ≠ p.q ∧ p.cx ≠ p.q
  rowA : ∀ ad, p.D.A = some ad → 0 < p.D.n → ad.block ≠ p.q
  rowB : ∀ ad, p.E.A = some ad → 0 < p.E.n → ad.block ≠ p.q
theorem MK.mod {w w' : World} {p : MP} (h : MK w p) (hm : Mod (· = p.q) w w') : MK w' p := by
  obtain ⟨o1, o2, o3, o4, o5⟩ := h.off
  refine ⟨h.bob.mod hm o1, h.sxb.mod hm o2, h.axb.mod hm o3, h.bxb.mod hm o4, h.cxb.mod hm o5, ⟨h.as_.1.modS hm ?_, h.as_.2⟩, ⟨h.bs.1.modS hm ?_, h.bs.2⟩, h.off, h.rowA, h.rowB⟩
  · rintro h0 i ⟨ad, e, rfl⟩
    exact h.rowA ad e h0
  · rintro h0 i ⟨ad, e, rfl⟩
    exact h.rowB ad e h0
theorem MK.ext {w w' : World} {p : MP} (h : MK w p) (k : Ext w w') : MK w' p := h.mod (Mod.of_ext _ k)
/-- The pairs seen. -/
def SeenM (w : World) (q : Nat) (S : List I2) : Prop := ∃ m, MapQ i2K w q m ∧ ∀ t, (assoc t m).getD (.bool false) = .bool (decide (t ∈ S))
def MtC (p : MP) (x y : Int) (S : List I2) (w : World) (v : Value) (w' : World) : Prop :=
  Mod (· = p.q) w w' ∧ ∃ r : Bool, v = .bool r ∧ (r = true → Meets p.D.nd x p.E.nd y) ∧ (r = false → ¬ Meets p.D.nd x p.E.nd y ∧ ∃ S', SeenM w' p.q S' ∧ ∀ t ∈ S', t ∈ S ∨ ¬ Meets p.D.nd t.1 p.E.nd t.2)

set_option maxHeartbeats 1600000 in
theorem meets1_fn (p : MP) (ha : Rd0 p.D.nd) (hb : Rd0 p.E.nd) : ∀ (k : Nat) (x y : Int) (S : List I2) (w : World),
    MK w p → SeenM w p.q S → (∀ t ∈ S, t.1 + t.2 ≤ x + y → ¬ Meets p.D.nd t.1 p.E.nd t.2) → 0 ≤ x → 0 ≤ y → x < p.D.n + 2 → y < p.E.n + 2 → x + y < k →
    Fn Tryz.prog 101 (.int .i64 x :: .int .i64 y :: p.caps) w (MtC p x y S w)
  | 0, x, y, _, _, _, _, _, x0, y0, _, _, hk => by omega
  | k + 1, x, y, S, w, hK, hS, hno, x0, y0, hx, hy, hk => by
    have ih := meets1_fn p ha hb k
    have hal : p.D.nd.length = p.D.n := hK.as_.2
    have hbl : p.E.nd.length = p.E.n := hK.bs.2
    refine fn_of_exec (c := { c101 with cuts := [] }) gx_ok Tryz.func101 rfl rfl rfl ?_
    refine wif_eq (fun c1 => ?_) (fun c1 => ?_)
    · exact ⟨Mod.refl _ _, false, rfl, fun h => (by cases h), fun _ => ⟨(fun ⟨e, e1, _⟩ => by rw [c1, ev_lt (by decide)] at e1; cases e1), S, hS, fun t ht => .inl ht⟩⟩
    refine wif_d (fun c2 => ?_) (fun c2 => ?_)
    · refine load_blk0 hK.bob rfl ?_
      by_cases y1 : y = 1
      · subst y1
        refine wif_f rfl ?_
        refine wif_dt c2 ?_
        refine ⟨Mod.refl _ _, true, rfl, fun _ => ?_, fun h => by cases h⟩
        obtain ⟨e, he⟩ := ev_some ha x0 (by omega) c1
        exact ⟨e, he, by rw [ev_lt (by decide)]; rfl⟩
      · have y00 : y = 0 := by omega
        subst y00
        refine wif_t rfl ?_
        exact ⟨Mod.refl _ _, false, rfl, fun h => (by cases h), fun _ => ⟨(fun ⟨e, _, e1⟩ => by rw [ev_lt (by decide)] at e1; cases e1), S, hS, fun t ht => .inl ht⟩⟩
    refine wif_df c2 ?_
    obtain ⟨mq, hmq, hmem⟩ := hS
    refine load_blk0 hK.sxb rfl ?_
    refine at_lookupQ (kv := i2K) (a := ((x, y) : I2)) gx_ok rfl rfl rfl rfl i2Key rfl rfl hmq (hmem (x, y)) ?_
    refine wif_d (fun c3 => ?_) (fun c3 => ?_)
    · exact ⟨Mod.refl _ _, false, rfl, fun h => (by cases h), fun _ => ⟨hno (x, y) c3 (Int.le_refl _), S, ⟨mq, hmq, hmem⟩, fun t ht => .inl ht⟩⟩
    refine load_blk0 hK.sxb rfl ?_
    refine at_mapUpdateQ (kv := i2K) (a := ((x, y) : I2)) gx_ok rfl rfl rfl rfl i2Key rfl rfl rfl hmq (fun w1 hM1 hz1 hq1 => ?_)
    have hK1 := hK.mod hM1
    have hS1 : SeenM w1 p.q ((x, y) :: S) := ⟨_, hq1, fun t => by
      rw [assoc_set]
      by_cases ht : t = (x, y)
      · subst ht; simp
      · rw [if_neg ht, hmem t]; simp [ht]⟩
    have hv64 : min (lvlD p.D.nd x) (lvlD p.E.nd y) < 64 := by
      have := lvl_lt hb.dok (n := y) c2 (by omega)
      rw [Int.min_def]; split <;> omega
    have hl0 := ha.lvl0 (n := x) (by omega)
    have hl1 := hb.lvl0 (n := y) (by omega)
    refine draw_plan gx_ok (Ext w1) 8 [(true, 0), (true, 1), (true, 3), (true, 4), (false, 2), (false, 5), (true, 6), (true, 7)] (by kernel_rfl) (Ext.drew w1) ?_
    refine qloadN (vs := p.D.cells) rfl (fun w' hw' j v hj => by rw [(hK1.axb.ext hw').cell]; exact hj) ?_
    refine qloadN (vs := p.E.cells) rfl (fun w' hw' j v hj => by rw [(hK1.bxb.ext hw').cell]; exact hj) ?_
    refine call (level_fn p.D.A p.D.n p.D.c p.D.r x p.D.nd _ (hK1.as_.ext (Ext.drew w1)) (by omega)) ?_
    rintro u w2 ⟨rfl, hE2⟩
    have hE12 := (Ext.drew w1).trans hE2
    refine ⟨hE12, ?_⟩
    refine call (level_fn p.E.A p.E.n p.E.c p.E.r y p.E.nd _ (hK1.bs.ext hE12) (by omega)) ?_
    rintro u w3 ⟨rfl, hE3⟩
    have hE13 := hE12.trans hE3
    refine ⟨hE13, ?_⟩
    have hmin : (if lvlD p.E.nd y < lvlD p.D.nd x then lvlD p.E.nd y else lvlD p.D.nd x) = min (lvlD p.D.nd x) (lvlD p.E.nd y) := by
      rw [Int.min_def]; split <;> split <;> omega
    refine norm (m := min (lvlD p.D.nd x) (lvlD p.E.nd y)) hmin ?_
    have hkids := meets_kids ha hb x0 (by omega) y0 (by omega) (rfl : min (lvlD p.D.nd x) (lvlD p.E.nd y) = _) hv64
    have hvx : lvlD p.D.nd x = min (lvlD p.D.nd x) (lvlD p.E.nd y) ∨ lvlD p.E.nd y = min (lvlD p.D.nd x) (lvlD p.E.nd y) := by rw [Int.min_def]; split <;> simp
    generalize hveq : min (lvlD p.D.nd x) (lvlD p.E.nd y) = v at *
    obtain ⟨s1, s2, s3, s4, s5⟩ := sideD_le ha.dok (n := x) x0 hv64
    obtain ⟨t1, t2, t3, t4, t5⟩ := sideD_le hb.dok (n := y) y0 hv64
    have dec : (sideD p.D.nd x v).1 + (sideD p.E.nd y v).1 < x + y ∧ (sideD p.D.nd x v).2 + (sideD p.E.nd y v).2 < x + y := by
      rcases hvx with e | e
      · have := s5 e; omega
      · have := t5 e; omega
    have hK3 := hK1.ext hE13
    refine loadN_blk0 hK3.axb rfl ?_
    refine call (dsides_fn p.D.A p.D.n p.D.c p.D.r x v p.D.nd _ hK3.as_ (by omega) hv64) ?_
    rintro u w4 ⟨rfl, hE4⟩
    have hK4 := hK3.ext hE4
    refine loadN_blk0 hK4.bxb rfl ?_
    refine call (dsides_fn p.E.A p.E.n p.E.c p.E.r y v p.E.nd _ hK4.bs (by omega) hv64) ?_
    rintro u w5 ⟨rfl, hE5⟩
    have hK5 := hK4.ext hE5
    have hE15 := (hE13.trans hE4).trans hE5
    have hM5 : Mod (· = p.q) w w5 := hM1.trans (Mod.of_ext (· = p.q) hE15) (fun i hi => .inl hi)
    have hS5 : SeenM w5 p.q ((x, y) :: S) := let ⟨m, k1, k2⟩ := hS1; ⟨m, k1.ext hE15, k2⟩
    refine load_blk0 hK5.cxb rfl ?_
    refine call (ih (sideD p.D.nd x v).1 (sideD p.E.nd y v).1 ((x, y) :: S) w5 hK5 hS5 (fun t ht hle => by
      rcases List.mem_cons.1 ht with rfl | ht
      · exact absurd hle (by simp only; omega)
      · exact hno t ht (by omega)) s1 t1 (by omega) (by omega) (by omega)) ?_
    rintro _ w6 ⟨hM6, r0, rfl, ht0, hf0⟩
    have hM06 : Mod (· = p.q) w w6 := hM5.trans hM6 (fun i hi => .inl hi)
    cases r0 with
    | true =>
      refine wif_t rfl ?_
      exact ⟨hM06, true, rfl, fun _ => hkids.2 (.inl (ht0 rfl)), fun h => by cases h⟩
    | false =>
      obtain ⟨n0, S6, hS6, hin6⟩ := hf0 rfl
      refine wif_f rfl ?_
      have hK6 := hK5.mod hM6
      refine load_blk0 hK6.cxb rfl ?_
      refine call (ih (sideD p.D.nd x v).2 (sideD p.E.nd y v).2 S6 w6 hK6 hS6 (fun t ht hle => by
        rcases hin6 t ht with ht | ht
        · rcases List.mem_cons.1 ht with rfl | ht
          · exact absurd hle (by simp only; omega)
          · exact hno t ht (by omega)
        · exact ht) s3 t3 (by omega) (by omega) (by omega)) ?_
      rintro _ w7 ⟨hM7, r1, rfl, ht1, hf1⟩
      have hM07 : Mod (· = p.q) w w7 := hM06.trans hM7 (fun i hi => .inl hi)
      refine ⟨hM07, r1, rfl, fun h => hkids.2 (.inr (ht1 h)), fun h => ?_⟩
      obtain ⟨n1, S7, hS7, hin7⟩ := hf1 h
      have nn : ¬ Meets p.D.nd x p.E.nd y := fun hh => (hkids.1 hh).elim n0 n1
      refine ⟨nn, S7, hS7, fun t ht => ?_⟩
      rcases hin7 t ht with ht | ht
      · rcases hin6 t ht with ht | ht
        · rcases List.mem_cons.1 ht with rfl | ht
          · exact .inr nn
          · exact .inl ht
        · exact .inr ht
      · exact .inr ht

theorem meets_fn (A : Option Addr) (n c : Nat) (a : List Br) (ra : Int) (B : Option Addr) (m d : Nat) (b : List Br) (rb : Int) (w : World) (h : SB w A n c a) (h' : SB w B m d b) (ha : VD a ra) (hb : VD b rb) :
    Fn Tryz.prog 63 [dgV A n c ra, dgV B m d rb, .bool true] w (fun u w' => ∃ r : Bool, u = .bool r ∧ Ext w w' ∧ (r = true ↔ Meets a ra b rb)) := by
  have hal := h.2
  have hbl := h'.2
  refine fn_of_exec (c := { c63 with cuts := [] }) gx_ok Tryz.func63 rfl rfl rfl ?_
  refine new (fun w1 hE1 hz1 hB1 => ?_)
  refine new (fun w2 hE2 hz2 hB2 => ?_)
  refine new (fun w3 hE3 hz3 hB3 => ?_)
  have hE03 := (hE1.trans hE2).trans hE3
  refine at_makeMapQ gx_ok i2K rfl ?_
  intro w4 hE4 hz4 hq4
  refine new (fun w5 hE5 hz5 hB5 => ?_)
  refine store_mod0 hB5 (by decide) (fun w6 hM6 hB6 => ?_)
  have hE46 : Ext w4 w6 := hM6.ext hE5 (fun i hi => by omega)
  refine new (fun w7 hE7 hz7 hB7 => ?_)
  refine store_mod0 hB7 (by decide) (fun w8 hM8 hB8 => ?_)
  have hE68 : Ext w6 w8 := hM8.ext hE7 (fun i hi => by omega)
  have hE48 := hE46.trans hE68
  have hE38 := hE4.trans hE48
  have hE08 := hE03.trans hE38
  have z6 := hE46.size
  let p : MP := ⟨⟨A, n, c, a, ra⟩, ⟨B, m, d, b, rb⟩, w2.heap.size, w4.heap.size, w.heap.size, w1.heap.size, w6.heap.size, w3.heap.size⟩
  have hK : MK w8 p := by
    refine ⟨hB3.ext hE38, hB6.ext hE68, hB1.ext ((hE2.trans hE3).trans hE38), hB2.ext (hE3.trans hE38), hB8, h.ext hE08, h'.ext hE08, ?_, fun ad e h0 => ?_, fun ad e h0 => ?_⟩
    · simp only [p]; omega
    · have := SB.lt h ad e h0
      simp only [p]; omega
    · have := SB.lt h' ad e h0
      simp only [p]; omega
  refine load_blk0 hK.cxb rfl ?_
  refine load_blk hK.axb rfl ?_
  refine load_blk hK.bxb rfl ?_
  refine call (meets1_fn p ha.rd0 hb.rd0 (ra.toNat + rb.toNat + 1) ra rb [] w8 hK ⟨[], hq4.ext hE48, fun t => rfl⟩ (fun t ht => by cases ht) ha.2.1 hb.2.1 (by have := ha.2.2.1; simp only [p]; omega) (by have := hb.2.2.1; simp only [p]; omega) (by have := ha.2.1; have := hb.2.1; omega)) ?_
  rintro _ w9 ⟨hM9, r, rfl, h1, h2⟩
  refine ⟨r, rfl, hM9.ext hE08 (fun i hi => by simp only [p] at hi; have := hE03.size; omega), ⟨h1, fun hh => ?_⟩⟩
  cases r with
  | true => rfl
  | false => exact absurd hh (h2 rfl).1

open Classical in
/-- What Disjoint answers. -/
noncomputable def disP (a : List Br) (ra : Int) (b : List Br) (rb : Int) : Bool := decide (chkD a ra = 0 ∧ chkD b rb = 0 ∧ ¬ Meets a ra b rb)
open Classical in
theorem disP_iff {a : List Br} {ra : Int} {b : List Br} {rb : Int} : disP a ra b rb = true ↔ chkD a ra = 0 ∧ chkD b rb = 0 ∧ ¬ Meets a ra b rb := by unfold disP; exact decide_eq_true_iff
theorem disP_t {a : List Br} {ra : Int} {b : List Br} {rb : Int} (h : chkD a ra = 0 ∧ chkD b rb = 0 ∧ ¬ Meets a ra b rb) : disP a ra b rb = true := disP_iff.2 h
theorem disP_f {a : List Br} {ra : Int} {b : List Br} {rb : Int} (h : ¬ (chkD a ra = 0 ∧ chkD b rb = 0 ∧ ¬ Meets a ra b rb)) : disP a ra b rb = false := by
  cases hh : disP a ra b rb with
  | false => rfl
  | true => exact absurd (disP_iff.1 hh) h
theorem disjoint_fn (A : Option Addr) (n c : Nat) (a : List Br) (ra : Int) (B : Option Addr) (m d : Nat) (b : List Br) (rb : Int) (w : World) (h : SB w A n c a) (h' : SB w B m d b) :
    Fn Tryz.prog 35 [dgV A n c ra, dgV B m d rb] w (fun u w' => u = .bool (disP a ra b rb) ∧ Ext w w') := by
  refine fn_of_exec (c := { c35 with cuts := [] }) gx_ok Tryz.func35 rfl rfl rfl ?_
  refine new (fun w1 hE1 hz1 hB1 => ?_)
  refine new (fun w2 hE2 hz2 hB2 => ?_)
  have hE02 := hE1.trans hE2
  refine loadN_blk0 (hB1.ext hE2) rfl ?_
  refine loadN_blk0 hB2 rfl ?_
  refine at_buildN gx_ok [(⟨A, n, c, a, ra⟩ : DV).cells, (⟨B, m, d, b, rb⟩ : DV).cells] rfl rfl rfl rfl rfl ⟨rfl, rfl, rfl, rfl, ⟨⟩⟩ rfl (fun cs h => by simp only [List.mem_cons, List.not_mem_nil, or_false] at h; rcases h with rfl | rfl <;> rfl) rfl (by decide) (by decide) ?_
  intro w5 hE5 hz5 hB5
  have hE05 := hE02.trans hE5
  have hL : SlS DV.cells 2 w5 (some ⟨w2.heap.size, 0, none⟩) 2 2 [⟨A, n, c, a, ra⟩, ⟨B, m, d, b, rb⟩] := ⟨Sl.own (sz := 2) (n := 2) hB5 (Nat.le_refl _) (by decide) (by simp [DV.cells]), rfl⟩
  refine call (dcheck_fn _ 2 2 _ w5 hL (fun x hx => by
    simp only [List.mem_cons, List.not_mem_nil, or_false] at hx
    rcases hx with rfl | rfl
    · exact h.ext hE05
    · exact h'.ext hE05)) ?_
  rintro v w6 ⟨rfl, hE6⟩
  have hE06 := hE05.trans hE6
  have ef : firstD [(⟨A, n, c, a, ra⟩ : DV), ⟨B, m, d, b, rb⟩] = if chkD a ra ≠ 0 then chkD a ra else if chkD b rb ≠ 0 then chkD b rb else 0 := rfl
  have hf0 : firstD [(⟨A, n, c, a, ra⟩ : DV), ⟨B, m, d, b, rb⟩] = 0 ↔ chkD a ra = 0 ∧ chkD b rb = 0 := by
    rw [ef]
    by_cases h1 : chkD a ra = 0
    · rw [if_neg (fun hh => hh h1)]
      by_cases h2 : chkD b rb = 0
      · rw [if_neg (fun hh => hh h2)]; simp [h1, h2]
      · rw [if_pos h2]; simp [h2]
    · rw [if_pos h1]; simp [h1]
  refine wif_eq (fun c1 => ?_) (fun c1 => ?_)
  · obtain ⟨ca, cb⟩ := hf0.1 c1
    refine loadN_blk0 ((hB1.ext hE2).ext (hE5.trans hE6)) rfl ?_
    refine loadN_blk0 (hB2.ext (hE5.trans hE6)) rfl ?_
    refine call (meets_fn A n c a ra B m d b rb w6 (h.ext hE06) (h'.ext hE06) (chkD_zero.1 ca).2 (chkD_zero.1 cb).2) ?_
    rintro _ w7 ⟨r, rfl, hE7, hr⟩
    refine ⟨?_, hE06.trans hE7⟩
    cases r with
    | true => rw [disP_f (fun hh => hh.2.2 (hr.1 rfl))]; rfl
    | false => rw [disP_t ⟨ca, cb, fun hh => by have := hr.2 hh; cases this⟩]; rfl
  · exact ⟨by rw [disP_f (fun hh => c1 (hf0.2 ⟨hh.1, hh.2.1⟩))], hE06⟩

/-! ### Dead -/
def ixV (l : List Nat) : List Value := l.map (fun (i : Nat) => Value.int .i64 i)
noncomputable def deadL (b : List Br) (rb : Int) : Nat → List Sx → List Nat
  | _, [] => []
  | i, y :: L => if disP y.x.nd y.x.r b rb then i :: deadL b rb (i + 1) L else deadL b rb (i + 1) L
noncomputable def deadP (tx : List Nat) (L : List Sx) (b : List Br) (rb : Int) : List Nat × Int :=
  if chkS tx L ≠ 0 then ([], chkS tx L) else if chkD b rb ≠ 0 then ([], 20) else (deadL b rb 0 L, 0)
structure DeadI (w0 : World) (base : Nat) (b : List Br) (rb : Int) (L : List Sx) (i : Nat) (O : Option Addr) (oc : Nat) (l : List Nat) (w : World) : Prop where
  e : Ext w0 w
  le : i ≤ L.length
  ln : l.length ≤ i
  own : Own w base 3 1 O l.length oc (ixV l)
  rs : deadL b rb 0 L = l ++ deadL b rb i (L.drop i)

set_option maxHeartbeats 1600000 in
theorem sdead_fn (tx : List Nat) (A : Option Addr) (n cp : Nat) (L : List Sx) (B : Option Addr) (m d : Nat) (b : List Br) (rb : Int) (w : World) (h : SX w A n cp L) (h' : SB w B m d b) (h8 : ∀ x ∈ tx, x < 256) :
    Fn Tryz.prog 25 [srcV tx A n cp, dgV B m d rb] w (fun u w' => ∃ O oc, u = .tuple #[.slice O (deadP tx L b rb).1.length oc, .int .i64 (deadP tx L b rb).2] ∧ Ext w w' ∧ Sl w' 1 O (deadP tx L b rb).1.length oc (ixV (deadP tx L b rb).1)) := by
  have hlen := h.sl.2
  refine fn_of_exec (c := { c25 with cuts := [] }) gx_ok Tryz.func25 rfl rfl rfl ?_
  refine new (fun w1 hE1 hz1 hB1 => ?_)
  refine new (fun w2 hE2 hz2 hB2 => ?_)
  have hE02 := hE1.trans hE2
  refine loadN_blk0 (hB1.ext hE2) rfl ?_
  refine call (scheck_fn tx A n cp L w2 (h.ext hE02) h8) ?_
  rintro _ w3 ⟨rfl, hE3⟩
  have hE03 := hE02.trans hE3
  refine wif_ne (fun c1 => ?_) (fun c1 => ?_)
  · have e : deadP tx L b rb = ([], chkS tx L) := if_pos c1
    rw [e]
    exact ⟨none, 0, rfl, hE03, (Own.nil w3 0 0 1).sl⟩
  refine loadN_blk0 (hB2.ext hE3) rfl ?_
  refine call (check2_fn B m d b rb w3 (h'.ext hE03)) ?_
  rintro _ w4 ⟨rfl, hE4⟩
  have hE04 := hE03.trans hE4
  refine wif_ne (fun c2 => ?_) (fun c2 => ?_)
  · have e : deadP tx L b rb = ([], 20) := by unfold deadP; rw [if_neg (fun hh => hh c1), if_pos c2]
    rw [e]
    exact ⟨none, 0, rfl, hE04, (Own.nil w4 0 0 1).sl⟩
  have e : deadP tx L b rb = (deadL b rb 0 L, 0) := by unfold deadP; rw [if_neg (fun hh => hh c1), if_neg (fun hh => hh c2)]
  rw [e]
  obtain ⟨t1, t2, t3⟩ := chkS_zero.1 c1
  have hE24 := hE3.trans hE4
  refine load_blk ((hB1.ext hE2).ext hE24) rfl ?_
  refine loop gx_ok [21, 7] (fun s : Nat × Option Addr × Nat × List Nat => [.int .i64 s.1, .slice s.2.1 s.2.2.2.length s.2.2.1]) (fun s w' => DeadI w4 w4.heap.size b rb L s.1 s.2.1 s.2.2.1 s.2.2.2 w') (fun s _ => L.length - s.1) (0, none, 0, []) rfl ⟨Ext.refl _, Nat.zero_le _, Nat.le_refl _, Own.nil _ _ _ _, rfl⟩ ?_
  rintro ⟨i, O, oc, l⟩ w5 hI
  have hE05 := hE04.trans hI.e
  have ho := hI.own
  have hle := hI.le
  have hln := hI.ln
  have hrs := hI.rs
  simp only at ho hle hln hrs
  refine wif_d (fun c3 => ?_) (fun c3 => ?_)
  · have hi : i < n := by simp only at c3; omega
    refine index_sls sx_len (h.ext hE05).sl rfl hi (fun p y hy hcl => ?_)
    have hy : L[i]? = some y := hy
    have hym := List.mem_of_getElem? hy
    rw [drop_get hy, deadL] at hrs
    refine loadN_at (vs := y.cells) rfl hcl ?_
    refine new (fun w6 hE6 hz6 hB6 => ?_)
    refine storeN_blk0 hB6 rfl (sc rfl) (fun w7 hg7 _ hB7 => ?_)
    have hE57 : Ext w5 w7 := newBox hE6 hB6 hg7
    have hE07 := hE05.trans hE57
    refine loadN_at (vs := [.slice y.x.A y.x.n y.x.c, .int .i64 y.x.r]) rfl (fun j v hj => by rw [Addr.add_add]; exact (hB7.cell _).trans (by match j, hj with | 0, hj => exact hj | 1, hj => exact hj)) ?_
    refine loadN_blk0 (hB2.ext (hE24.trans (hI.e.trans hE57))) rfl ?_
    refine call (disjoint_fn y.x.A y.x.n y.x.c y.x.nd y.x.r B m d b rb w7 ((h.dg y hym).ext hE07) (h'.ext hE07)) ?_
    rintro _ w8 ⟨rfl, hE8⟩
    have hE58 := hE57.trans hE8
    refine wif (fun d1 => ?_) (fun d1 => ?_)
    · rw [if_pos d1] at hrs
      refine at_buildN gx_ok [[Value.int .i64 ((i : Nat) : Int)]] rfl rfl rfl rfl rfl ⟨rfl, rfl, ⟨⟩⟩ rfl (fun cs hh => by simp only [List.mem_singleton] at hh; subst hh; rfl) rfl (by decide) (by decide) ?_
      intro w9 hE9 hz9 hB9
      have hE59 := hE58.trans hE9
      have hs9 : Sl w9 1 (some ⟨w8.heap.size, 0, none⟩) 1 1 [Value.int .i64 ((i : Nat) : Int)] := Sl.own (sz := 1) (n := 1) hB9 (Nat.le_refl _) (by decide) (by simp)
      refine at_app (n := l.length) gx_ok rfl rfl rfl rfl rfl (by decide) rfl rfl ⟨_, rfl⟩ rfl rfl (ho.ext hE59) hs9 (by simp [scalar]) (by unfold maxLen; omega) (by show (l.length + 1) * 8 ≤ _; omega) (by have := hI.e.size; have := hE59.size; omega) ?_
      intro A' c' w10 hm10 hown10 hmv10
      refine norm_i64_to ((i + 1 : Nat) : Int) (by show ((i : Nat) : Int) + 1 = _; omega) (by omega) ?_
      refine ⟨(i + 1, A', c', l ++ [i]), by simp only [List.length_append]; rfl, ⟨hm10.ext (hI.e.trans hE59) (fun k hk => (ho.rows k hk).1), by show i + 1 ≤ L.length; omega, by simp; omega, ?_, ?_⟩, by show L.length - (i + 1) < L.length - i; omega⟩
      · simp only
        have e2 : ixV (l ++ [i]) = ixV l ++ [Value.int .i64 ((i : Nat) : Int)] := by simp [ixV]
        rw [e2, List.length_append]
        exact hown10
      · simp only
        rw [hrs]; simp
    · rw [if_neg (by rw [d1]; decide)] at hrs
      refine norm_i64_to ((i + 1 : Nat) : Int) (by show ((i : Nat) : Int) + 1 = _; omega) (by omega) ?_
      exact ⟨(i + 1, O, oc, l), rfl, ⟨hI.e.trans hE58, by show i + 1 ≤ L.length; omega, by show l.length ≤ i + 1; omega, ho.ext hE58, hrs⟩, by show L.length - (i + 1) < L.length - i; omega⟩
  · rw [List.drop_eq_nil_of_le (by simp only at c3; omega), deadL, List.append_nil] at hrs
    rw [hrs]
    exact ⟨O, oc, rfl, hE05, ho.sl⟩
end
end Go.Proofs.YtedopgkbajhanaaGreatDoor
