/-
  The reference's Check, Select, Local, Global, Origin, Dead.
  Conditions: none.
-/
import Derived.Test.YtedopgkbajhanaaGreatDoorS6
namespace Go.Proofs.YtedopgkbajhanaaGreatDoor
open Go Go.RowKit

theorem rin_fn (A : Option Addr) (n c : Nat) (nd : List Br) (root : Int) (cfg : Nat) (hcf : cfg ≤ 18446744073709551615) (w : World) (h : SB w A n c nd) (hc : chkD nd root = 0) :
    Fn Tryz.prog 53 [dgV A n c root, .int .u64 cfg] w (fun v w' => v = .bool (ev nd root (bitE cfg)) ∧ Ext w w') := by
  have hlen := h.2
  obtain ⟨hsm, hv⟩ := chkD_zero.1 hc
  refine fn_of_exec (c := { c53 with cuts := [] }) gx_ok Tryz.func53 rfl rfl rfl ?_
  refine new (fun w1 hE1 hz1 hB1 => ?_)
  refine load_blk hB1 rfl ?_
  refine loop gx_ok [5] (fun s : Int => [.int .i64 s]) (fun s w' => Ext w1 w' ∧ 0 ≤ s ∧ s < n + 2 ∧ ev nd s (bitE cfg) = ev nd root (bitE cfg)) (fun s _ => s.toNat) root rfl ⟨Ext.refl _, hv.2.1, by have := hv.2.2.1; omega, rfl⟩ ?_
  rintro s w3 ⟨hE3, s0, s1, hs⟩
  have hE03 := hE1.trans hE3
  refine wif_d (fun h1 => ?_) (fun h1 => ?_)
  · refine load_blk0 (hB1.ext hE3) rfl ?_
    refine norm_i64_to (((s - 2).toNat : Nat) : Int) (by omega) (by omega) ?_
    refine index_sls br_len (h.ext hE03) rfl (by omega) (fun p x hx hcx => ?_)
    refine loadN_at (vs := x.cells) rfl hcx ?_
    refine new (fun w4 hE4 hz4 hB4 => ?_)
    refine storeN_blk0 hB4 rfl (sc rfl) (fun w5 hg5 hz5 hB5 => ?_)
    have hE35 : Ext w3 w5 := newBox hE4 hB4 hg5
    obtain ⟨b1, b2, b3, b4, b5, b6, b7, b8, b9, b10⟩ := hv.1 _ _ hx
    have hev := ev_ge hv.wf (n := s) (e := bitE cfg) (by omega) hx
    refine load_blk0 hB5 rfl ?_
    refine norm_u64_to (x.v.toNat : Int) (by omega) (by omega) ?_
    refine norm_shr x.v.toNat (2 ^ x.v.toNat) (by omega) (by show min _ 64 = _; omega) rfl ?_
    have hlt : cfg / 2 ^ x.v.toNat < 18446744073709551616 := Nat.lt_of_le_of_lt (Nat.div_le_self _ _) (by omega)
    refine norm (m := ((cfg / 2 ^ x.v.toNat % 2 : Nat) : Int)) (and_one _ hlt) ?_
    refine wif_eq (fun h2 => ?_) (fun h2 => ?_)
    · have hb : bitE cfg x.v.toNat = true := decide_eq_true (by omega)
      rw [hb, if_pos rfl] at hev
      refine load_blk hB5 rfl ?_
      exact ⟨x.h, rfl, ⟨hE3.trans hE35, b5, by omega, by rw [← hev]; exact hs⟩, by show x.h.toNat < s.toNat; omega⟩
    · have hb : bitE cfg x.v.toNat = false := decide_eq_false (by omega)
      rw [hb, if_neg (by decide)] at hev
      refine load_blk hB5 rfl ?_
      exact ⟨x.l, rfl, ⟨hE3.trans hE35, b3, by omega, by rw [← hev]; exact hs⟩, by show x.l.toNat < s.toNat; omega⟩
  · refine ⟨?_, hE03⟩
    rw [← hs, ev_lt (by omega)]
    rfl

theorem VD.set64 {nd : List Br} {r : Int} (h : VD nd r) : Set1 64 nd r (ev nd r) := ⟨h, fun b hb => by
  obtain ⟨j, hj, rfl⟩ := List.mem_iff_getElem.1 hb
  have := (h.1 j _ (List.getElem?_eq_getElem hj)).2.1
  omega, fun _ => rfl⟩
theorem root_zero {k : Nat} {nd : List Br} {r : Int} {o : BF} (h : Set1 k nd r o) : r = 0 ↔ ∀ e, o e = false := by
  constructor
  · intro h0 e
    rw [← h.mean e, h0, ev_lt (by decide)]; rfl
  · intro hn
    have := h.unique (const_set k false) hn
    exact congrArg Prod.snd this
theorem rcombV_set {a b : List Br} {ra rb : Int} (A : Option Addr) (n c : Nat) (B : Option Addr) (m d : Nat) (op : Int) (ho : op ≠ 3) (w : World) (h : SB w A n c a) (h' : SB w B m d b) (s : VD a ra) (s' : VD b rb) (l1 : a.length ≤ 4096) (l2 : b.length ≤ 4096) :
    Fn Tryz.prog 126 [dgV A n c ra, dgV B m d rb, .int .i64 op] w (DgS w 64 (fun e => opB op (ev a ra e) (ev b rb e))) := by
  have hal := h.2
  have hbl := h'.2
  have hb2 := at2D_bnd s s' op
  have hmul : (a.length + 2) * (b.length + 2) ≤ 4098 * 4098 := Nat.mul_le_mul (by omega) (by omega)
  refine (rcombine_fn A n c a ra B m d b rb op w h h' s.dok s'.dok s.2.1 (by have := s.2.2.1; omega) s'.2.1 (by have := s'.2.2.1; omega) (by omega) (by omega) (by omega) (by omega) ho).mono ?_
  rintro v w' ⟨OA, q, oc, rfl, hE, hO, hR⟩
  exact ⟨OA, q, oc, _, _, rfl, hE, hO, comb_set s.set64 s'.set64 op, hR⟩
theorem rinterV_fn {a b : List Br} {ra rb : Int} (A : Option Addr) (n c : Nat) (B : Option Addr) (m d : Nat) (w : World) (h : SB w A n c a) (h' : SB w B m d b) (s : VD a ra) (s' : VD b rb) (l1 : a.length ≤ 4096) (l2 : b.length ≤ 4096) :
    Fn Tryz.prog 89 [dgV A n c ra, dgV B m d rb] w (DgS w 64 (fun e => opB 0 (ev a ra e) (ev b rb e))) := by
  refine fn_of_exec (c := { c89 with cuts := [] }) gx_ok Tryz.func89 rfl rfl rfl ?_
  refine new (fun w1 hE1 hz1 hB1 => ?_)
  refine new (fun w2 hE2 hz2 hB2 => ?_)
  refine new (fun w3 hE3 hz3 hB3 => ?_)
  have hE03 := (hE1.trans hE2).trans hE3
  refine loadN_blk0 ((hB1.ext hE2).ext hE3) rfl ?_
  refine loadN_blk0 (hB2.ext hE3) rfl ?_
  refine call (rcombV_set A n c B m d 0 (by decide) w3 (h.ext hE03) (h'.ext hE03) s s' l1 l2) ?_
  rintro _ w4 ⟨PA, q, pc, nd, r, rfl, hE4, hP4, hS4, hR4⟩
  refine storeN_blk0 (hB3.ext hE4) rfl (sc rfl) (fun w5 hg5 _ hB5 => ?_)
  have hM5 : Mod (· = w2.heap.size) w4 w5 := Mod.of_grown hg5 rfl
  refine loadN_blk0 hB5 rfl ?_
  exact ⟨PA, q, pc, nd, r, rfl, hM5.ext (hE03.trans hE4) (fun i hi => by omega), hP4.mod hM5 (fun i hi e => by have := hR4 i hi; omega), hS4, fun i hi => by have := hR4 i hi; omega⟩
theorem rdisjoint_fn (A : Option Addr) (n c : Nat) (a : List Br) (ra : Int) (B : Option Addr) (m d : Nat) (b : List Br) (rb : Int) (w : World) (h : SB w A n c a) (h' : SB w B m d b) :
    Fn Tryz.prog 56 [dgV A n c ra, dgV B m d rb] w (fun u w' => u = .bool (disP a ra b rb) ∧ Ext w w') := by
  have hal := h.2
  have hbl := h'.2
  refine fn_of_exec (c := { c56 with cuts := [] }) gx_ok Tryz.func56 rfl rfl rfl ?_
  refine new (fun w1 hE1 hz1 hB1 => ?_)
  refine new (fun w2 hE2 hz2 hB2 => ?_)
  have hE02 := hE1.trans hE2
  refine loadN_blk0 (hB1.ext hE2) rfl ?_
  refine loadN_blk0 hB2 rfl ?_
  refine at_buildN gx_ok [(⟨A, n, c, a, ra⟩ : DV).cells, (⟨B, m, d, b, rb⟩ : DV).cells] rfl rfl rfl rfl rfl ⟨rfl, rfl, rfl, rfl, ⟨⟩⟩ rfl (fun cs h => by simp only [List.mem_cons, List.not_mem_nil, or_false] at h; rcases h with rfl | rfl <;> rfl) rfl (by decide) (by decide) ?_
  intro w5 hE5 hz5 hB5
  have hE05 := hE02.trans hE5
  have hL : SlS DV.cells 2 w5 (some ⟨w2.heap.size, 0, none⟩) 2 2 [⟨A, n, c, a, ra⟩, ⟨B, m, d, b, rb⟩] := ⟨Sl.own (sz := 2) (n := 2) hB5 (Nat.le_refl _) (by decide) (by simp [DV.cells]), rfl⟩
  refine call (rfirst_fn _ 2 2 _ w5 hL (fun x hx => by
    simp only [List.mem_cons, List.not_mem_nil, or_false] at hx
    rcases hx with rfl | rfl
    · exact h.ext hE05
    · exact h'.ext hE05)) ?_
  rintro v w6 ⟨rfl, hE6⟩
  have hE06 := hE05.trans hE6
  have ef : firstD [(⟨A, n, c, a, ra⟩ : DV), ⟨B, m, d, b, rb⟩] = if chkD a ra ≠ 0 then chkD a ra else if chkD b rb ≠ 0 then chkD b rb else 0 := rfl
  have hf0 : firstD [(⟨A, n, c, a, ra⟩ : DV), ⟨B, m, d, b, rb⟩] = 0 ↔ chkD a ra = 0 ∧ chkD b rb = 0 := by
    rw [ef]
    by_cases h1 : chkD a ra = 0
    · rw [if_neg (fun hh => hh h1)]
      by_cases h2 : chkD b rb = 0
      · rw [if_neg (fun hh => hh h2)]; simp [h1, h2]
      · rw [if_pos h2]; simp [h2]
    · rw [if_pos h1]; simp [h1]
  refine wif_eq (fun c1 => ?_) (fun c1 => ?_)
  · obtain ⟨ca, cb⟩ := hf0.1 c1
    obtain ⟨la, va⟩ := chkD_zero.1 ca
    obtain ⟨lb, vb⟩ := chkD_zero.1 cb
    refine loadN_blk0 ((hB1.ext hE2).ext (hE5.trans hE6)) rfl ?_
    refine loadN_blk0 (hB2.ext (hE5.trans hE6)) rfl ?_
    refine call (rinterV_fn A n c B m d w6 (h.ext hE06) (h'.ext hE06) va vb (by omega) (by omega)) ?_
    rintro _ w7 ⟨OA, q, oc, nd, r, rfl, hE7, hO, hS, hR⟩
    refine ⟨?_, hE06.trans hE7⟩
    have hz := root_zero hS
    by_cases hm : Meets a ra b rb
    · rw [disP_f (fun hh => hh.2.2 hm)]
      have : r ≠ 0 := fun h0 => by
        obtain ⟨e, e1, e2⟩ := hm
        have := hz.1 h0 e
        simp only [opB, e1, e2] at this
        cases this
      show Value.bool (r == 0) = _
      rw [beq_false_of_ne this]
    · rw [disP_t ⟨ca, cb, hm⟩]
      have : r = 0 := hz.2 (fun e => by
        cases h1 : ev a ra e with
        | false => rfl
        | true => cases h2 : ev b rb e with
          | false => rfl
          | true => exact absurd ⟨e, h1, h2⟩ hm)
      subst this
      rfl
  · exact ⟨by rw [disP_f (fun hh => c1 (hf0.2 ⟨hh.1, hh.2.1⟩))], hE06⟩

/-! ### Check -/

set_option maxHeartbeats 1600000 in
theorem rscheck_fn (tx : List Nat) (A : Option Addr) (n cp : Nat) (L : List Sx) (w : World) (h : SX w A n cp L) (h8 : ∀ x ∈ tx, x < 256) :
    Fn Tryz.prog 28 [srcV tx A n cp] w (fun u w' => u = .int .i64 (chkS tx L) ∧ Ext w w') := by
  have hlen := h.sl.2
  have hts := strOf_size tx
  refine fn_of_exec (c := { c28 with cuts := [] }) gx_ok Tryz.func28 rfl rfl rfl ?_
  refine new (fun w1 hE1 hz1 hB1 => ?_)
  refine load_blk0 hB1 rfl ?_
  refine wif_d (fun c1 => ?_) (fun c1 => ?_)
  · exact ⟨by unfold chkS; rw [if_pos (.inl (by omega))], hE1⟩
  refine load_blk hB1 rfl ?_
  refine wif_d (fun c2 => ?_) (fun c2 => ?_)
  · exact ⟨by unfold chkS; rw [if_pos (.inr (by omega))], hE1⟩
  have hcs : chkS tx L = open Classical in if chkL tx 0 L then 0 else 70 := by unfold chkS; rw [if_neg (by omega)]
  refine loop gx_ok [4, 3] (fun s : Nat × Int => [.int .i64 s.1, .int .i64 s.2]) (fun s w' => ChkI w1 tx L s.1 s.2 w') (fun s _ => L.length - s.1) (0, 0) rfl ⟨Ext.refl _, Nat.zero_le _, Int.le_refl _, by omega, Iff.rfl⟩ ?_
  rintro ⟨i, at_⟩ w2 hI
  have hE02 := hE1.trans hI.e
  have a0 := hI.a0
  have al := hI.al
  simp only at a0 al
  have hB2 := hB1.ext hI.e
  refine load_blk hB2 rfl ?_
  refine wif_d (fun c3 => ?_) (fun c3 => ?_)
  · have hi : i < n := by simp only at c3; omega
    refine load_blk hB2 rfl ?_
    refine index_sls sx_len (h.sl.ext hE02) rfl hi (fun p y hy hc => ?_)
    have hy : L[i]? = some y := hy
    refine loadN_at (vs := y.cells) rfl hc ?_
    refine new (fun w3 hE3 hz3 hB3 => ?_)
    refine storeN_blk0 hB3 rfl (sc rfl) (fun w4 hg4 _ hB4 => ?_)
    have hE24 : Ext w2 w4 := newBox hE3 hB3 hg4
    have hE04 := hE02.trans hE24
    have hB1' := hB2.ext hE24
    have hrs := hI.rs
    simp only at hrs
    rw [drop_get hy, chkL] at hrs
    have bad : ¬ segOk tx at_ y → ∀ w', Ext w w' → (Value.int .i64 70 = .int .i64 (chkS tx L)) ∧ Ext w w' := fun hno w' hE => ⟨by rw [hcs, if_neg (fun hh => hno (hrs.1 hh).1)], hE⟩
    refine load_blk0 hB4 rfl ?_
    refine wif_ne (fun d1 => ?_) (fun d1 => ?_)
    · exact bad (fun hb => d1 hb.1) _ hE04
    refine load_blk hB4 rfl ?_
    refine wif_d (fun d2 => ?_) (fun d2 => ?_)
    · exact bad (fun hb => by have := hb.2.1; omega) _ hE04
    refine load_blk hB4 rfl ?_
    refine load_blk0 hB1' rfl ?_
    refine wif_d (fun d3 => ?_) (fun d3 => ?_)
    · exact bad (fun hb => by have := hb.2.2.1; omega) _ hE04
    have hyt : y.t ≤ tx.length := by omega
    refine load_blk hB4 rfl ?_
    refine wif_d (fun d6 => ?_) (fun d6 => ?_)
    · exact bad (fun hh => by have := hh.2.2.2.2.2.1; omega) _ hE04
    refine load_blk hB4 rfl ?_
    refine wif_d (fun d7 => ?_) (fun d7 => ?_)
    · exact bad (fun hh => by have := hh.2.2.2.2.2.2.1; omega) _ hE04
    refine load_blk hB4 rfl ?_
    refine load_blk hB4 rfl ?_
    refine load_blk0 hB4 rfl ?_
    refine norm_i64_to (y.t - y.f) rfl (by omega) ?_
    refine norm_i64_to (1048576 - (y.t - y.f)) rfl (by omega) ?_
    refine wif_d (fun d8 => ?_) (fun d8 => ?_)
    · exact bad (fun hh => by have := hh.2.2.2.2.2.2.2; omega) _ hE04
    refine loadN_at (vs := [.slice y.x.A y.x.n y.x.c, .int .i64 y.x.r]) rfl (fun j v hj => by rw [Addr.add_add]; exact (hB4.cell _).trans (by match j, hj with | 0, hj => exact hj | 1, hj => exact hj)) ?_
    refine call (rcheck2_fn y.x.A y.x.n y.x.c y.x.nd y.x.r w4 ((h.dg y (List.mem_of_getElem? hy)).ext hE04)) ?_
    rintro _ w5 ⟨rfl, hE5⟩
    have hE05 := hE04.trans hE5
    have hB5 := hB4.ext hE5
    refine wif_ne (fun d5 => ?_) (fun d5 => ?_)
    · exact bad (fun hh => d5 hh.2.2.2.2.1) _ hE05
    refine load_blk0 (hB1'.ext hE5) rfl ?_
    refine load_blk hB5 rfl ?_
    have hj : (y.t - 1).toNat < tx.length := by omega
    refine norm_i64_to (((y.t - 1).toNat : Nat) : Int) (by omega) (by omega) ?_
    refine sindex' (by rw [hts]; exact hj) (fun b hb _ => ?_)
    rw [bytesOf_strOf h8] at hb
    refine wif_ne (fun d4 => ?_) (fun d4 => ?_)
    · exact bad (fun hh => by have := hh.2.2.2.1; rw [hb] at this; exact d4 (by have := Option.some.inj this; omega)) _ hE05
    have hb10 : tx[(y.t - 1).toNat]? = some 10 := by rw [hb]; congr 1; omega
    refine load_blk hB5 rfl ?_
    refine norm_i64_to ((i + 1 : Nat) : Int) (by show ((i : Nat) : Int) + 1 = _; omega) (by omega) ?_
    have hok : segOk tx at_ y := ⟨d1, by omega, hyt, hb10, d5, by omega, by omega, by omega⟩
    exact ⟨(i + 1, y.t), rfl, ⟨hI.e.trans (hE24.trans hE5), by show i + 1 ≤ L.length; omega, by show 0 ≤ y.t; omega, hyt, by simp only; rw [hrs]; exact ⟨fun hh => hh.2, fun hh => ⟨hok, hh⟩⟩⟩, by show L.length - (i + 1) < L.length - i; omega⟩
  · have hdrop : L.drop i = [] := List.drop_eq_nil_of_le (by simp only at c3; omega)
    have hrs := hI.rs
    simp only at hrs
    rw [hdrop, chkL] at hrs
    refine load_blk0 hB2 rfl ?_
    refine wif_ne (fun d1 => ?_) (fun d1 => ?_)
    · exact ⟨by rw [hcs, if_neg (fun hh => d1 (by rw [hts]; exact hrs.1 hh))], hE02⟩
    · exact ⟨by rw [hcs, if_pos (hrs.2 (by rw [hts] at d1; exact d1))], hE02⟩

theorem selL_cons (c : Nat) (y : Sx) (L : List Sx) : selL c (y :: L) = if inS c y then y :: selL c L else selL c L := by unfold selL; rw [List.filter_cons]
/-! ### Local, Global, Origin, Select -/

set_option maxHeartbeats 1600000 in
theorem rslocal_fn (tx : List Nat) (A : Option Addr) (n cp : Nat) (L : List Sx) (c : Nat) (at_ : Int) (w : World) (h : SX w A n cp L) (hc : c ≤ 18446744073709551615) (h8 : ∀ x ∈ tx, x < 256) :
    Fn Tryz.prog 20 [srcV tx A n cp, .int .u64 c, .int .i64 at_] w (fun u w' => u = .tuple #[.int .i64 (locP tx L c at_).1, .bool (locP tx L c at_).2] ∧ Ext w w') := by
  have hlen := h.sl.2
  have hts := strOf_size tx
  refine fn_of_exec (c := { c20 with cuts := [] }) gx_ok Tryz.func20 rfl rfl rfl ?_
  refine new (fun w1 hE1 hz1 hB1 => ?_)
  refine loadN_blk0 hB1 rfl ?_
  refine call (rscheck_fn tx A n cp L w1 (h.ext hE1) h8) ?_
  rintro _ w2 ⟨rfl, hE2⟩
  have hE02 := hE1.trans hE2
  refine wif_ne (fun c1 => ?_) (fun c1 => ?_)
  · exact ⟨by unfold locP; rw [if_neg c1], hE02⟩
  obtain ⟨t1, t2, t3⟩ := chkS_zero.1 c1
  have hall := chkL_all (Int.le_refl 0) t3
  have hsp : locP tx L c at_ = locL tx.length at_ 0 (selL c L) := if_pos c1
  have htot : totS L ≤ tx.length := by have := totS_chk t3; omega
  rw [hsp]
  refine loop gx_ok [9, 8] (fun s : Nat × Int => [.int .i64 s.1, .int .i64 s.2]) (fun s w' => Ext w2 w' ∧ s.1 ≤ L.length ∧ 0 ≤ s.2 ∧ s.2 + totS (L.drop s.1) ≤ tx.length ∧ locL tx.length at_ 0 (selL c L) = locL tx.length at_ s.2 (selL c (L.drop s.1))) (fun s _ => L.length - s.1) (0, 0) rfl ⟨Ext.refl _, Nat.zero_le _, Int.le_refl _, by simpa using htot, rfl⟩ ?_
  rintro ⟨i, b⟩ w5 ⟨hE5, hle, b0, bt, hrs⟩
  simp only at hle b0 bt hrs
  have hE05 := hE02.trans hE5
  have hB5 := (hB1.ext hE2).ext hE5
  refine load_blk hB5 rfl ?_
  refine wif_d (fun c3 => ?_) (fun c3 => ?_)
  · have hi : i < n := by simp only at c3; omega
    refine load_blk hB5 rfl ?_
    refine index_sls sx_len (h.ext hE05).sl rfl hi (fun p y hy hcl => ?_)
    have hy : L[i]? = some y := hy
    have hym := List.mem_of_getElem? hy
    have hyb := hall y hym
    have q1 := hyb.f0
    have q2 := hyb.ft
    have q3 := hyb.tl
    rw [drop_get hy] at bt hrs
    rw [totS_cons] at bt
    rw [selL_cons] at hrs
    have hnn : 0 ≤ totS (L.drop (i + 1)) := totS_nn (fun z hz => hall z (List.mem_of_mem_drop hz))
    refine loadN_at (vs := y.cells) rfl hcl ?_
    refine new (fun w6 hE6 hz6 hB6 => ?_)
    refine storeN_blk0 hB6 rfl (sc rfl) (fun w7 hg7 _ hB7 => ?_)
    have hE57 : Ext w5 w7 := newBox hE6 hB6 hg7
    have hE07 := hE05.trans hE57
    refine loadN_at (vs := [.slice y.x.A y.x.n y.x.c, .int .i64 y.x.r]) rfl (fun j v hj => by rw [Addr.add_add]; exact (hB7.cell _).trans (by match j, hj with | 0, hj => exact hj | 1, hj => exact hj)) ?_
    refine call (rin_fn y.x.A y.x.n y.x.c y.x.nd y.x.r c hc w7 ((h.dg y hym).ext hE07) hyb.ck) ?_
    rintro _ w8 ⟨rfl, hE8⟩
    have hE58 := hE57.trans hE8
    have hB8 := hB7.ext hE8
    have hin : inS c y = ev y.x.nd y.x.r (bitE c) := rfl
    cases hI : inS c y with
    | false =>
      rw [hI, if_neg (by decide)] at hrs
      refine wif_f (by rw [← hin]; exact hI) ?_
      refine wif_f (by rw [← hin]; exact hI) ?_
      refine norm_i64_to ((i + 1 : Nat) : Int) (by show ((i : Nat) : Int) + 1 = _; omega) (by omega) ?_
      exact ⟨(i + 1, b), rfl, ⟨hE5.trans hE58, by show i + 1 ≤ L.length; omega, b0, by show b + totS (L.drop (i + 1)) ≤ _; omega, hrs⟩, by show L.length - (i + 1) < L.length - i; omega⟩
    | true =>
      rw [hI, if_pos rfl, locL] at hrs
      have next : ¬ (y.f ≤ at_ ∧ at_ < y.t) → locL tx.length at_ 0 (selL c L) = locL tx.length at_ (b + (y.t - y.f)) (selL c (L.drop (i + 1))) := fun hh => by rw [hrs, if_neg hh]
      refine wif_t (by rw [← hin]; exact hI) ?_
      refine load_blk0 hB8 rfl ?_
      refine wif_d (fun d1 => ?_) (fun d1 => ?_)
      · refine load_blk hB8 rfl ?_
        refine wif_d (fun d2 => ?_) (fun d2 => ?_)
        · refine norm_i64_to (b + at_) rfl (by omega) ?_
          refine load_blk0 hB8 rfl ?_
          refine norm_i64_to (b + at_ - y.f) rfl (by omega) ?_
          exact ⟨by rw [hrs, if_pos ⟨d1, d2⟩], hE05.trans hE58⟩
        · refine wif_t (by rw [← hin]; exact hI) ?_
          refine load_blk hB8 rfl ?_
          refine norm_i64_to (b + y.t) rfl (by omega) ?_
          refine load_blk0 hB8 rfl ?_
          refine norm_i64_to (b + (y.t - y.f)) (by omega) (by omega) ?_
          refine norm_i64_to ((i + 1 : Nat) : Int) (by show ((i : Nat) : Int) + 1 = _; omega) (by omega) ?_
          exact ⟨(i + 1, b + (y.t - y.f)), rfl, ⟨hE5.trans hE58, by show i + 1 ≤ L.length; omega, by show 0 ≤ b + (y.t - y.f); omega, by show b + (y.t - y.f) + totS (L.drop (i + 1)) ≤ _; omega, next (fun hh => d2 hh.2)⟩, by show L.length - (i + 1) < L.length - i; omega⟩
      · refine wif_t (by rw [← hin]; exact hI) ?_
        refine load_blk hB8 rfl ?_
        refine norm_i64_to (b + y.t) rfl (by omega) ?_
        refine load_blk0 hB8 rfl ?_
        refine norm_i64_to (b + (y.t - y.f)) (by omega) (by omega) ?_
        refine norm_i64_to ((i + 1 : Nat) : Int) (by show ((i : Nat) : Int) + 1 = _; omega) (by omega) ?_
        exact ⟨(i + 1, b + (y.t - y.f)), rfl, ⟨hE5.trans hE58, by show i + 1 ≤ L.length; omega, by show 0 ≤ b + (y.t - y.f); omega, by show b + (y.t - y.f) + totS (L.drop (i + 1)) ≤ _; omega, next (fun hh => d1 hh.1)⟩, by show L.length - (i + 1) < L.length - i; omega⟩
  · rw [List.drop_eq_nil_of_le (by simp only at c3; omega)] at hrs
    have hrs : locL tx.length at_ 0 (selL c L) = if at_ = (tx.length : Int) then (b, true) else (0, false) := hrs
    refine load_blk0 hB5 rfl ?_
    refine wif_eq (fun d1 => ?_) (fun d1 => ?_)
    · exact ⟨by rw [hrs, if_pos (by rw [hts] at d1; exact d1)], hE05⟩
    · exact ⟨by rw [hrs, if_neg (by rw [hts] at d1; exact d1)], hE05⟩

set_option maxHeartbeats 1600000 in
theorem rsglobal_fn (tx : List Nat) (A : Option Addr) (n cp : Nat) (L : List Sx) (c : Nat) (at_ : Int) (w : World) (h : SX w A n cp L) (hc : c ≤ 18446744073709551615) (h63 : at_ ≤ 9223372036854775807) (h8 : ∀ x ∈ tx, x < 256) :
    Fn Tryz.prog 22 [srcV tx A n cp, .int .u64 c, .int .i64 at_] w (fun u w' => u = .tuple #[.int .i64 (glbP tx L c at_).1, .bool (glbP tx L c at_).2] ∧ Ext w w') := by
  have hlen := h.sl.2
  have hts := strOf_size tx
  refine fn_of_exec (c := { c22 with cuts := [] }) gx_ok Tryz.func22 rfl rfl rfl ?_
  refine new (fun w1 hE1 hz1 hB1 => ?_)
  refine loadN_blk0 hB1 rfl ?_
  refine call (rscheck_fn tx A n cp L w1 (h.ext hE1) h8) ?_
  rintro _ w2 ⟨rfl, hE2⟩
  have hE02 := hE1.trans hE2
  refine wif_ne (fun c1 => ?_) (fun c1 => ?_)
  · exact ⟨by unfold glbP; rw [if_neg (fun hh => c1 hh.1)], hE02⟩
  refine wif_d (fun c2 => ?_) (fun c2 => ?_)
  · exact ⟨by unfold glbP; rw [if_neg (fun hh => by omega)], hE02⟩
  obtain ⟨t1, t2, t3⟩ := chkS_zero.1 c1
  have hall := chkL_all (Int.le_refl 0) t3
  have hsp : glbP tx L c at_ = glbL tx.length at_ (selL c L) := if_pos ⟨c1, by omega⟩
  have htot : totS L ≤ tx.length := by have := totS_chk t3; omega
  rw [hsp]
  refine loop gx_ok [9, 8] (fun s : Nat × Int => [.int .i64 s.1, .int .i64 s.2]) (fun s w' => Ext w2 w' ∧ s.1 ≤ L.length ∧ 0 ≤ s.2 ∧ s.2 ≤ at_ ∧ s.2 + totS (L.drop s.1) ≤ tx.length ∧ glbL tx.length at_ (selL c L) = glbL tx.length (at_ - s.2) (selL c (L.drop s.1))) (fun s _ => L.length - s.1) (0, 0) rfl ⟨Ext.refl _, Nat.zero_le _, Int.le_refl _, by show (0 : Int) ≤ at_; omega, by simpa using htot, by simp⟩ ?_
  rintro ⟨i, b⟩ w5 ⟨hE5, hle, b0, ba, bt, hrs⟩
  simp only at hle b0 ba bt hrs
  have hE05 := hE02.trans hE5
  have hB5 := (hB1.ext hE2).ext hE5
  refine load_blk hB5 rfl ?_
  refine wif_d (fun c3 => ?_) (fun c3 => ?_)
  · have hi : i < n := by simp only at c3; omega
    refine load_blk hB5 rfl ?_
    refine index_sls sx_len (h.ext hE05).sl rfl hi (fun p y hy hcl => ?_)
    have hy : L[i]? = some y := hy
    have hym := List.mem_of_getElem? hy
    have hyb := hall y hym
    have q1 := hyb.f0
    have q2 := hyb.ft
    have q3 := hyb.tl
    have q4 := hyb.a0
    have q5 := hyb.a1
    rw [drop_get hy] at hrs bt
    rw [totS_cons] at bt
    have hnn : 0 ≤ totS (L.drop (i + 1)) := totS_nn (fun z hz => hall z (List.mem_of_mem_drop hz))
    refine loadN_at (vs := y.cells) rfl hcl ?_
    refine new (fun w6 hE6 hz6 hB6 => ?_)
    refine storeN_blk0 hB6 rfl (sc rfl) (fun w7 hg7 _ hB7 => ?_)
    have hE57 : Ext w5 w7 := newBox hE6 hB6 hg7
    have hE07 := hE05.trans hE57
    refine loadN_at (vs := [.slice y.x.A y.x.n y.x.c, .int .i64 y.x.r]) rfl (fun j v hj => by rw [Addr.add_add]; exact (hB7.cell _).trans (by match j, hj with | 0, hj => exact hj | 1, hj => exact hj)) ?_
    refine call (rin_fn y.x.A y.x.n y.x.c y.x.nd y.x.r c hc w7 ((h.dg y hym).ext hE07) hyb.ck) ?_
    rintro _ w8 ⟨rfl, hE8⟩
    have hE58 := hE57.trans hE8
    have hB8 := hB7.ext hE8
    have hin : inS c y = ev y.x.nd y.x.r (bitE c) := rfl
    rw [selL_cons] at hrs
    cases hI : inS c y with
    | false =>
      rw [hI, if_neg (by decide)] at hrs
      refine wif_t (by rw [← hin, hI]; rfl) ?_
      refine norm_i64_to ((i + 1 : Nat) : Int) (by show ((i : Nat) : Int) + 1 = _; omega) (by omega) ?_
      exact ⟨(i + 1, b), rfl, ⟨hE5.trans hE58, by show i + 1 ≤ L.length; omega, b0, ba, by show b + totS (L.drop (i + 1)) ≤ _; omega, hrs⟩, by show L.length - (i + 1) < L.length - i; omega⟩
    | true =>
      rw [hI, if_pos rfl, glbL] at hrs
      refine wif_f (by rw [← hin, hI]; rfl) ?_
      refine load_blk hB8 rfl ?_
      refine norm_i64_to (b + y.t) rfl (by omega) ?_
      refine load_blk0 hB8 rfl ?_
      refine norm_i64_to (b + y.t - y.f) rfl (by omega) ?_
      refine wif_d (fun d1 => ?_) (fun d1 => ?_)
      · rw [if_neg (by omega)] at hrs
        refine load_blk0 hB8 rfl ?_
        refine norm_i64_to (y.f + at_) rfl (by omega) ?_
        refine norm_i64_to (y.f + at_ - b) rfl (by omega) ?_
        exact ⟨by rw [hrs, show y.f + (at_ - b) = y.f + at_ - b by omega], hE05.trans hE58⟩
      · rw [if_pos (by omega)] at hrs
        refine load_blk hB8 rfl ?_
        refine norm_i64_to (b + y.t) rfl (by omega) ?_
        refine load_blk0 hB8 rfl ?_
        refine norm_i64_to (b + (y.t - y.f)) (by omega) (by omega) ?_
        refine norm_i64_to ((i + 1 : Nat) : Int) (by show ((i : Nat) : Int) + 1 = _; omega) (by omega) ?_
        exact ⟨(i + 1, b + (y.t - y.f)), rfl, ⟨hE5.trans hE58, by show i + 1 ≤ L.length; omega, by show 0 ≤ b + (y.t - y.f); omega, by show b + (y.t - y.f) ≤ at_; omega, by show b + (y.t - y.f) + totS (L.drop (i + 1)) ≤ _; omega, by rw [hrs]; show _ = glbL _ (at_ - (b + (y.t - y.f))) _; rw [show at_ - b - (y.t - y.f) = at_ - (b + (y.t - y.f)) by omega]⟩, by show L.length - (i + 1) < L.length - i; omega⟩
  · rw [List.drop_eq_nil_of_le (by simp only at c3; omega)] at hrs
    have hrs : glbL tx.length at_ (selL c L) = if 0 < at_ - b then (0, false) else ((tx.length : Int), true) := hrs
    refine wif_eq (fun d1 => ?_) (fun d1 => ?_)
    · refine load_blk0 hB5 rfl ?_
      exact ⟨by rw [hrs, if_neg (by omega), hts], hE05⟩
    · exact ⟨by rw [hrs, if_pos (by have d1 : at_ ≠ b := d1; omega)], hE05⟩


set_option maxHeartbeats 1600000 in
theorem rsorigin_fn (tx : List Nat) (A : Option Addr) (n cp : Nat) (L : List Sx) (at_ : Int) (w : World) (h : SX w A n cp L) (h8 : ∀ x ∈ tx, x < 256) :
    Fn Tryz.prog 24 [srcV tx A n cp, .int .i64 at_] w (fun u w' => u = .tuple #[.int .i64 (oriP tx L at_).1, .int .i64 (oriP tx L at_).2.1, .bool (oriP tx L at_).2.2] ∧ Ext w w') := by
  have hlen := h.sl.2
  have hts := strOf_size tx
  refine fn_of_exec (c := { c24 with cuts := [] }) gx_ok Tryz.func24 rfl rfl rfl ?_
  refine new (fun w1 hE1 hz1 hB1 => ?_)
  refine loadN_blk0 hB1 rfl ?_
  refine call (rscheck_fn tx A n cp L w1 (h.ext hE1) h8) ?_
  rintro _ w2 ⟨rfl, hE2⟩
  have hE02 := hE1.trans hE2
  refine wif_ne (fun c1 => ?_) (fun c1 => ?_)
  · exact ⟨by unfold oriP; rw [if_neg (fun hh => c1 hh.1)], hE02⟩
  obtain ⟨t1, t2, t3⟩ := chkS_zero.1 c1
  have hall := chkL_all (Int.le_refl 0) t3
  refine loop gx_ok [7] (fun s : Nat => [.int .i64 s]) (fun s w' => Ext w2 w' ∧ s ≤ L.length ∧ ((∃ a : Int, chkL tx a (L.drop s) ∧ 0 ≤ a ∧ (a ≤ at_ ∨ at_ < 0) ∧ oriP tx L at_ = if 0 ≤ at_ ∧ at_ < tx.length then oriL at_ (L.drop s) else (0, 0, false)))) (fun s _ => L.length - s) 0 rfl ⟨Ext.refl _, Nat.zero_le _, 0, t3, Int.le_refl _, by omega, by
    unfold oriP
    by_cases hh : 0 ≤ at_ ∧ at_ < tx.length
    · rw [if_pos ⟨c1, hh⟩, if_pos hh]; rfl
    · rw [if_neg (fun h2 => hh h2.2), if_neg hh]⟩ ?_
  rintro i w5 ⟨hE5, hle, a, hch, a0, haa, hrs⟩
  have hE05 := hE02.trans hE5
  have hB5 := (hB1.ext hE2).ext hE5
  refine load_blk hB5 rfl ?_
  refine wif_d (fun c3 => ?_) (fun c3 => ?_)
  · have hi : i < n := by omega
    refine load_blk hB5 rfl ?_
    refine index_sls sx_len (h.ext hE05).sl rfl hi (fun p y hy hcl => ?_)
    have hy : L[i]? = some y := hy
    have hym := List.mem_of_getElem? hy
    have hyb := hall y hym
    have q1 := hyb.f0
    have q2 := hyb.ft
    have q3 := hyb.tl
    have q4 := hyb.a0
    have q5 := hyb.a1
    rw [drop_get hy] at hrs hch
    have hfa := hch.1.1
    refine loadN_at (vs := y.cells) rfl hcl ?_
    refine new (fun w6 hE6 hz6 hB6 => ?_)
    refine storeN_blk0 hB6 rfl (sc rfl) (fun w7 hg7 _ hB7 => ?_)
    have hE57 : Ext w5 w7 := newBox hE6 hB6 hg7
    have hE07 := hE05.trans hE57
    refine load_blk0 hB7 rfl ?_
    have go : ¬ (y.f ≤ at_ ∧ at_ < y.t) → ∃ a : Int, chkL tx a (L.drop (i + 1)) ∧ 0 ≤ a ∧ (a ≤ at_ ∨ at_ < 0) ∧ oriP tx L at_ = if 0 ≤ at_ ∧ at_ < tx.length then oriL at_ (L.drop (i + 1)) else (0, 0, false) := fun hh => ⟨y.t, hch.2, by omega, by omega, by
      rw [hrs]
      by_cases h2 : 0 ≤ at_ ∧ at_ < tx.length
      · rw [if_pos h2, if_pos h2, oriL, if_neg (by omega)]
      · rw [if_neg h2, if_neg h2]⟩
    refine wif_d (fun d1 => ?_) (fun d1 => ?_)
    · refine load_blk hB7 rfl ?_
      refine wif_d (fun d2 => ?_) (fun d2 => ?_)
      · rw [if_pos (by omega), oriL, if_pos d2] at hrs
        have qB : ∀ w', Ext w7 w' → ∀ (j : Nat) (v : Value), y.cells[j]? = some v → w'.cell? ((⟨w5.heap.size, 0, none⟩ : Addr).add j) = some v := fun w' hw' j v hj => by rw [(hB7.ext hw').cell]; exact hj
        refine draw gx_ok (by kernel_rfl) ?_
        refine qload (v := .int .i64 y.fl) (fun w' hw' => qB w' hw' 2 _ rfl) ?_
        refine qload (v := .int .i64 y.at_) (fun w' hw' => qB w' hw' 3 _ rfl) ?_
        refine norm_i64_to (y.at_ + at_) rfl (by omega) ?_
        refine qload (v := .int .i64 y.f) (fun w' hw' => by have := qB w' hw' 0 _ rfl; simpa [Addr.add] using this) ?_
        refine norm_i64_to (y.at_ + at_ - y.f) rfl (by omega) ?_
        intro w8 hE8
        exact ⟨by rw [hrs], (hE05.trans hE57).trans hE8⟩
      · refine norm_i64_to ((i + 1 : Nat) : Int) (by show ((i : Nat) : Int) + 1 = _; omega) (by omega) ?_
        exact ⟨i + 1, rfl, ⟨hE5.trans hE57, by omega, go (fun hh => d2 hh.2)⟩, by show L.length - (i + 1) < L.length - i; omega⟩
    · refine norm_i64_to ((i + 1 : Nat) : Int) (by show ((i : Nat) : Int) + 1 = _; omega) (by omega) ?_
      exact ⟨i + 1, rfl, ⟨hE5.trans hE57, by omega, go (fun hh => d1 hh.1)⟩, by show L.length - (i + 1) < L.length - i; omega⟩
  · rw [List.drop_eq_nil_of_le (by omega), oriL] at hrs
    refine ⟨?_, hE05⟩
    have : oriP tx L at_ = (0, 0, false) := by rw [hrs]; split <;> rfl
    rw [this]

set_option maxHeartbeats 1600000 in
theorem rsselect_fn (tx : List Nat) (A : Option Addr) (n cp : Nat) (L : List Sx) (c : Nat) (w : World) (h : SX w A n cp L) (hc : c ≤ 18446744073709551615) (h8 : ∀ x ∈ tx, x < 256) :
    Fn Tryz.prog 30 [srcV tx A n cp, .int .u64 c] w (fun u w' => u = .string (strOf (selP tx L c)) ∧ Ext w w') := by
  have hlen := h.sl.2
  have hts := strOf_size tx
  refine fn_of_exec (c := { c30 with cuts := [] }) gx_ok Tryz.func30 rfl rfl rfl ?_
  refine new (fun w1 hE1 hz1 hB1 => ?_)
  refine loadN_blk0 hB1 rfl ?_
  refine call (rscheck_fn tx A n cp L w1 (h.ext hE1) h8) ?_
  rintro _ w2 ⟨rfl, hE2⟩
  have hE02 := hE1.trans hE2
  refine wif_ne (fun c1 => ?_) (fun c1 => ?_)
  · exact ⟨by unfold selP; rw [if_neg c1]; rfl, hE02⟩
  obtain ⟨t1, t2, t3⟩ := chkS_zero.1 c1
  have hall := chkL_all (Int.le_refl 0) t3
  have hsp : selP tx L c = (selL c L).flatMap (pieceS tx) := if_pos c1
  have hpl : ∀ i, (((selL c (L.take i)).flatMap (pieceS tx)).length : Int) ≤ tx.length := fun i => by
    have e0 : ∀ z ∈ L.take i, SegB tx z := fun z hz => hall z (List.mem_of_mem_take hz)
    have e1 := pieces_len (L := selL c (L.take i)) (tx := tx) (fun z hz => e0 z (List.mem_filter.1 hz).1)
    have e2 := totS_filter (inS c) e0
    have e3 := totS_nn (L := L.drop i) (tx := tx) (fun z hz => hall z (List.mem_of_mem_drop hz))
    have e4 : totS L = totS (L.take i) + totS (L.drop i) := by
      unfold totS
      rw [← List.sum_append, ← List.map_append, List.take_append_drop]
    have e5 := totS_chk t3
    have e6 : totS (selL c (L.take i)) = totS ((L.take i).filter (inS c)) := rfl
    omega
  refine loop gx_ok [6, 5] (fun s : Nat => [.int .i64 s, .string (strOf ((selL c (L.take s)).flatMap (pieceS tx)))]) (fun s w' => Ext w2 w' ∧ s ≤ L.length) (fun s _ => L.length - s) 0 rfl ⟨Ext.refl _, Nat.zero_le _⟩ ?_
  rintro i w5 ⟨hE5, hle⟩
  have hE05 := hE02.trans hE5
  have hB5 := (hB1.ext hE2).ext hE5
  refine load_blk hB5 rfl ?_
  refine wif_d (fun c3 => ?_) (fun c3 => ?_)
  · have hi : i < n := by omega
    refine load_blk hB5 rfl ?_
    refine index_sls sx_len (h.ext hE05).sl rfl hi (fun p y hy hcl => ?_)
    have hy : L[i]? = some y := hy
    have hym := List.mem_of_getElem? hy
    have hyb := hall y hym
    have q1 := hyb.f0
    have q2 := hyb.ft
    have q3 := hyb.tl
    refine loadN_at (vs := y.cells) rfl hcl ?_
    refine new (fun w6 hE6 hz6 hB6 => ?_)
    refine storeN_blk0 hB6 rfl (sc rfl) (fun w7 hg7 _ hB7 => ?_)
    have hE57 : Ext w5 w7 := newBox hE6 hB6 hg7
    have hE07 := hE05.trans hE57
    refine loadN_at (vs := [.slice y.x.A y.x.n y.x.c, .int .i64 y.x.r]) rfl (fun j v hj => by rw [Addr.add_add]; exact (hB7.cell _).trans (by match j, hj with | 0, hj => exact hj | 1, hj => exact hj)) ?_
    refine call (rin_fn y.x.A y.x.n y.x.c y.x.nd y.x.r c hc w7 ((h.dg y hym).ext hE07) hyb.ck) ?_
    rintro _ w8 ⟨rfl, hE8⟩
    have hE58 := hE57.trans hE8
    have hB8 := hB7.ext hE8
    have hin : inS c y = ev y.x.nd y.x.r (bitE c) := rfl
    have htk : L.take (i + 1) = L.take i ++ [y] := by rw [List.take_add_one, hy]; rfl
    have hp1 := hpl (i + 1)
    cases hI : inS c y with
    | false =>
      have hsl : selL c (L.take (i + 1)) = selL c (L.take i) := by rw [htk]; unfold selL; rw [List.filter_append]; simp [hI]
      refine wif_f (by rw [← hin]; exact hI) ?_
      refine norm_i64_to ((i + 1 : Nat) : Int) (by show ((i : Nat) : Int) + 1 = _; omega) (by omega) ?_
      exact ⟨i + 1, by simp only [hsl]; rfl, ⟨hE5.trans hE58, by omega⟩, by show L.length - (i + 1) < L.length - i; omega⟩
    | true =>
      have hsl : (selL c (L.take (i + 1))).flatMap (pieceS tx) = (selL c (L.take i)).flatMap (pieceS tx) ++ pieceS tx y := by rw [htk]; unfold selL; rw [List.filter_append]; simp [hI]
      rw [hsl, List.length_append] at hp1
      refine wif_t (by rw [← hin]; exact hI) ?_
      refine load_blk0 (hB5.ext hE58) rfl ?_
      refine load_blk0 hB8 rfl ?_
      refine load_blk hB8 rfl ?_
      refine need_to (v' := .string (strOf (pieceS tx y))) ⟨q1, by omega, by rw [hts]; omega⟩ (by rw [strOf_extract]; rfl) ?_
      have s1 := strOf_size (pieceS tx y)
      have s2 := strOf_size ((selL c (L.take i)).flatMap (pieceS tx))
      refine need_to (v' := .string (strOf ((selL c (L.take (i + 1))).flatMap (pieceS tx)))) (by rw [s1, s2]; unfold maxLen; omega) (by rw [hsl, strOf_append]) ?_
      refine norm_i64_to ((i + 1 : Nat) : Int) (by show ((i : Nat) : Int) + 1 = _; omega) (by omega) ?_
      exact ⟨i + 1, rfl, ⟨hE5.trans hE58, by omega⟩, by show L.length - (i + 1) < L.length - i; omega⟩
  · refine ⟨?_, hE05⟩
    rw [hsp, List.take_of_length_le (by omega)]

/-! ### Dead -/

set_option maxHeartbeats 1600000 in
theorem rsdead_fn (tx : List Nat) (A : Option Addr) (n cp : Nat) (L : List Sx) (B : Option Addr) (m d : Nat) (b : List Br) (rb : Int) (w : World) (h : SX w A n cp L) (h' : SB w B m d b) (h8 : ∀ x ∈ tx, x < 256) :
    Fn Tryz.prog 26 [srcV tx A n cp, dgV B m d rb] w (fun u w' => ∃ O oc, u = .tuple #[.slice O (deadP tx L b rb).1.length oc, .int .i64 (deadP tx L b rb).2] ∧ Ext w w' ∧ Sl w' 1 O (deadP tx L b rb).1.length oc (ixV (deadP tx L b rb).1)) := by
  have hlen := h.sl.2
  have hts := strOf_size tx
  refine fn_of_exec (c := { c26 with cuts := [] }) gx_ok Tryz.func26 rfl rfl rfl ?_
  refine new (fun w1 hE1 hz1 hB1 => ?_)
  refine new (fun w2 hE2 hz2 hB2 => ?_)
  have hE02 := hE1.trans hE2
  refine loadN_blk0 (hB1.ext hE2) rfl ?_
  refine call (rscheck_fn tx A n cp L w2 (h.ext hE02) h8) ?_
  rintro _ w3 ⟨rfl, hE3⟩
  have hE03 := hE02.trans hE3
  refine wif_ne (fun c1 => ?_) (fun c1 => ?_)
  · have e : deadP tx L b rb = ([], chkS tx L) := if_pos c1
    rw [e]
    exact ⟨none, 0, rfl, hE03, (Own.nil w3 0 0 1).sl⟩
  refine loadN_blk0 (hB2.ext hE3) rfl ?_
  refine call (rcheck2_fn B m d b rb w3 (h'.ext hE03)) ?_
  rintro _ w4 ⟨rfl, hE4⟩
  have hE04 := hE03.trans hE4
  refine wif_ne (fun c2 => ?_) (fun c2 => ?_)
  · have e : deadP tx L b rb = ([], 20) := by unfold deadP; rw [if_neg (fun hh => hh c1), if_pos c2]
    rw [e]
    exact ⟨none, 0, rfl, hE04, (Own.nil w4 0 0 1).sl⟩
  have e : deadP tx L b rb = (deadL b rb 0 L, 0) := by unfold deadP; rw [if_neg (fun hh => hh c1), if_neg (fun hh => hh c2)]
  rw [e]
  obtain ⟨t1, t2, t3⟩ := chkS_zero.1 c1
  have hall := chkL_all (Int.le_refl 0) t3
  have hE24 := hE3.trans hE4
  refine at_build0 gx_ok rfl rfl rfl rfl rfl rfl ?_
  intro w4' hE4' hz4' hB4'
  have hE04' := hE04.trans hE4'
  have hE24' := hE24.trans hE4'
  have how4 : Own w4' w4.heap.size 3 1 (some ⟨w4.heap.size, 0, none⟩) 0 0 (ixV []) := Own.empty hB4' (Nat.le_refl _)
  refine loop gx_ok [8, 7] (fun s : Nat × Option Addr × Nat × List Nat => [.int .i64 s.1, .slice s.2.1 s.2.2.2.length s.2.2.1]) (fun s w' => DeadI w4 w4.heap.size b rb L s.1 s.2.1 s.2.2.1 s.2.2.2 w') (fun s _ => L.length - s.1) (0, some ⟨w4.heap.size, 0, none⟩, 0, []) rfl ⟨hE4', Nat.zero_le _, Nat.le_refl _, how4, rfl⟩ ?_
  rintro ⟨i, O, oc, l⟩ w5 hI
  have hE05 := hE04.trans hI.e
  have ho := hI.own
  have hle := hI.le
  have hln := hI.ln
  have hrs := hI.rs
  simp only at ho hle hln hrs
  have hB5 := (hB1.ext hE2).ext (hE24.trans hI.e)
  refine load_blk hB5 rfl ?_
  refine wif_d (fun c3 => ?_) (fun c3 => ?_)
  · have hi : i < n := by simp only at c3; omega
    refine draw_plan gx_ok (Ext w5) 8 [(true, 0), (true, 1), (true, 2), (true, 3), (true, 4), (true, 5), (true, 6), (false, 7)] (by kernel_rfl) (Ext.drew w5) ?_
    refine qload (v := .slice A n cp) (fun w' hw' => by rw [(hB5.ext hw').cell]; rfl) ?_
    refine index_sls sx_len (h.ext hE05).sl rfl hi (fun p y hy hcl => ?_)
    have hy : L[i]? = some y := hy
    have hym := List.mem_of_getElem? hy
    rw [drop_get hy, deadL] at hrs
    refine qloadN (vs := [.slice y.x.A y.x.n y.x.c, .int .i64 y.x.r]) rfl (fun w' hw' j v hj => by
      rw [Addr.add_add]
      exact hw'.cell (hcl (4 + j) v (by match j, hj with | 0, hj => exact hj | 1, hj => exact hj))) ?_
    refine qloadN (vs := [.slice B m d, .int .i64 rb]) rfl (fun w' hw' j v hj => by rw [((hB2.ext (hE24.trans hI.e)).ext hw').cell]; exact hj) ?_
    have hd5 := Ext.drew w5
    refine call (rdisjoint_fn y.x.A y.x.n y.x.c y.x.nd y.x.r B m d b rb _ ((h.dg y hym).ext (hE05.trans hd5)) (h'.ext (hE05.trans hd5))) ?_
    rintro _ w8 ⟨rfl, hE8⟩
    have hE58 := hd5.trans hE8
    refine ⟨hE58, ?_⟩
    refine wif (fun d1 => ?_) (fun d1 => ?_)
    · rw [if_pos d1] at hrs
      refine at_buildN gx_ok [[Value.int .i64 ((i : Nat) : Int)]] rfl rfl rfl rfl rfl ⟨rfl, rfl, ⟨⟩⟩ rfl (fun cs hh => by simp only [List.mem_singleton] at hh; subst hh; rfl) rfl (by decide) (by decide) ?_
      intro w9 hE9 hz9 hB9
      have hE59 := hE58.trans hE9
      have hs9 : Sl w9 1 (some ⟨w8.heap.size, 0, none⟩) 1 1 [Value.int .i64 ((i : Nat) : Int)] := Sl.own (sz := 1) (n := 1) hB9 (Nat.le_refl _) (by decide) (by simp)
      refine at_app (n := l.length) gx_ok rfl rfl rfl rfl rfl (by decide) rfl rfl ⟨_, rfl⟩ rfl rfl (ho.ext hE59) hs9 (by simp [scalar]) (by unfold maxLen; omega) (by show (l.length + 1) * 8 ≤ _; omega) (by have := hI.e.size; have := hE59.size; omega) ?_
      intro A' c' w10 hm10 hown10 hmv10
      refine norm_i64_to ((i + 1 : Nat) : Int) (by show ((i : Nat) : Int) + 1 = _; omega) (by omega) ?_
      refine ⟨(i + 1, A', c', l ++ [i]), by simp only [List.length_append]; rfl, ⟨hm10.ext (hI.e.trans hE59) (fun k hk => (ho.rows k hk).1), by show i + 1 ≤ L.length; omega, by simp; omega, ?_, ?_⟩, by show L.length - (i + 1) < L.length - i; omega⟩
      · simp only
        have e2 : ixV (l ++ [i]) = ixV l ++ [Value.int .i64 ((i : Nat) : Int)] := by simp [ixV]
        rw [e2, List.length_append]
        exact hown10
      · simp only
        rw [hrs]; simp
    · rw [if_neg (by rw [d1]; decide)] at hrs
      refine norm_i64_to ((i + 1 : Nat) : Int) (by show ((i : Nat) : Int) + 1 = _; omega) (by omega) ?_
      exact ⟨(i + 1, O, oc, l), rfl, ⟨hI.e.trans hE58, by show i + 1 ≤ L.length; omega, by show l.length ≤ i + 1; omega, ho.ext hE58, hrs⟩, by show L.length - (i + 1) < L.length - i; omega⟩
  · rw [List.drop_eq_nil_of_le (by simp only at c3; omega), deadL, List.append_nil] at hrs
    rw [hrs]
    exact ⟨O, oc, rfl, hE05, ho.sl⟩
end Go.Proofs.YtedopgkbajhanaaGreatDoor
