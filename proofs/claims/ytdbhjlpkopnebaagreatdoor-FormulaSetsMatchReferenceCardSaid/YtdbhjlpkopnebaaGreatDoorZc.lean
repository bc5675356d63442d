/-
  FormulaCanonical.
  Conditions: none.
-/
import Derived.Test.YtdbhjlpkopnebaaGreatDoorZt
namespace Go.Proofs.YtdbhjlpkopnebaaGreatDoor
open Go Go.RowKit

theorem eqb (b : Bool) : (b == b) = true := by cases b <;> rfl
/-- The formula of a set is the set. -/
theorem Set1.back {k : Nat} {nd : List Br} {r : Int} {o : (Nat → Bool) → Bool} (h : Set1 k nd r o) (hk : k ≤ 6) : FV (postF (cf nd r) 0) ∧ varsOk k (postF (cf nd r) 0) ∧ ∀ e, evF (treeOf (postF (cf nd r) 0)) e = o e := by
  refine ⟨post_FV (h.cf_in.mono (by omega)) (by have := h.cf_sz hk; omega), post_vars _ _ _ h.cf_in, fun e => ?_⟩
  rw [treeOf_post, h.cf_ev]
theorem Set1.same_text {k k' : Nat} {nd nd' : List Br} {r r' : Int} {o o' : (Nat → Bool) → Bool} (h : Set1 k nd r o) (h' : Set1 k' nd' r' o') (hk : k ≤ 6) (hk' : k' ≤ 6) :
    prF (letters12.take 6) 0 (cf nd r) = prF (letters12.take 6) 0 (cf nd' r') ↔ ∀ c, c < 64 → o (bitE c) = o' (bitE c) := by
  obtain ⟨h1, h2, h3⟩ := letters_ok 6 (by decide)
  constructor
  · intro e c _
    have e2 := print_inj h2 (nmOk_of h1 h2) (by rw [h3]; exact h.cf_in.mono hk) (by rw [h3]; exact h'.cf_in.mono hk') (by have := h.cf_sz hk; omega) (by have := h'.cf_sz hk'; omega) e
    rw [← h.cf_ev, ← h'.cf_ev, e2]
  · intro e
    have := h.by64 h' hk hk' e
    cases this; rfl

structure InpOk (w : World) (L : List Nat) (LA : Option Addr) (ln lc : Nat) (M : List Nat) (MA : Option Addr) (mn mc : Nat) (T : List Nat) (TA : Option Addr) (tn tc : Nat) : Prop where
  l : Sl w 1 LA ln lc (bytesV L)
  m : Sl w 1 MA mn mc (bytesV M)
  t : Sl w 1 TA tn tc (bytesV T)
  l8 : ∀ x ∈ L, x ≤ 255
  m8 : ∀ x ∈ M, x ≤ 255
  t8 : ∀ x ∈ T, x ≤ 255
def inpV (LA : Option Addr) (ln lc : Nat) (MA : Option Addr) (mn mc : Nat) (N : Nat) (TA : Option Addr) (tn tc : Nat) (K : Nat) : Value := .agg #[.slice LA ln lc, .slice MA mn mc, .int .u8 N, .slice TA tn tc, .int .u8 K]

theorem canonical_law (L : List Nat) (LA : Option Addr) (ln lc : Nat) (M : List Nat) (MA : Option Addr) (mn mc : Nat) (N : Nat) (T : List Nat) (TA : Option Addr) (tn tc : Nat) (K : Nat) (w : World) (h : InpOk w L LA ln lc M MA mn mc T TA tn tc) (_ : N ≤ 255) (_ : K ≤ 255) :
    Fn Tryz.prog 4 [inpV LA ln lc MA mn mc N TA tn tc K] w (fun v w' => v = .bool true ∧ Ext w w') := by
  have k7 : K % 7 < 7 := Nat.mod_lt _ (by decide)
  have n6 : N % 6 < 6 := Nat.mod_lt _ (by decide)
  refine fn_of_exec (c := { c4 with cuts := [] }) gx_ok Tryz.func4 rfl rfl rfl ?_
  refine new (fun w1 hE1 hz1 hB1 => ?_)
  replace hB1 : Blk w1 w.heap.size 24 [.slice LA ln lc, .slice MA mn mc, .int .u8 N, .slice TA tn tc, .int .u8 K] := hB1
  refine call (sanity_fn w1) ?_
  rintro _ w2 ⟨rfl, hE2⟩
  refine call (letters_fn 6 w2 (by decide)) ?_
  rintro _ w3 ⟨NA, nc, rfl, hE3, hL⟩
  obtain ⟨lb, lo, ll⟩ := letters_ok 6 (by decide)
  have hE13 := hE2.trans hE3
  have hB3 := hB1.ext hE13
  refine load_blk hB3 rfl ?_
  refine load_blk hB3 rfl ?_
  refine norm_rem (d := 7) (by decide) ?_
  refine norm_i64_to ((K % 7 : Nat) : Int) rfl (by omega) ?_
  refine call (dmade_fn T TA tn tc (K % 7) w3 (h.t.ext (hE1.trans hE13)) h.t8 (by omega)) ?_
  rintro _ w4 ⟨DA, dn, dc, nd, r, rfl, hE4, hD, hS, _⟩
  refine new (fun w5 hE5 hz5 hB5 => ?_)
  refine storeN_blk0 hB5 rfl (sc rfl) (fun w6 hg6 hz6 hB6 => ?_)
  have hE46 : Ext w4 w6 := newBox hE5 hB5 hg6
  have hE16 := hE13.trans (hE4.trans hE46)
  refine loadN_blk0 hB6 rfl ?_
  refine call (of_fn DA dn dc nd r w6 (hD.ext hE46)) ?_
  rw [hS.of (by omega)]
  rintro _ w7 ⟨G, mg, cG, rfl, hE7, hG⟩
  obtain ⟨bf, bv, be⟩ := hS.back (by omega)
  refine call (fdiagram_fn G mg cG _ (K % 7) (by omega) w7 hG bf bv) ?_
  rintro _ w8 ⟨QA, qn, qc, qd, q, rfl, hE8, hQ, hT, _⟩
  refine new (fun w9 hE9 hz9 hB9 => ?_)
  refine storeN_blk0 hB9 rfl (sc rfl) (fun w10 hg10 hz10 hB10 => ?_)
  have hE810 : Ext w8 w10 := newBox hE9 hB9 hg10
  have hE610 := hE7.trans (hE8.trans hE810)
  have hE110 := hE16.trans hE610
  have hB1a := hB1.ext hE110
  refine load_blk0 hB1a rfl ?_
  refine load_blk hB1a rfl ?_
  refine norm_rem (d := 6) (by decide) ?_
  refine norm_i64_to ((N % 6 : Nat) : Int) rfl (by omega) ?_
  refine norm_i64_to ((N % 6 + 1 : Nat) : Int) (by omega) (by omega) ?_
  refine call (made_fn L LA ln lc (N % 6 + 1) w10 (h.l.ext (hE1.trans hE110)) h.l8 (by omega) (by omega)) ?_
  rintro _ w11 ⟨F, m, cF, f, rfl, hE11, hF, hfv, hvo, hfl⟩
  refine call (fdiagram_fn F m cF f (N % 6 + 1) (by omega) w11 hF hfv hvo) ?_
  rintro _ w12 ⟨AA, an, ac, ad, ar, rfl, hE12, hA, hSa, _⟩
  refine new (fun w13 hE13' hz13 hB13 => ?_)
  refine storeN_blk0 hB13 rfl (sc rfl) (fun w14 hg14 hz14 hB14 => ?_)
  have hE1214 : Ext w12 w14 := newBox hE13' hB13 hg14
  have hE1014 := hE11.trans (hE12.trans hE1214)
  have hB1b := hB1a.ext hE1014
  refine load_blk hB1b rfl ?_
  refine load_blk hB1b rfl ?_
  refine norm_rem (d := 6) (by decide) ?_
  refine norm_i64_to ((N % 6 : Nat) : Int) rfl (by omega) ?_
  refine norm_i64_to ((N % 6 + 1 : Nat) : Int) (by omega) (by omega) ?_
  refine call (made_fn M MA mn mc (N % 6 + 1) w14 (h.m.ext (hE1.trans (hE110.trans hE1014))) h.m8 (by omega) (by omega)) ?_
  rintro _ w15 ⟨F', m', cF', f', rfl, hE15, hF', hfv', hvo', hfl'⟩
  refine call (fdiagram_fn F' m' cF' f' (N % 6 + 1) (by omega) w15 hF' hfv' hvo') ?_
  rintro _ w16' ⟨BA, bn, bc, bd, br, rfl, hE16', hBd, hSb, _⟩
  refine new (fun w17 hE17 hz17 hB17 => ?_)
  refine storeN_blk0 hB17 rfl (sc rfl) (fun w18 hg18 hz18 hB18 => ?_)
  have hE1618 : Ext w16' w18 := newBox hE17 hB17 hg18
  have hE1418 := hE15.trans (hE16'.trans hE1618)
  have hE318 := (hE4.trans hE46).trans (hE610.trans (hE1014.trans hE1418))
  have hL18 := hL.ext hE318
  have hA18 := (hA.ext hE1214).ext hE1418
  have hB14' := hB14.ext hE1418
  have hBd18 := hBd.ext hE1618
  refine loadN_blk0 hB14' rfl ?_
  refine call (text_fn (letters12.take 6) NA AA 6 nc an ac ad ar w18 hL18 lb hA18 (hSa.text_len (by omega) 6)) ?_
  rw [hSa.text (by omega) (by decide) (by omega)]
  rintro _ w19 ⟨rfl, hE19⟩
  refine loadN_blk0 (hB18.ext hE19) rfl ?_
  refine call (text_fn (letters12.take 6) NA BA 6 nc bn bc bd br w19 (hL18.ext hE19) lb (hBd18.ext hE19) (hSb.text_len (by omega) 6)) ?_
  rw [hSb.text (by omega) (by decide) (by omega)]
  rintro _ w20 ⟨rfl, hE20⟩
  have hE1820 := hE19.trans hE20
  refine wif_nef rfl ?_
  refine wif_nef rfl ?_
  refine wif_nef rfl ?_
  refine wif_nef rfl ?_
  refine wif_nef rfl ?_
  refine wif_nef rfl ?_
  have hA20 := hA18.ext hE1820
  have hB20 := hBd18.ext hE1820
  have xA := hB14'.ext hE1820
  have xB := hB18.ext hE1820
  have hE020 : Ext w w20 := hE1.trans (hE13.trans (hE318.trans hE1820))
  generalize hoa : evF (treeOf f) = oa at *
  generalize hob : evF (treeOf f') = ob at *
  refine loop gx_ok [18, 19] (fun s : Bool × Nat => [.bool s.1, .int .i64 s.2]) (fun s w' => Ext w20 w' ∧ s.2 ≤ 64 ∧ (s.1 = true ↔ ∀ c, c < s.2 → oa (bitE c) = ob (bitE c))) (fun s _ => 64 - s.2) (true, 0) rfl ⟨Ext.refl _, Nat.zero_le _, by simp⟩ ?_
  rintro ⟨b, i⟩ w21 ⟨hE21, hi, hb⟩
  simp only at hi hb
  refine wif_d (fun h1 => ?_) (fun h1 => ?_)
  · have hi64 : i < 64 := by simp only at h1; omega
    have next : (b = true ∧ oa (bitE i) = ob (bitE i)) ↔ ∀ c, c < i + 1 → oa (bitE c) = ob (bitE c) := by
      rw [hb]
      constructor
      · intro hh c hc
        by_cases e : c = i
        · subst e; exact hh.2
        · exact hh.1 c (by omega)
      · exact fun hh => ⟨fun c hc => hh c (by omega), hh i (by omega)⟩
    refine draw_plan gx_ok (Ext w21) 13 [(true, 0), (true, 1), (true, 2), (true, 3), (true, 4), (true, 6), (true, 7), (true, 8), (false, 5), (false, 9), (true, 10), (true, 11), (true, 12)] (by kernel_rfl) (Ext.drew w21) ?_
    cases b with
    | true =>
      refine wif_t rfl ?_
      have hEd := hE21.trans (Ext.drew w21)
      refine qloadN (vs := [.slice AA an ac, .int .i64 ar]) rfl (fun w' hw' j v hj => by have := ((xA.ext hE21).ext hw').cell j; rw [this]; exact hj) ?_
      refine norm (m := ((i : Nat) : Int)) (IntWalk.u64_in _ (by omega)) ?_
      refine qloadN (vs := [.slice BA bn bc, .int .i64 br]) rfl (fun w' hw' j v hj => by have := ((xB.ext hE21).ext hw').cell j; rw [this]; exact hj) ?_
      refine norm (m := ((i : Nat) : Int)) (IntWalk.u64_in _ (by omega)) ?_
      refine call (dholds_fn AA an ac ad ar i (by omega) _ (hA20.ext hEd) (hSa.chk (by omega))) ?_
      rintro _ w22 ⟨rfl, hE22⟩
      have hE122 := (Ext.drew w21).trans hE22
      refine ⟨hE122, ?_⟩
      refine call (dholds_fn BA bn bc bd br i (by omega) w22 (hB20.ext (hE21.trans hE122)) (hSb.chk (by omega))) ?_
      rintro _ w23 ⟨rfl, hE23⟩
      have hE123 := hE122.trans hE23
      refine ⟨hE123, ?_⟩
      rw [hSa.mean, hSb.mean]
      refine norm_i64_to ((i + 1 : Nat) : Int) (by show ((i : Nat) : Int) + 1 = _; omega) (by omega) ?_
      refine ⟨((oa (bitE i) == ob (bitE i)), i + 1), rfl, ⟨hE21.trans hE123, by show i + 1 ≤ 64; omega, ?_⟩, by show 64 - (i + 1) < 64 - i; omega⟩
      show (oa (bitE i) == ob (bitE i)) = true ↔ _
      rw [← next]; simp
    | false =>
      refine wif_f rfl ?_
      refine norm_i64_to ((i + 1 : Nat) : Int) (by show ((i : Nat) : Int) + 1 = _; omega) (by omega) ?_
      refine ⟨(false, i + 1), rfl, ⟨hE21.trans (Ext.drew w21), by show i + 1 ≤ 64; omega, ?_⟩, by show 64 - (i + 1) < 64 - i; omega⟩
      show false = true ↔ _
      rw [← next]; simp
  · have hi64 : i = 64 := by simp only at h1; omega
    subst hi64
    have hE1021 := hE1014.trans (hE1418.trans (hE1820.trans hE21))
    have same : decide ((qd, q) = (nd, r)) = true := decide_eq_true (hT.unique hS be)
    refine wif_t rfl ?_
    refine loadN_blk0 (hB10.ext hE1021) rfl ?_
    refine loadN_blk0 ((hB6.ext hE610).ext hE1021) rfl ?_
    refine call (same_fn QA DA qn qc dn dc qd nd q r w21 ((hQ.ext hE810).ext hE1021) (((hD.ext hE46).ext hE610).ext hE1021)) ?_
    rintro _ w24 ⟨rfl, hE24⟩
    rw [same]
    refine wif_t rfl ?_
    refine ⟨?_, hE020.trans (hE21.trans hE24)⟩
    have hst := hSa.same_text hSb (by omega) (by omega)
    have b8 : ∀ t, ∀ x ∈ prF (letters12.take 6) 0 t, x < 256 := fun t x hx => by
      unfold prF at hx
      rw [decide_eq_false (by omega)] at hx
      exact prF_b8 lb t x hx
    have hbx : b = true ↔ prF (letters12.take 6) 0 (cf ad ar) = prF (letters12.take 6) 0 (cf bd br) := hb.trans hst.symm
    show Value.bool (decide (strOf (prF (letters12.take 6) 0 (cf ad ar)) = strOf (prF (letters12.take 6) 0 (cf bd br))) == b) = _
    rw [strOf_eq (b8 _) (b8 _)]
    congr 1
    cases b with
    | true => rw [decide_eq_true (hbx.1 rfl)]; rfl
    | false => rw [decide_eq_false (fun hh => by have := hbx.2 hh; cases this)]; rfl
end Go.Proofs.YtdbhjlpkopnebaaGreatDoor
