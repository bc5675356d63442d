/-
  FormulaHoldsInItsSet.
  Conditions: none.
-/
import Derived.Test.YtdbhjlpkopnebaaDoorDg
import Derived.Test.YtdbhjlpkopnebaaDoorW2
namespace Go.Proofs.YtdbhjlpkopnebaaDoor
open Go Go.RowKit

theorem Set1.cf_in {k : Nat} {nd : List Br} {r : Int} {o : (Nat → Bool) → Bool} (h : Set1 k nd r o) : VarsIn k (cf nd r) :=
  cfT_vars (fun b hb => by have := h.vin b hb; have := h.vd.1; obtain ⟨j, hj, e⟩ := List.mem_iff_getElem.1 hb; have h0 := (h.vd.1 j b (by rw [← e]; exact List.getElem?_eq_getElem hj)).1; omega) _ _
theorem holdsP_ok {f : List Fz} (h : FV f) (cfg : Nat) : holdsP f cfg = evF (treeOf f) (bitE cfg) := if_pos h
theorem holdsP_post {t : Fm} (h : VarsIn 64 t) (hs : szF t ≤ 512) (cfg : Nat) : holdsP (postF t 0) cfg = evF t (bitE cfg) := by
  rw [holdsP_ok (post_FV h hs), treeOf_post]
theorem eqb (b : Bool) : (b == b) = true := by cases b <;> rfl

theorem inset_law (l : List Nat) (A : Option Addr) (n c : Nat) (k cfg : Nat) (w : World) (h : Sl w 1 A n c (bytesV l)) (h8 : ∀ x ∈ l, x ≤ 255) (_ : k ≤ 255) (hcf : cfg ≤ 18446744073709551615) :
    Fn Tryd.prog 10 [.slice A n c, .int .u8 k, .int .u64 cfg] w (fun v w' => v = .bool true ∧ Ext w w') := by
  refine fn_of_exec (c := { c10 with cuts := [] }) gx_ok Tryd.func10 rfl rfl rfl ?_
  refine call (sanity_fn w) ?_
  rintro _ w1 ⟨rfl, hE1⟩
  have km : k % 6 < 6 := Nat.mod_lt _ (by decide)
  refine norm_rem (d := 6) (by decide) ?_
  refine norm_i64_to ((k % 6 : Nat) : Int) rfl (by omega) ?_
  refine norm_i64_to ((k % 6 + 1 : Nat) : Int) (by omega) (by omega) ?_
  refine call (made_fn l A n c (k % 6 + 1) w1 (h.ext hE1) h8 (by omega) (by omega)) ?_
  rintro _ w2 ⟨F, m, cF, f, rfl, hE2, hF, hfv, hvo, hfl⟩
  have hE02 := hE1.trans hE2
  refine call (fdiagram_fn F m cF f (k % 6 + 1) (by omega) w2 hF hfv hvo) ?_
  rintro _ w3 ⟨DA, dn, dc, nd, r, rfl, hE3, hD, hS, _⟩
  have hE03 := hE02.trans hE3
  refine new (fun w4 hE4 hz4 hB4 => ?_)
  refine storeN_blk0 hB4 rfl (sc rfl) (fun w5 hg5 hz5 hB5 => ?_)
  have hE35 : Ext w3 w5 := newBox hE4 hB4 hg5
  have hE05 := hE03.trans hE35
  refine loadN_blk0 hB5 rfl ?_
  refine call (of_fn DA dn dc nd r w5 (hD.ext hE35)) ?_
  rw [hS.of (by omega)]
  rintro _ w6 ⟨G, mg, cG, rfl, hE6, hG⟩
  have hE06 := hE05.trans hE6
  have hE36 := hE35.trans hE6
  refine wif_nef rfl ?_
  refine wif_nef rfl ?_
  have hF6 := hF.ext (hE3.trans hE36)
  refine call (fholds_fn F m cF f cfg hcf w6 hF6) ?_
  rintro _ w7 ⟨rfl, hE7⟩
  have hE57 := hE6.trans hE7
  refine wif_t rfl ?_
  refine loadN_blk0 (hB5.ext hE57) rfl ?_
  refine call (dholds_fn DA dn dc nd r cfg hcf w7 (hD.ext (hE35.trans hE57)) (hS.chk (by omega))) ?_
  rintro _ w8 ⟨rfl, hE8⟩
  have e1 := holdsP_ok hfv cfg
  have e2 := hS.mean (bitE cfg)
  rw [e1, e2]
  refine wif_t (eqb _) ?_
  have hF8 := (hF6.ext hE7).ext hE8
  refine call (postorder_fn F m cF f w8 hF8 hfv) ?_
  rintro _ w9 ⟨PA, pc, rfl, hE9, hP⟩
  have hM := madeF hfv hvo hfl
  have e3 := holdsP_post (hM.vi.mono (by omega)) (by have := hM.sz; omega) cfg
  refine call (fholds_fn PA _ pc _ cfg hcf w9 hP) ?_
  rw [e3]
  rintro _ w10 ⟨rfl, hE10⟩
  refine wif_t (eqb _) ?_
  have e4 := holdsP_post (hS.cf_in.mono (by omega)) (by have := hS.cf_sz (by omega); omega) cfg
  have hG10 := (((hG.ext hE7).ext hE8).ext hE9).ext hE10
  refine call (fholds_fn G mg cG _ cfg hcf w10 hG10) ?_
  rw [e4, hS.cf_ev]
  rintro _ w11 ⟨rfl, hE11⟩
  refine ⟨?_, ((((hE06.trans hE7).trans hE8).trans hE9).trans hE10).trans hE11⟩
  rw [eqb]
end Go.Proofs.YtdbhjlpkopnebaaDoor
