/-
  SourceAnyMatchesReference.
  Conditions: none.
-/
import Derived.Test.YtedopgkbajhanaaGreatDoorTe
namespace Go.Proofs.YtedopgkbajhanaaGreatDoor
open Go Go.RowKit

theorem ixV_get {l : List Nat} {j x : Nat} (h : l[j]? = some x) : (ixV l)[j]? = some (.int .i64 (x : Nat)) := by simp [ixV, h]
set_option maxHeartbeats 1600000 in
theorem any_law (tx : List Nat) (A : Option Addr) (n cp : Nat) (L : List Sx) (B : Option Addr) (m d : Nat) (b : List Br) (rb : Int) (k0 k1 : Int) (w : World) (h : SX w A n cp L) (h' : SB w B m d b) (h8 : ∀ x ∈ tx, x < 256)
    (hk0 : -9223372036854775808 ≤ k0 ∧ k0 ≤ 9223372036854775807) (hk1 : -9223372036854775808 ≤ k1 ∧ k1 ≤ 9223372036854775807) :
    Fn Tryz.prog 5 [srcV tx A n cp, dgV B m d rb, .agg #[.int .i64 k0, .int .i64 k1]] w (fun v w' => v = .bool true ∧ Ext w w') := by
  have hlen := h.sl.2
  refine fn_of_exec (c := { c5 with cuts := [] }) gx_ok Tryz.func5 rfl rfl rfl ?_
  refine new (fun w1 hE1 hz1 hB1 => ?_)
  refine new (fun w2 hE2 hz2 hB2 => ?_)
  refine new (fun w3 hE3 hz3 hB3 => ?_)
  have hE03 := (hE1.trans hE2).trans hE3
  have hB1' := hB1.ext (hE2.trans hE3)
  have hB2' := hB2.ext hE3
  refine call (sanity7_fn w3) ?_
  rintro _ w4 ⟨rfl, hE4⟩
  have hE04 := hE03.trans hE4
  refine load_blk (hB1'.ext hE4) rfl ?_
  refine wif_d (fun c1 => ?_) (fun c1 => ?_)
  · exact ⟨rfl, hE04⟩
  refine load_blk0 (hB1'.ext hE4) rfl ?_
  refine wif_d (fun c2 => ?_) (fun c2 => ?_)
  · exact ⟨rfl, hE04⟩
  refine load_blk0 (hB2'.ext hE4) rfl ?_
  refine wif_d (fun c3 => ?_) (fun c3 => ?_)
  · exact ⟨rfl, hE04⟩
  refine loop gx_ok [8] (fun s : Nat => [.int .i64 s]) (fun s w' => w4 = w' ∧ s ≤ n) (fun s _ => n - s) 0 rfl ⟨rfl, Nat.zero_le _⟩ ?_
  rintro s _ ⟨rfl, hs⟩
  have hB4 := hB1'.ext hE4
  refine load_blk hB4 rfl ?_
  refine wif_d (fun c4 => ?_) (fun c4 => ?_)
  · refine load_blk hB4 rfl ?_
    refine index_sls sx_len (h.ext hE04).sl rfl (by omega) (fun p y hy hcl => ?_)
    refine load (by
      have := hcl 4 _ rfl
      rw [show ((p.add 4).add 0) = p.add 4 by rw [Addr.add_add]]
      exact this) ?_
    refine wif_d (fun c5 => ?_) (fun c5 => ?_)
    · exact ⟨rfl, hE04⟩
    · refine norm_i64_to ((s + 1 : Nat) : Int) (by show ((s : Nat) : Int) + 1 = _; omega) (by omega) ?_
      exact ⟨s + 1, rfl, ⟨rfl, by omega⟩, by show n - (s + 1) < n - s; omega⟩
  clear hs c4
  refine index (j := 0) (by decide) ?_
  refine load_blk0 (hB3.ext hE4) rfl ?_
  obtain ⟨x, hx, hxw⟩ : ∃ x : Nat, x ≤ 18446744073709551615 ∧ IntKind.u64.wrap k0 = (x : Int) := ⟨(k0 % 18446744073709551616).toNat, by omega, by rw [IntKind.wrap_u64]; omega⟩
  refine norm (m := (x : Int)) hxw ?_
  refine index (j := 1) (by decide) ?_
  refine load_blk (hB3.ext hE4) rfl ?_
  refine loadN_blk0 hB4 rfl ?_
  refine call (slocal_fn tx A n cp L x k1 w4 (h.ext hE04) hx h8) ?_
  rintro _ w5 ⟨rfl, hE5⟩
  refine loadN_blk0 (hB4.ext hE5) rfl ?_
  refine call (rslocal_fn tx A n cp L x k1 w5 (h.ext (hE04.trans hE5)) hx h8) ?_
  rintro _ w6 ⟨rfl, hE6⟩
  have hE46 := hE5.trans hE6
  refine loadN_blk0 (hB4.ext hE46) rfl ?_
  refine call (sglobal_fn tx A n cp L x k1 w6 (h.ext (hE04.trans hE46)) hx h8 hk1.2) ?_
  rintro _ w7 ⟨rfl, hE7⟩
  have hE47 := hE46.trans hE7
  refine loadN_blk0 (hB4.ext hE47) rfl ?_
  refine call (rsglobal_fn tx A n cp L x k1 w7 (h.ext (hE04.trans hE47)) hx hk1.2 h8) ?_
  rintro _ w8 ⟨rfl, hE8⟩
  have hE48 := hE47.trans hE8
  refine loadN_blk0 (hB4.ext hE48) rfl ?_
  refine call (sorigin_fn tx A n cp L k1 w8 (h.ext (hE04.trans hE48)) h8) ?_
  rintro _ w9 ⟨rfl, hE9⟩
  have hE49 := hE48.trans hE9
  refine loadN_blk0 (hB4.ext hE49) rfl ?_
  refine call (rsorigin_fn tx A n cp L k1 w9 (h.ext (hE04.trans hE49)) h8) ?_
  rintro _ w10 ⟨rfl, hE10⟩
  have hE410 := hE49.trans hE10
  refine loadN_blk0 (hB4.ext hE410) rfl ?_
  refine loadN_blk0 ((hB2'.ext hE4).ext hE410) rfl ?_
  refine call (sdead_fn tx A n cp L B m d b rb w10 (h.ext (hE04.trans hE410)) (h'.ext (hE04.trans hE410)) h8) ?_
  rintro _ w11 ⟨O1, oc1, rfl, hE11, hO1⟩
  have hE411 := hE410.trans hE11
  refine loadN_blk0 (hB4.ext hE411) rfl ?_
  refine loadN_blk0 ((hB2'.ext hE4).ext hE411) rfl ?_
  refine call (rsdead_fn tx A n cp L B m d b rb w11 (h.ext (hE04.trans hE411)) (h'.ext (hE04.trans hE411)) h8) ?_
  rintro _ w12 ⟨O2, oc2, rfl, hE12, hO2⟩
  have hE412 := hE411.trans hE12
  have hO1' := hO1.ext hE12
  generalize deadP tx L b rb = dd at *
  have hl1 : dd.1.length ≤ 9223372036854775807 := by have := hO1.le; have := hO1.cap; simp only [maxLen] at this; omega
  refine wif_nef rfl ?_
  refine wif_nef rfl ?_
  refine loop gx_ok [29] (fun s : Nat => [.int .i64 s]) (fun s w' => Ext w12 w' ∧ s ≤ dd.1.length) (fun s _ => dd.1.length - s) 0 rfl ⟨Ext.refl _, Nat.zero_le _⟩ ?_
  rintro s w13 ⟨hE13, hs⟩
  have hE413 := hE412.trans hE13
  refine wif_d (fun c5 => ?_) (fun c5 => ?_)
  · have hsl : s < dd.1.length := by omega
    have hg := ixV_get (List.getElem?_eq_getElem hsl)
    refine draw gx_ok (by kernel_rfl) ?_
    refine index_sl (j := s) (hO1'.ext hE13) hsl (fun ad u hA hu hc => ?_)
    rw [hg] at hu
    cases hu
    refine qload (fun w' hw' => hw'.cell hc) ?_
    refine index_sl (j := s) (hO2.ext hE13) hsl (fun ad u hA hu hc => ?_)
    rw [hg] at hu
    cases hu
    refine qload (fun w' hw' => hw'.cell hc) ?_
    intro w14 hE14
    refine wif_nef rfl ?_
    refine norm_i64_to ((s + 1 : Nat) : Int) (by show ((s : Nat) : Int) + 1 = _; omega) (by omega) ?_
    exact ⟨s + 1, rfl, ⟨hE13.trans hE14, by omega⟩, by show dd.1.length - (s + 1) < dd.1.length - s; omega⟩
  refine wif_eqt rfl ?_
  refine wif_t (by simp) ?_
  refine wif_eqt rfl ?_
  refine wif_t (by simp) ?_
  refine wif_eqt rfl ?_
  refine wif_eqt rfl ?_
  have hB13 := hB4.ext hE413
  have hE013 := hE04.trans hE413
  have qS : ∀ w', Ext w13 w' → ∀ (j : Nat) (v : Value), ([.string (strOf tx), .slice A n cp] : List Value)[j]? = some v → w'.cell? ((⟨w.heap.size, 0, none⟩ : Addr).add j) = some v := fun w' hw' j v hj => by rw [(hB13.ext hw').cell]; exact hj
  refine draw_plan gx_ok (Ext w13) 21 [(true, 0), (true, 1), (true, 2), (true, 4), (false, 3), (false, 5), (true, 6), (true, 7), (true, 8), (true, 9), (true, 10), (true, 12), (true, 13), (false, 11), (false, 14), (true, 15), (true, 16), (true, 17), (true, 18), (true, 19), (true, 20)] (by kernel_rfl) (Ext.drew w13) ?_
  have hd := Ext.drew w13
  refine wif_t (by simp) ?_
  refine qloadN (vs := [.string (strOf tx), .slice A n cp]) rfl (fun w' hw' j v hj => qS w' hw' j v hj) ?_
  refine qloadN (vs := [.string (strOf tx), .slice A n cp]) rfl (fun w' hw' j v hj => qS w' hw' j v hj) ?_
  refine call (scheck_fn tx A n cp L _ (h.ext (hE013.trans hd)) h8) ?_
  rintro _ w14 ⟨rfl, hE14⟩
  have hF14 := hd.trans hE14
  refine ⟨hF14, ?_⟩
  refine call (rscheck_fn tx A n cp L _ (h.ext (hE013.trans hF14)) h8) ?_
  rintro _ w15 ⟨rfl, hE15⟩
  have hF15 := hF14.trans hE15
  refine ⟨hF15, ?_⟩
  refine wif_eqt rfl ?_
  refine qloadN (vs := [.string (strOf tx), .slice A n cp]) rfl (fun w' hw' j v hj => qS w' hw' j v hj) ?_
  refine qloadN (vs := [.string (strOf tx), .slice A n cp]) rfl (fun w' hw' j v hj => qS w' hw' j v hj) ?_
  refine call (sselect_fn tx A n cp L x _ (h.ext (hE013.trans hF15)) hx h8) ?_
  rintro _ w16 ⟨rfl, hE16⟩
  have hF16 := hF15.trans hE16
  refine ⟨hF16, ?_⟩
  refine call (rsselect_fn tx A n cp L x _ (h.ext (hE013.trans hF16)) hx h8) ?_
  rintro _ w17 ⟨rfl, hE17⟩
  have hF17 := hF16.trans hE17
  refine ⟨hF17, ?_⟩
  refine wif_t (by simp) ?_
  exact ⟨rfl, hE013.trans hF17⟩
end Go.Proofs.YtedopgkbajhanaaGreatDoor
