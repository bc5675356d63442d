/-
  The reference's Of; FormulaAnyDiagram.
  Conditions: none.
-/
import Derived.Test.YtdbhjlpkopnebaaGreatDoorRo2
namespace Go.Proofs.YtdbhjlpkopnebaaGreatDoor
open Go Go.RowKit

theorem szN_big {nd : List Br} {n : Nat} : 512 < szN nd n ↔ 512 < szF (cf nd (n : Int)) := by unfold szN; omega

theorem rof_fn (A : Option Addr) (n c : Nat) (nd : List Br) (root : Int) (w : World) (h : SB w A n c nd) :
    Fn Tryz.prog 11 [dgV A n c root] w (FzRes w (ofP nd root)) := by
  have hlen := h.2
  refine fn_of_exec (c := { c11 with cuts := [] }) gx_ok Tryz.func11 rfl rfl rfl ?_
  refine new (fun w1 hE1 hz1 hB1 => ?_)
  refine loadN_blk0 hB1 rfl ?_
  refine call (rcheck2_fn A n c nd root w1 (h.ext hE1)) ?_
  rintro v w2 ⟨rfl, hE2⟩
  have hE02 := hE1.trans hE2
  have hB2 := hB1.ext hE2
  refine wif_ne (fun c1 => ?_) (fun c1 => ?_)
  · refine ⟨none, 0, 0, ?_, hE02, ?_⟩
    · unfold ofP; rw [if_neg c1]
    · unfold ofP; rw [if_neg c1]; exact SlS.nil _
  obtain ⟨hsm, hv⟩ := chkD_zero.1 c1
  have hof := ofP_eq c1
  have r0 := hv.2.1
  have r1 := hv.2.2.1
  have hrn : ((root.toNat : Nat) : Int) = root := by omega
  have qB : ∀ w', Ext w2 w' → ∀ (j : Nat) (v : Value), [Value.slice A n c, .int .i64 root][j]? = some v → w'.cell? ((⟨w.heap.size, 0, none⟩ : Addr).add j) = some v := fun w' hw' j v hj => by rw [(hB2.ext hw').cell]; exact hj
  refine draw_plan gx_ok (Ext w2) 7 [(true, 0), (true, 2), (true, 3), (false, 1), (true, 4), (false, 5), (true, 6)] (by kernel_rfl) (Ext.drew w2) ?_
  refine qloadN (vs := [.slice A n c, .int .i64 root]) rfl (fun w' hw' j v hj => by have := qB w' hw' j v hj; simpa [Addr.add] using this) ?_
  refine qload (v := .int .i64 root) (fun w' hw' => qB w' hw' 1 _ rfl) ?_
  refine call (sizes_fn A n c nd root _ (h.ext (hE02.trans (Ext.drew w2))) hv.rd0 (by omega)) ?_
  rintro v w3 ⟨OA, oc, rfl, hE3, hO3⟩
  have hE23 := (Ext.drew w2).trans hE3
  refine ⟨hE23, ?_⟩
  have gr := szL_get (nd := nd) (k := n + 2) (j := root.toNat) (by omega)
  rw [← hrn]
  refine index_sl hO3 (by omega) (fun ad u hA hu hcell => ?_)
  rw [natsV_get gr] at hu
  cases hu
  refine load hcell ?_
  refine ⟨hE23, ?_⟩
  have hE03 := hE02.trans hE23
  have hB3 := hB2.ext hE23
  refine wif_d (fun c2 => ?_) (fun c2 => ?_)
  · have c3 : 512 < szF (cf nd root) := by rw [← hrn]; exact szN_big.1 (by omega)
    rw [hrn]
    rw [if_pos c3] at hof
    rw [hof]
    exact ⟨none, 0, 0, rfl, hE03, SlS.nil _⟩
  have c3 : ¬ 512 < szF (cf nd root) := fun hh => c2 (by rw [← hrn] at hh; have := szN_big.2 hh; omega)
  rw [hrn] at *
  rw [if_neg c3] at hof
  rw [hof]
  refine loadN_blk0 hB3 rfl ?_
  refine new (fun w4 hE4 hz4 hB4 => ?_)
  have hE04 := hE03.trans hE4
  have hz3 := hE03.size
  have hW : Wt w w4 w4.heap.size w3.heap.size A n c root none 0 [] := ⟨hE04, by omega, by omega, Nat.le_refl _, hB4, Own.nil _ _ _ _⟩
  refine load_blk (hB3.ext hE4) rfl ?_
  refine call (wnumber_fn h hv.rd0 (root.toNat + 1) root r0 (by omega) (by omega) none 0 [] w4 hW (by show 0 + szF (cf nd root) ≤ _; omega)) ?_
  rintro _ w5 ⟨rfl, A5, c5, hW5, hm5, hv5⟩
  refine load_blk hW5.blk rfl ?_
  have e : ([] : List Fz) ++ postF (cfT nd (root.toNat + 1) root) ([] : List Fz).length = postF (cf nd root) 0 := rfl
  rw [e] at hW5 ⊢
  exact ⟨A5, _, c5, rfl, hW5.e0, hW5.own.sl, rfl⟩

end Go.Proofs.YtdbhjlpkopnebaaGreatDoor
