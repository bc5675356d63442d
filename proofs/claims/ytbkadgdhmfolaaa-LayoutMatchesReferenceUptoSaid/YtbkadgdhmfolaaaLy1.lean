/-
  layout: write, less, keep.
  Conditions: none.
-/
import Derived.Test.YtbkadgdhmfolaaaMap
import Derived.Test.YtbkadgdhmfolaaaLp
namespace Go.Proofs.Ytbkadgdhmfolaaa
open Go Go.RowKit

/-- A place in a text: the column, and whether something is written on the line. -/
abbrev Pl := Nat × Bool
def plV (p : Pl) : Value := .agg #[.int .i64 p.1, .bool p.2]

/-- A text that is added at a place: the place behind it, and the bytes beyond the width that it adds. -/
def plW (W : Nat) (p : Pl) (n : Nat) : Pl × Nat := if n = 0 then (p, 0) else ((p.1 + n, true), (p.1 + n - W) - ((if p.2 then p.1 else 0) - W))

structure LyAt (w : World) (g : Nat) (D : Value) (W : Nat) (G H : Value) (M : Value) : Prop where
  blk : Blk w g 89 [D, .int .i64 W, G, H, M]

theorem qloadN {C : World → Prop} {p : Addr} {n : Nat} {vs : List Value} {K : List Value → Prop} (hl : vs.length = n) (h : ∀ w, C w → ∀ j v, vs[j]? = some v → w.cell? (p.add j) = some v) (k : K vs) : QLoadN C p n K := by unfold QLoadN; exact ⟨vs, hl, h, k⟩

theorem write_fn2 (g W : Nat) (D G H M : Value) (p : Pl) (s : ByteArray) (w : World) (hB : LyAt w g D W G H M) (hW : W ≤ 1000) (hp : p.1 ≤ 1000000000000) (hs : s.size ≤ 1000000000000) :
    Fn Try.prog 60 [.pointer (some ⟨g, 0, none⟩), plV p, .string s] w (fun v w' => v = .tuple #[plV (plW W p s.size).1, .agg #[.int .i64 (plW W p s.size).2, .int .i64 0]] ∧ Ext w w') := by
  refine fn_of_exec (c := { c60 with cuts := [4] }) gx_ok Try.func60 rfl rfl rfl ?_
  refine new (fun w1 hE1 hz1 hB1 => ?_)
  refine new (fun w2 hE2 hz2 hB2 => ?_)
  refine new (fun w3 hE3 hz3 hB3 => ?_)
  have hE12 := hE1.trans hE2
  have hE13 := hE12.trans hE3
  have hA := hB1.ext (hE2.trans hE3)
  have hR := hB2.ext hE3
  have hz01 := hE1.size
  have hgl := hB.blk.lt
  refine wif (fun h0 => ?_) (fun h0 => ?_)
  · have hs0 : s = ⟨#[]⟩ := by simpa using h0
    subst hs0
    refine loadN_blk0 hA rfl ?_
    refine storeN_blk0 hR rfl (by simp [plV, cellsL, scalar]) (fun w4 hg4 _ hR4 => ?_)
    have hm4 : Mod (· = w1.heap.size) w3 w4 := Mod.of_grown hg4 rfl
    have hC4 := hB3.mod hm4 (by omega)
    refine storeN_blk0 hC4 rfl (sc rfl) (fun w5 hg5 _ hC5 => ?_)
    have hm5 : Mod (· = w2.heap.size) w4 w5 := Mod.of_grown hg5 rfl
    have hR5 := hR4.mod hm5 (by omega)
    refine loadN_blk0 hR5 rfl ?_
    refine loadN_blk0 hC5 rfl ?_
    refine ⟨rfl, hm5.ext (hm4.ext hE13 (fun i hi => by omega)) (fun i hi => by omega)⟩
  have hs0 : s.size ≠ 0 := fun e => by
    have : s = ⟨#[]⟩ := by
      apply ByteArray.ext
      exact Array.eq_empty_of_size_eq_zero e
    rw [this] at h0
    exact absurd h0 (by decide)
  refine cutIn [] gx_ok [8] (fun o : Nat => [.int .i64 o]) (fun o w' => w3 = w' ∧ o = if p.2 then p.1 else 0) ?_ ?_
  · refine load_blk hA rfl ?_
    refine wif (fun h1 => ?_) (fun h1 => ?_)
    · refine load_blk hA rfl ?_
      exact ⟨p.1, rfl, rfl, by rw [if_pos h1]⟩
    · exact ⟨0, rfl, rfl, by rw [h1]; rfl⟩
  rintro o _ ⟨rfl, ho⟩
  have hop : o ≤ p.1 := by rw [ho]; split <;> omega
  refine load_blk hA rfl ?_
  refine norm_i64_to ((p.1 + s.size : Nat) : Int) (by omega) (by omega) ?_
  refine storeN_blk0 hA rfl (sc rfl) (fun w4 hg4 _ hA4 => ?_)
  have hm4 : Mod (· = w.heap.size) w3 w4 := Mod.of_grown hg4 rfl
  have hR4 := hR.mod hm4 (by omega)
  have hC4 := hB3.mod hm4 (by omega)
  have hE4 := hm4.ext hE13 (fun i hi => by omega)
  have hL4 := hB.blk.ext hE4
  have hC0 : Mod (fun i => i = w1.heap.size ∨ i = w2.heap.size) w4 w4.drew := Mod.of_ext _ (Ext.drew w4)
  have qA : ∀ (j : Nat) (v : Value), [Value.int .i64 ((p.1 + s.size : Nat) : Int), .bool true][j]? = some v → ∀ w', Mod (fun i => i = w1.heap.size ∨ i = w2.heap.size) w4 w' → w'.cell? ((⟨w.heap.size, 0, none⟩ : Addr).add j) = some v := fun j v hj w' hw' => by
    rw [(hA4.mod hw' (by omega)).cell]; exact hj
  have qL : ∀ w', Mod (fun i => i = w1.heap.size ∨ i = w2.heap.size) w4 w' → w'.cell? ((⟨g, 0, none⟩ : Addr).add 1) = some (.int .i64 W) := fun w' hw' => by
    rw [(hL4.mod hw' (by omega)).cell]; rfl
  refine draw_plan gx_ok (Mod (fun i => i = w1.heap.size ∨ i = w2.heap.size) w4) 20 [(true, 0), (true, 1), (true, 2), (true, 3), (true, 4), (true, 5), (true, 6), (true, 7), (true, 8), (true, 9), (true, 10), (true, 11), (true, 12), (true, 13), (true, 14), (true, 15), (true, 16), (true, 17), (false, 18), (false, 19)] (by kernel_rfl) hC0 ?_
  refine qloadN (vs := [Value.int .i64 ((p.1 + s.size : Nat) : Int), .bool true]) rfl (fun w' hw' j v hj => qA j v hj w' hw') ?_
  refine qload (qA 0 _ rfl) ?_
  refine qload qL ?_
  refine norm_i64_to (((p.1 + s.size : Nat) : Int) - W) rfl (by omega) ?_
  refine norm (m := ((p.1 + s.size - W : Nat) : Int)) (by split <;> omega) ?_
  refine qload qL ?_
  refine norm_i64_to (((o : Nat) : Int) - W) rfl (by omega) ?_
  refine norm (m := ((o - W : Nat) : Int)) (by split <;> omega) ?_
  refine norm_i64_to (((p.1 + s.size - W) - (o - W) : Nat) : Int) (by omega) (by omega) ?_
  refine storeN_blk0 (hR4.ext (Ext.drew w4)) rfl (sc rfl) (fun w5 hg5 _ hR5 => ?_)
  have hm5 : Mod (· = w1.heap.size) w4.drew w5 := Mod.of_grown hg5 rfl
  have hz4 := (Ext.drew w4).size
  have hb1 := hR.lt
  have hb2 := hB3.lt
  have hC5 := (hC4.ext (Ext.drew w4)).mod hm5 (by omega)
  have hM5 : Mod (fun i => i = w1.heap.size ∨ i = w2.heap.size) w4 w5 := hC0.trans hm5 (fun i hi => .inl (.inl hi))
  refine ⟨hM5, ?_⟩
  refine storeN_blk0 hC5 rfl (sc rfl) (fun w6 hg6 _ hC6 => ?_)
  have hm6 : Mod (· = w2.heap.size) w5 w6 := Mod.of_grown hg6 rfl
  have hM6 := hM5.trans hm6 (fun i hi => .inl (.inr hi))
  have hR6 := hR5.mod hm6 (by omega)
  refine ⟨hM6, ?_⟩
  refine loadN_blk0 hR6 rfl ?_
  refine loadN_blk0 hC6 rfl ?_
  refine ⟨?_, hM6.ext hE4 (fun i hi => by omega)⟩
  unfold plW
  rw [if_neg hs0, ← ho]
  rfl
end Go.Proofs.Ytbkadgdhmfolaaa
