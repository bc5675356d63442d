/-
  layout: flat.
  Conditions: none.
-/
import Derived.Test.YtbkadgdhmfolaaaLy4
namespace Go.Proofs.Ytbkadgdhmfolaaa
open Go Go.RowKit

def wtT : Dt → Nat
  | .text s => s.length
  | .line s => s.length
  | .hard => 0
  | .seq a b => wtT a + wtT b
  | .nest n a => n + wtT a
  | .align a => wtT a
  | .group a => wtT a
/-- The bytes on the line that are written. -/
def cw (p : Pl) : Nat := if p.2 then p.1 else 0
theorem plW_lim (W : Nat) (p : Pl) (n : Nat) : cw p + (plW W p n).2 ≤ cw (plW W p n).1 ∧ (plW W p n).1.1 ≤ p.1 + n ∧ p.1 ≤ (plW W p n).1.1 := by
  obtain ⟨c, b⟩ := p
  by_cases h : n = 0
  · simp [plW, cw, h]
  · cases b <;> simp [plW, cw, h] <;> omega
theorem flatP_lim (W : Nat) : ∀ (t : Dt) (p : Pl), cw p + (flatP W t p).2 ≤ cw (flatP W t p).1 ∧ (flatP W t p).1.1 ≤ p.1 + wtT t
  | .text s, p => ⟨(plW_lim W p s.length).1, (plW_lim W p s.length).2.1⟩
  | .line s, p => ⟨(plW_lim W p s.length).1, (plW_lim W p s.length).2.1⟩
  | .hard, p => ⟨Nat.le_refl _, Nat.le_refl _⟩
  | .seq a b, p => by
    have h1 := flatP_lim W a p
    have h2 := flatP_lim W b (flatP W a p).1
    simp only [flatP, wtT]
    omega
  | .nest n a, p => by
    have := flatP_lim W a p
    simp only [flatP, wtT]
    omega
  | .align a, p => flatP_lim W a p
  | .group a, p => flatP_lim W a p
theorem cw_le (p : Pl) : cw p ≤ p.1 := by unfold cw; split <;> omega

def FlatRes (W : Nat) (t : Dt) (p : Pl) (w : World) (v : Value) (w' : World) : Prop := v = .tuple #[plV (flatP W t p).1, .agg #[.int .i64 (flatP W t p).2, .int .i64 0]] ∧ Ext w w'

theorem flat_fn (g W : Nat) (A : Option Addr) (n c : Nat) (G H M : Value) (d : List Nd) (hd : NodesOk d) (hW : W ≤ 1000) (hn : n ≤ 65536) : ∀ (i : Nat) (p : Pl) (w : World), i < n → SD w A n c d → LyAt w g (.slice A n c) W G H M → p.1 + wtT (T d i) ≤ 1000000000000 →
    Fn Try.prog 62 [.pointer (some ⟨g, 0, none⟩), .int .i64 i, plV p] w (FlatRes W (T d i) p w) := by
  intro i
  induction i using Nat.strongRecOn with
  | _ i ih =>
    intro p w hi h hL hp
    have hlen := h.2
    have hgl := hL.blk.lt
    refine fn_of_exec (c := { c62 with cuts := [3] }) gx_ok Try.func62 rfl rfl rfl ?_
    refine new (fun w1 hE1 hz1 hB1 => ?_)
    refine new (fun w2 hE2 hz2 hB2 => ?_)
    refine new (fun w3 hE3 hz3 hB3 => ?_)
    have hE03 := hE1.trans (hE2.trans hE3)
    have hP := hB1.ext (hE2.trans hE3)
    have hR := hB2.ext hE3
    refine load_blk (hL.blk.ext hE03) rfl ?_
    refine index_sls nd_len (h.ext hE03) rfl hi (fun ad x hx hc => ?_)
    have hnx := hd i x hx
    have hk := arI_kind hnx.1
    have har := arI_of (k := x.k)
    have hT := T_eq hd hx
    refine loadN_at (vs := x.cells) rfl hc ?_
    refine new (fun w4 hE4 hz4 hB4 => ?_)
    refine storeN_blk0 hB4 rfl (by simp [Nd.cells, scalar]) (fun w5 hg5 _ hX => ?_)
    have hE35 := newBox hE4 hB4 hg5
    have hE05 := hE03.trans hE35
    have hP5 := hP.ext hE35
    have hR5 := hR.ext hE35
    have hC5 := hB3.ext hE35
    have hL5 : LyAt w5 g (.slice A n c) W G H M := ⟨hL.blk.ext hE05⟩
    have hS5 := h.ext hE05
    have hz01 := hE1.size
    have hb1 := hR.lt
    have hb2 := hB3.lt
    -- what is left to do once both results are known
    have fin : ∀ (r : Pl × Nat) (w6 w7 w8 : World), Ext w5 w6 → w6.grownBy w7 (some w1.heap.size) → Blk w7 w1.heap.size 94 (cellsL (plV r.1)) → w7.grownBy w8 (some w2.heap.size) → Blk w8 w2.heap.size 29 [.int .i64 r.2, .int .i64 0] →
        Blk w8 w1.heap.size 94 (cellsL (plV r.1)) ∧ Ext w w8 := fun r w6 w7 w8 h1 h2 h3 h4 h5 => by
      have hm7 : Mod (· = w1.heap.size) w6 w7 := Mod.of_grown h2 rfl
      have hm8 : Mod (· = w2.heap.size) w7 w8 := Mod.of_grown h4 rfl
      exact ⟨h3.mod hm8 (by omega), hm8.ext (hm7.ext (hE05.trans h1) (fun i hi => by omega)) (fun i hi => by omega)⟩
    refine load_blk hX rfl ?_
    refine cutIn [] gx_ok [21] (fun b : Bool => [.bool b]) (fun b w' => w5 = w' ∧ (b = true ↔ x.k = 0 ∨ x.k = 1)) ?_ ?_
    · refine wif_eq (fun h0 => ?_) (fun h0 => ?_)
      · exact ⟨true, by simp [h0]; rfl, rfl, by simp [h0]⟩
      · exact ⟨_, rfl, rfl, by simp [h0]⟩
    rintro b _ ⟨rfl, hb⟩
    refine wif (fun h0 => ?_) (fun h0 => ?_)
    · have hk01 := hb.1 h0
      have hTt : flatP W (T d i) p = plW W p (bytesOf x.t).length ∧ wtT (T d i) = (bytesOf x.t).length := by
        rw [hT]
        rcases hk01 with k0 | k1
        · rw [if_pos k0]; exact ⟨rfl, rfl⟩
        · rw [if_neg (by omega), if_pos k1]; exact ⟨rfl, rfl⟩
      refine loadN_blk0 hP5 rfl ?_
      refine load_blk hX rfl ?_
      refine call (write_fn2 g W _ G H M p x.t w5 hL5 hW (by omega) (by have := hTt.2; rw [bytesOf_length] at this; omega)) ?_
      rintro v w6 ⟨rfl, hE6⟩
      refine storeN_blk0 (hR5.ext hE6) rfl (by simp [scalar]) (fun w7 hg7 _ hR7 => ?_)
      have hm7 : Mod (· = w1.heap.size) w6 w7 := Mod.of_grown hg7 rfl
      refine storeN_blk0 ((hC5.ext hE6).mod hm7 (by omega)) rfl (sc rfl) (fun w8 hg8 _ hC8 => ?_)
      have hf := fin (plW W p x.t.size) w6 w7 w8 hE6 hg7 hR7 hg8 hC8
      refine loadN_blk0 hf.1 rfl ?_
      refine loadN_blk0 hC8 rfl ?_
      refine ⟨?_, hf.2⟩
      rw [hTt.1, bytesOf_length]
      rfl
    have hk0 : x.k ≠ 0 := fun e => by rw [hb.2 (.inl e)] at h0; cases h0
    have hk1 : x.k ≠ 1 := fun e => by rw [hb.2 (.inr e)] at h0; cases h0
    rw [if_neg hk0, if_neg hk1] at hT
    refine wif_eq (fun k3 => ?_) (fun k3 => ?_)
    · rw [if_pos k3] at hT
      have ha := hnx.a_lt (by have := har.2.2.2.1 k3; omega)
      have hbb := hnx.b_lt (by have := har.2.2.2.1 k3; omega)
      have hai : x.a = ((x.a.toNat : Nat) : Int) := by omega
      have hbi : x.b = ((x.b.toNat : Nat) : Int) := by omega
      rw [hT] at hp ⊢
      simp only [wtT] at hp
      have hl1 := flatP_lim W (T d x.a.toNat) p
      refine load_blk hX rfl ?_
      refine loadN_blk0 hP5 rfl ?_
      have hf1 := ih x.a.toNat ha.2 p w5 (by omega) hS5 hL5 (by omega)
      rw [← hai] at hf1
      refine call hf1 ?_
      rintro v w6 ⟨rfl, hE6⟩
      refine new (fun w7 hE7 hz7 hB7 => ?_)
      refine new (fun w8 hE8 hz8 hB8 => ?_)
      refine storeN_blk0 (hB7.ext hE8) rfl (by simp [scalar]) (fun w9 hg9 _ hB9 => ?_)
      have hm9 : Mod (· = w6.heap.size) w8 w9 := Mod.of_grown hg9 rfl
      refine storeN_blk0 (hB8.mod hm9 (by omega)) rfl (sc rfl) (fun w10 hg10 _ hB10 => ?_)
      have hm10 : Mod (· = w7.heap.size) w9 w10 := Mod.of_grown hg10 rfl
      have hz67 := hE7.size
      have hE610 : Ext w6 w10 := hm10.ext (hm9.ext (hE7.trans hE8) (fun i hi => by omega)) (fun i hi => by omega)
      have hE510 := hE6.trans hE610
      have hB9' := hB9.mod hm10 (by omega)
      refine load_blk (hX.ext hE510) rfl ?_
      refine loadN_blk0 hB9' rfl ?_
      have hf2 := ih x.b.toNat hbb.2 (flatP W (T d x.a.toNat) p).1 w10 (by omega) (hS5.ext hE510) ⟨hL5.blk.ext hE510⟩ (by omega)
      rw [← hbi] at hf2
      refine call hf2 ?_
      rintro v w11 ⟨rfl, hE11⟩
      have hl2 := flatP_lim W (T d x.b.toNat) (flatP W (T d x.a.toNat) p).1
      have hcw := cw_le (flatP W (T d x.b.toNat) (flatP W (T d x.a.toNat) p).1).1
      generalize hr1 : flatP W (T d x.a.toNat) p = r1 at *
      generalize hr2 : flatP W (T d x.b.toNat) r1.1 = r2 at *
      refine new (fun w12 hE12 hz12 hB12 => ?_)
      refine storeN_blk0 (hB9'.ext (hE11.trans hE12)) rfl (by simp [scalar]) (fun w13 hg13 _ hB13 => ?_)
      have hm13 : Mod (· = w6.heap.size) w12 w13 := Mod.of_grown hg13 rfl
      have hz610 := hE610.size
      have hz11 := hE11.size
      have hb9 := hB9'.lt
      have hb10 := hB10.lt
      refine storeN_blk0 (hB12.mod hm13 (by omega)) rfl (sc rfl) (fun w14 hg14 _ hB14 => ?_)
      have hm14 : Mod (· = w11.heap.size) w13 w14 := Mod.of_grown hg14 rfl
      have hE1014 : Mod (fun i => i = w6.heap.size ∨ i = w11.heap.size) w10 w14 := ((Mod.of_ext _ (hE11.trans hE12)).trans hm13 (fun i hi => .inl (.inl hi))).trans hm14 (fun i hi => .inl (.inr hi))
      have hE614 : Ext w6 w14 := hE1014.ext hE610 (fun i hi => by omega)
      have hB9'' := hB13.mod hm14 (by omega)
      have hB10'' := hB10.mod hE1014 (by omega)
      have hE514 := hE6.trans hE614
      have hz56 := hE6.size
      have hb5 := hC5.lt
      have hC0 : Mod (fun i => i = w1.heap.size ∨ i = w2.heap.size) w14 w14.drew := Mod.of_ext _ (Ext.drew w14)
      have q9 : ∀ (j : Nat) (v : Value), (cellsL (plV r2.1))[j]? = some v → ∀ w', Mod (fun i => i = w1.heap.size ∨ i = w2.heap.size) w14 w' → w'.cell? ((⟨w6.heap.size, 0, none⟩ : Addr).add j) = some v := fun j v hj w' hw' => by
        rw [(hB9''.mod hw' (by omega)).cell]; exact hj
      have q10 : ∀ w', Mod (fun i => i = w1.heap.size ∨ i = w2.heap.size) w14 w' → w'.cell? ((⟨w7.heap.size, 0, none⟩ : Addr).add 0) = some (.int .i64 r1.2) := fun w' hw' => by
        rw [(hB10''.mod hw' (by omega)).cell]; rfl
      have q11 : ∀ w', Mod (fun i => i = w1.heap.size ∨ i = w2.heap.size) w14 w' → w'.cell? ((⟨w11.heap.size, 0, none⟩ : Addr).add 0) = some (.int .i64 r2.2) := fun w' hw' => by
        rw [(hB14.mod hw' (by omega)).cell]; rfl
      refine draw_plan gx_ok (Mod (fun i => i = w1.heap.size ∨ i = w2.heap.size) w14) 9 [(true, 0), (true, 1), (true, 2), (true, 3), (true, 4), (true, 5), (true, 6), (false, 7), (false, 8)] (by kernel_rfl) hC0 ?_
      refine qloadN (vs := cellsL (plV r2.1)) rfl (fun w' hw' j v hj => q9 j v hj w' hw') ?_
      refine qload q10 ?_
      refine qload q11 ?_
      refine norm_i64_to ((r1.2 + r2.2 : Nat) : Int) (by omega) (by omega) ?_
      refine storeN_blk0 ((hR5.ext hE514).ext (Ext.drew w14)) rfl (by simp [plV, cellsL, scalar]) (fun w15 hg15 _ hR15 => ?_)
      have hm15 : Mod (· = w1.heap.size) w14.drew w15 := Mod.of_grown hg15 rfl
      have hM15 : Mod (fun i => i = w1.heap.size ∨ i = w2.heap.size) w14 w15 := hC0.trans hm15 (fun i hi => .inl (.inl hi))
      refine ⟨hM15, ?_⟩
      refine storeN_blk0 (((hC5.ext hE514).ext (Ext.drew w14)).mod hm15 (by omega)) rfl (sc rfl) (fun w16 hg16 _ hC16 => ?_)
      have hm16 : Mod (· = w2.heap.size) w15 w16 := Mod.of_grown hg16 rfl
      have hM16 := hM15.trans hm16 (fun i hi => .inl (.inr hi))
      refine ⟨hM16, ?_⟩
      have hf := fin (r2.1, r1.2 + r2.2) w14.drew w15 w16 (hE514.trans (Ext.drew w14)) hg15 hR15 hg16 hC16
      refine loadN_blk0 hf.1 rfl ?_
      refine loadN_blk0 hC16 rfl ?_
      refine ⟨?_, hf.2⟩
      simp only [flatP, hr1, hr2]
      rfl
    rw [if_neg k3] at hT
    refine wif_eq (fun k2 => ?_) (fun k2 => ?_)
    · rw [if_neg (by omega), if_neg (by omega), if_neg (by omega)] at hT
      rw [hT]
      refine loadN_blk0 hP5 rfl ?_
      refine storeN_blk0 hR5 rfl (by simp [plV, cellsL, scalar]) (fun w7 hg7 _ hR7 => ?_)
      have hm7 : Mod (· = w1.heap.size) w5 w7 := Mod.of_grown hg7 rfl
      refine storeN_blk0 (hC5.mod hm7 (by omega)) rfl (sc rfl) (fun w8 hg8 _ hC8 => ?_)
      have hf := fin (p, 0) w5 w7 w8 (Ext.refl _) hg7 hR7 hg8 hC8
      refine loadN_blk0 hf.1 rfl ?_
      refine loadN_blk0 hC8 rfl ?_
      exact ⟨rfl, hf.2⟩
    · have h1 : arI x.k = 1 := by
        rcases hk with h | h | h | h | h | h | h
        · exact absurd h hk0
        · exact absurd h hk1
        · exact absurd h k2
        · exact absurd h k3
        · exact har.2.2.2.2.1 h
        · exact har.2.2.2.2.2.1 h
        · exact har.2.2.2.2.2.2 h
      have ha := hnx.a_lt (by omega)
      have hai : x.a = ((x.a.toNat : Nat) : Int) := by omega
      have hTt : flatP W (T d i) p = flatP W (T d x.a.toNat) p ∧ wtT (T d x.a.toNat) ≤ wtT (T d i) := by
        rw [hT]
        split
        · exact ⟨rfl, Nat.le_add_left _ _⟩
        split
        · exact ⟨rfl, Nat.le_refl _⟩
        split
        · exact ⟨rfl, Nat.le_refl _⟩
        · exfalso; omega
      refine load_blk hX rfl ?_
      refine loadN_blk0 hP5 rfl ?_
      have hf1 := ih x.a.toNat ha.2 p w5 (by omega) hS5 hL5 (by omega)
      rw [← hai] at hf1
      refine call hf1 ?_
      rintro v w6 ⟨rfl, hE6⟩
      unfold FlatRes
      rw [hTt.1]
      generalize flatP W (T d x.a.toNat) p = r1
      refine storeN_blk0 (hR5.ext hE6) rfl (by simp [scalar]) (fun w7 hg7 _ hR7 => ?_)
      have hm7 : Mod (· = w1.heap.size) w6 w7 := Mod.of_grown hg7 rfl
      refine storeN_blk0 ((hC5.ext hE6).mod hm7 (by omega)) rfl (sc rfl) (fun w8 hg8 _ hC8 => ?_)
      have hf := fin r1 w6 w7 w8 hE6 hg7 hR7 hg8 hC8
      refine loadN_blk0 hf.1 rfl ?_
      refine loadN_blk0 hC8 rfl ?_
      exact ⟨rfl, hf.2⟩
end Go.Proofs.Ytbkadgdhmfolaaa
