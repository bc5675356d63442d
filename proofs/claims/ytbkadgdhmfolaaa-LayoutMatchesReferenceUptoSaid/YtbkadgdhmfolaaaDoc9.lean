/-
  The reference's Render: the contract.
  Conditions: none.
-/
import Derived.Test.YtbkadgdhmfolaaaDoc8
namespace Go.Proofs.Ytbkadgdhmfolaaa
open Go Go.RowKit

theorem rnode_fn (w0 : World) (g : Nat) (hh : RH) (d : List Nd) (G : List Nat) (fl : List Bool) (hv : Valid d) (h : SD w0 hh.A hh.n hh.c d) (hG : Sl w0 1 hh.B hh.m hh.cb (natsV G)) (hF : Sl w0 1 hh.F hh.mf hh.cf (boolsV fl)) (hml : hh.m = hh.mf) (hm : hh.m ≤ 65536) (hg0 : w0.heap.size ≤ g) :
    ∀ (i ind : Nat) (flat : Bool) (st : Ws) (B : Nat) (w : World), i < hh.n → Ext w0 w → RW w g hh st → CI st → (∀ x ∈ st.out, x < 256) → LimW st ind B → B + (FT d (chF (G.zip fl)) i).wt ≤ 1073741823 → st.out.length + (FT d (chF (G.zip fl)) i).sz * lsz ≤ 70368744177664 →
    Fn Try.prog 54 [.pointer (some ⟨g, 0, none⟩), .int .i64 i, .int .i64 ind, .bool flat] w (fun _ w' => RW w' g hh (wr (FT d (chF (G.zip fl)) i) ind flat st) ∧ Mod (· = g) w w') := by
  intro i
  generalize hfe : chF (G.zip fl) = f
  induction i using Nat.strongRecOn with
  | _ i ih =>
    intro ind flat st B w hi hE hb hci h8 hl hB ho
    have hlen := h.2
    refine fn_of_exec (c := c54) gx_ok Try.func54 rfl rfl rfl ?_
    refine load_blk hb rfl ?_
    refine index_sls nd_len (h.ext hE) rfl hi (fun p x hx hc => ?_)
    have hnx := hv.ok i x hx
    have hT := FT_eq hv.ok f hx
    have hkd := arI_kind hnx.1
    have har := arI_of (k := x.k)
    refine loadN_at (vs := x.cells) rfl hc ?_
    refine new (fun w5 hE5 hz5 hB5 => ?_)
    refine storeN_blk0 hB5 rfl (by simp [Nd.cells, scalar]) (fun w6 hg6 _ hB6 => ?_)
    have hE6 := newBox hE5 hB5 hg6
    have hE06 := hE.trans hE6
    have hb6 := hb.ext hE6
    have hgl := hb.lt
    clear hB5 hE5 hg6
    have wrap : ∀ (w7 w' : World) (st' : Ws), Ext w6 w7 → RW w' g hh st' → Mod (· = g) w7 w' → RW w' g hh st' ∧ Mod (· = g) w w' := fun w7 w' st' hE7 hr hm =>
      ⟨hr, (Mod.of_ext (· = g) (hE6.trans hE7)).trans hm (fun i hi => .inl hi)⟩
    obtain ⟨hl1, hl2, hl3⟩ := hl
    refine load_blk hB6 rfl ?_
    refine wif_eq (fun k0 => ?_) (fun k0 => ?_)
    · rw [if_pos k0] at hT
      rw [hT] at hB ho ⊢
      simp only [Ft.wt, Ft.sz, Nat.one_mul, lsz_eq] at hB ho
      refine load_blk hB6 rfl ?_
      refine call (rtext_fn g hh st x.t w6 hb6 hci hnx.2.1.2.1 h8 (by omega)) ?_
      rintro v w7 ⟨hr, hm7⟩
      exact wrap w6 w7 _ (Ext.refl _) hr hm7
    rw [if_neg k0] at hT
    refine wif_eq (fun k1 => ?_) (fun k1 => ?_)
    · rw [if_pos k1] at hT
      rw [hT] at hB ho ⊢
      simp only [Ft.wt, Ft.sz, Nat.one_mul, lsz_eq] at hB ho
      refine wif (fun hf => ?_) (fun hf => ?_)
      · refine load_blk hB6 rfl ?_
        refine call (rtext_fn g hh st x.t w6 hb6 hci hnx.2.1.2.1 h8 (by omega)) ?_
        rintro v w7 ⟨hr, hm7⟩
        refine wrap w6 w7 _ (Ext.refl _) ?_ hm7
        rw [wr, if_pos hf]; exact hr
      · refine call (rline_fn g hh st ind w6 hb6 (by omega)) ?_
        rintro v w7 ⟨hr, hm7⟩
        refine wrap w6 w7 _ (Ext.refl _) ?_ hm7
        rw [wr, if_neg (by rw [hf]; decide)]; exact hr
    rw [if_neg k1] at hT
    refine wif_eq (fun k2 => ?_) (fun k2 => ?_)
    · rw [if_neg (by omega), if_neg (by omega), if_neg (by omega), if_neg (by omega)] at hT
      rw [hT] at hB ho ⊢
      simp only [Ft.wt, Ft.sz, Nat.one_mul, lsz_eq] at hB ho
      have fin : ∀ w7, Mod (· = g) w6 w7 → RW w7 g hh { st with wrong := st.wrong || flat } → Fn Try.prog 65 [.pointer (some ⟨g, 0, none⟩), .int .i64 ind] w7 (fun _ w' => RW w' g hh (wr .hard ind flat st) ∧ Mod (· = g) w w') := fun w7 hm7 hr7 => by
        refine (rline_fn g hh _ ind w7 hr7 (by dsimp only; omega)).mono ?_
        rintro v w8 ⟨hr, hm8⟩
        exact ⟨hr, ((Mod.of_ext (· = g) hE6).trans hm7 (fun i hi => .inl hi)).trans hm8 (fun i hi => .inl hi)⟩
      refine load_blk hb6 rfl ?_
      refine wif (fun hf => ?_) (fun hf => ?_)
      · refine store_mod hb6 (by simp [RCells]) (fun w7 hm7 hB7 => ?_)
        exact call (fin w7 hm7 (by rw [hf]; exact hB7)) (fun v w' h => h)
      · refine store_mod hb6 (by simp [RCells]) (fun w7 hm7 hB7 => ?_)
        exact call (fin w7 hm7 (by rw [hf]; exact hB7)) (fun v w' h => h)
    refine wif_eq (fun k3 => ?_) (fun k3 => ?_)
    · rw [if_pos k3] at hT
      rw [hT] at hB ho ⊢
      simp only [Ft.wt, Ft.sz] at hB ho
      rw [sz_add] at ho
      have ha := hnx.a_lt (by have := har.2.2.2.1 k3; omega)
      have hbb := hnx.b_lt (by have := har.2.2.2.1 k3; omega)
      have hlim := wr_lim (FT d f x.a.toNat) ind flat st B lsz ⟨hl1, hl2, hl3⟩ (by rw [lsz_eq]; omega)
      have e2 : st.out.length + (FT d f x.a.toNat).sz * lsz ≤ 70368744177664 := by omega
      have e4 : (wr (FT d f x.a.toNat) ind flat st).out.length + (FT d f x.b.toNat).sz * lsz ≤ 70368744177664 := by have := hlim.2; omega
      refine load_blk hB6 rfl ?_
      have hfn := ih x.a.toNat ha.2 ind flat st B w6 (by omega) hE06 hb6 hci h8 ⟨hl1, hl2, hl3⟩ (by omega) e2
      rw [show ((x.a.toNat : Nat) : Int) = x.a by omega] at hfn
      refine call hfn ?_
      rintro v w7 ⟨hr7, hm7⟩
      have hB7 := hB6.mod hm7 (by omega)
      refine load_blk hB7 rfl ?_
      have hnl := FT_nonl hv.ok f x.a.toNat
      have hfn2 := ih x.b.toNat hbb.2 ind flat (wr (FT d f x.a.toNat) ind flat st) (B + (FT d f x.a.toNat).wt) w7 (by omega) (hm7.ext hE06 (fun i hi => by omega)) hr7 (wr_ci _ ind flat st hnl hci) (wr_u8 _ ind flat st h8) hlim.1 (by omega) e4
      rw [show ((x.b.toNat : Nat) : Int) = x.b by omega] at hfn2
      refine call hfn2 ?_
      rintro v w8 ⟨hr8, hm8⟩
      exact wrap w6 w8 _ (Ext.refl _) hr8 (hm7.trans hm8 (fun i hi => .inl hi))
    rw [if_neg k3] at hT
    refine wif_eq (fun k4 => ?_) (fun k4 => ?_)
    · rw [if_pos k4] at hT
      rw [hT] at hB ho ⊢
      simp only [Ft.wt, Ft.sz] at hB ho
      have ha := hnx.a_lt (by have := har.2.2.2.2.1 k4; omega)
      have hnn : x.n = ((x.n.toNat : Nat) : Int) := by have := hnx.2.1.2.2.2.1; omega
      refine load_blk hB6 rfl ?_
      refine load_blk hB6 rfl ?_
      refine norm_i64_to ((ind + x.n.toNat : Nat) : Int) (by omega) (by omega) ?_
      have hfn := ih x.a.toNat ha.2 (ind + x.n.toNat) flat st (B + x.n.toNat) w6 (by omega) hE06 hb6 hci h8 ⟨by omega, by omega, by omega⟩ (by omega) ho
      rw [show ((x.a.toNat : Nat) : Int) = x.a by omega] at hfn
      refine call hfn ?_
      rintro v w7 ⟨hr7, hm7⟩
      exact wrap w6 w7 _ (Ext.refl _) hr7 hm7
    rw [if_neg k4] at hT
    refine wif_eq (fun k5 => ?_) (fun k5 => ?_)
    · rw [if_pos k5] at hT
      rw [hT] at hB ho ⊢
      simp only [Ft.wt, Ft.sz] at hB ho
      have ha := hnx.a_lt (by have := har.2.2.2.2.2.1 k5; omega)
      refine load_blk hb6 rfl ?_
      have go : ∀ (c : Nat), c = (if st.col = 0 then st.pend else st.col) → ∀ w7, w7 = w6.drew → Fn Try.prog 54 [.pointer (some ⟨g, 0, none⟩), .int .i64 x.a, .int .i64 c, .bool flat] w7 (fun _ w' => RW w' g hh (wr (.align (FT d f x.a.toNat)) ind flat st) ∧ Mod (· = g) w w') := fun c hcc w7 e7 => by
        subst e7
        have hfn := ih x.a.toNat ha.2 c flat st B w6.drew (by omega) (hE06.trans (Ext.drew _)) (hb6.ext (Ext.drew _)) hci h8 ⟨hl1, hl2, by rw [hcc]; split <;> omega⟩ (by omega) ho
        rw [show ((x.a.toNat : Nat) : Int) = x.a by omega] at hfn
        refine hfn.mono ?_
        rintro v w8 ⟨hr8, hm8⟩
        refine wrap w6.drew w8 _ (Ext.drew _) ?_ hm8
        rw [wr, ← hcc]; exact hr8
      have q0 : ∀ (j : Nat) (v : Value), (RCells hh st)[j]? = some v → ∀ w', w' = w6.drew → w'.cell? ((⟨g, 0, none⟩ : Addr).add j) = some v := fun j v hj w' hw' => by subst hw'; rw [(hb6.ext (Ext.drew _)).cell]; exact hj
      have q1 : ∀ (j : Nat) (v : Value), x.cells[j]? = some v → ∀ w', w' = w6.drew → w'.cell? ((⟨w.heap.size, 0, none⟩ : Addr).add j) = some v := fun j v hj w' hw' => by subst hw'; rw [(hB6.ext (Ext.drew _)).cell]; exact hj
      refine wif_d (fun hcol => ?_) (fun hcol => ?_)
      · refine draw_tail gx_ok 8 (by kernel_rfl) ?_
        refine qload (q1 3 _ rfl) ?_
        refine qload (q0 4 _ rfl) ?_
        exact call (go st.col (by rw [if_neg (by omega)]) _ rfl) (fun v w' h => h)
      · refine draw_tail gx_ok 8 (by kernel_rfl) ?_
        refine qload (q1 3 _ rfl) ?_
        refine qload (q0 5 _ rfl) ?_
        exact call (go st.pend (by rw [if_pos (by omega)]) _ rfl) (fun v w' h => h)
    rw [if_neg k5] at hT
    refine wif_eq (fun k6 => ?_) (fun k6 => ?_)
    · rw [if_pos k6] at hT
      rw [hT] at hB ho ⊢
      simp only [Ft.wt, Ft.sz] at hB ho
      have ha := hnx.a_lt (by have := har.2.2.2.2.2.2 k6; omega)
      have q1 : ∀ (j : Nat) (v : Value), x.cells[j]? = some v → ∀ w', w' = w6.drew → w'.cell? ((⟨w.heap.size, 0, none⟩ : Addr).add j) = some v := fun j v hj w' hw' => by subst hw'; rw [(hB6.ext (Ext.drew _)).cell]; exact hj
      have go : ∀ (b : Bool), b = (flat || f i) → Fn Try.prog 54 [.pointer (some ⟨g, 0, none⟩), .int .i64 x.a, .int .i64 ind, .bool b] w6.drew (fun _ w' => RW w' g hh (wr (.group (FT d f x.a.toNat) (f i)) ind flat st) ∧ Mod (· = g) w w') := fun b hbb => by
        have hfn := ih x.a.toNat ha.2 ind b st B w6.drew (by omega) (hE06.trans (Ext.drew _)) (hb6.ext (Ext.drew _)) hci h8 ⟨hl1, hl2, hl3⟩ (by omega) ho
        rw [show ((x.a.toNat : Nat) : Int) = x.a by omega] at hfn
        refine hfn.mono ?_
        rintro v w8 ⟨hr8, hm8⟩
        refine wrap w6.drew w8 _ (Ext.drew _) ?_ hm8
        rw [wr, ← hbb]; exact hr8
      refine draw_tail gx_ok 10 (by kernel_rfl) ?_
      refine qload (q1 3 _ rfl) ?_
      refine wif (fun hf => ?_) (fun hf => ?_)
      · exact call (go true (by rw [hf]; rfl)) (fun v w' h => h)
      · refine qcall (v := .bool (f i)) (fun w' hw' => ?_) ?_
        · subst hw'
          refine (chosen_fn g hh st i G fl _ (hb6.ext (Ext.drew _)) (hG.ext (hE06.trans (Ext.drew _))) (hF.ext (hE06.trans (Ext.drew _))) hml hm).mono ?_
          rintro v w' ⟨rfl, rfl⟩
          exact ⟨by rw [hfe], rfl⟩
        exact call (go (f i) (by rw [hf]; rfl)) (fun v w' h => h)
    · omega

theorem rrender_fn (A F : Option Addr) (n c m cf : Nat) (d : List Nd) (flat : List Bool) (w : World) (h : SD w A n c d) (hF : Sl w 1 F m cf (boolsV flat)) (ht : TxtOk d) :
    Fn Try.prog 36 [.slice A n c, .slice F m cf] w (StrRes w (rnd d flat)) := by
  have hlen := h.2
  have hfl : flat.length = m := by have := hF.len; rw [boolsV_length] at this; omega
  refine fn_of_exec (c := c36) gx_ok Try.func36 rfl rfl rfl ?_
  refine call (rgroups_fn _ _ _ _ _ h (fun x hx => by have := ht x hx; unfold maxLen; omega)) ?_
  rintro v w1 ⟨B, mB, cB, rfl, hE1, hs1⟩
  refine wif_ne (fun h1 => ?_) (fun h1 => ?_)
  · exact ⟨by rw [rnd, if_pos h1]; rfl, hE1⟩
  have hv : Valid d := chk_zero.1 h1
  have hpos := hv.2.1
  have hle := hv.1
  have hgl : (grp d).length = mB := by have := hs1.len; rw [natsV_length] at this; omega
  have hr1 : rnd d flat = if flat.length ≠ (grp d).length then ([], 1) else if (rst d flat).wrong = true then ([], 1) else ((rst d flat).out, 0) := by
    unfold rnd; rw [if_neg (by rw [h1]; decide)]
  refine wif_ne (fun h2 => ?_) (fun h2 => ?_)
  · exact ⟨by rw [hr1, if_pos (by omega)]; rfl, hE1⟩
  have hr2 : rnd d flat = if (rst d flat).wrong = true then ([], 1) else ((rst d flat).out, 0) := by
    rw [hr1, if_neg (by omega)]
  have hgn : mB ≤ 65536 := by
    have := G_len hv (d.length - 1)
    rw [← grp_ok hv] at this
    omega
  refine new (fun w2 hE2 hz2 hB2 => ?_)
  have hb2 : RW w2 w1.heap.size ⟨A, n, c, B, mB, cB, F, m, cf⟩ Ws.init := hB2
  refine norm_i64_to (((n - 1 : Nat)) : Int) (by omega) (by omega) ?_
  have hlim := FT_lim hv ht (chF ((grp d).zip flat))
  rw [hlen] at hlim
  refine call (rnode_fn w1 w1.heap.size ⟨A, n, c, B, mB, cB, F, m, cf⟩ d (grp d) flat hv (h.ext hE1) hs1 (hF.ext hE1) (by dsimp only; omega) hgn (Nat.le_refl _) (n - 1) 0 false Ws.init 0 w2 (by dsimp only; omega) hE2 hb2 rfl (by intro x hx; cases hx) ⟨Nat.le_refl _, Nat.le_refl _, Nat.le_refl _⟩ (by omega) (by show 0 + _ ≤ _; omega)) ?_
  rintro v w3 ⟨hr3, hm3⟩
  have hst : rst d flat = wr (FT d (chF ((grp d).zip flat)) (n - 1)) 0 false Ws.init := by rw [rst, hlen]
  rw [← hst] at hr3
  have hE3 : Ext w w3 := hm3.ext (hE1.trans hE2) (fun i hi => by have := hE1.size; omega)
  refine load_blk hr3 rfl ?_
  refine wif (fun hw => ?_) (fun hw => ?_)
  · exact ⟨by rw [hr2, if_pos hw]; rfl, hE3⟩
  · refine load_blk hr3 rfl ?_
    exact ⟨by rw [hr2, if_neg (by rw [hw]; decide)], hE3⟩
end Go.Proofs.Ytbkadgdhmfolaaa
