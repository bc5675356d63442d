/-
  The law MatchesReference: documents with long texts, how long they are, the walk.
  Conditions: as each theorem says.
-/
import Derived.Test.YtbkadgdhmfolaaaLh2
import Derived.Test.YtbkadgdhmfolaaaGr2
import Derived.Test.YtbkadgdhmfolaaaRows
namespace Go.Proofs.Ytbkadgdhmfolaaa
open Go Go.RowKit

def TxtU (d : List Nd) : Prop := (∀ x ∈ d, x.t.size ≤ 1048576) ∧ d.length ≤ 40

section
variable {d : List Nd} (hv : Valid d) (K : Nat) (hK : 1000 ≤ K) (ht : ∀ x ∈ d, x.t.size ≤ K)
include hv ht hK

set_option maxRecDepth 100000 in
theorem FT_sizeU (f : Nat → Bool) : ∀ (i : Nat), i < d.length → (FT d f i).wt ≤ (N d i).length * K ∧ (FT d f i).sz ≤ (N d i).length := by
  intro i
  induction i using Nat.strongRecOn with
  | _ i ih =>
    intro hi
    have hx : d[i]? = some d[i] := List.getElem?_eq_getElem hi
    generalize d[i] = x at hx
    have hn := hv.ok i x hx
    have htx := ht x (List.mem_of_getElem? hx)
    have har := arI_of (k := x.k)
    have hnx := hn.2.1.2.2.2
    rw [FT_eq hv.ok f hx, N_eq hv.ok hx]
    simp only [List.length_cons, List.length_append, Nat.add_mul, Nat.one_mul]
    split
    · simp only [Ft.wt, Ft.sz]; omega
    split
    · simp only [Ft.wt, Ft.sz]; omega
    split
    · rename_i h3
      have h4 := har.2.2.2.1 h3
      have ha := (hn.a_lt (by omega)).2
      have hb := (hn.b_lt (by omega)).2
      have h5 := ih _ ha (by omega)
      have h6 := ih _ hb (by omega)
      rw [if_pos (by omega), if_pos (by omega)]
      simp only [Ft.wt, Ft.sz]
      omega
    split
    · rename_i h3
      have h4 := har.2.2.2.2.1 h3
      have h5 := ih _ (hn.a_lt (by omega)).2 (by have := (hn.a_lt (by omega)).2; omega)
      rw [if_pos (by omega), if_neg (by omega)]
      simp only [Ft.wt, Ft.sz, List.length_nil, Nat.zero_mul]
      omega
    split
    · rename_i h3
      have h4 := har.2.2.2.2.2.1 h3
      have h5 := ih _ (hn.a_lt (by omega)).2 (by have := (hn.a_lt (by omega)).2; omega)
      rw [if_pos (by omega), if_neg (by omega)]
      simp only [Ft.wt, Ft.sz, List.length_nil, Nat.zero_mul]
      omega
    split
    · rename_i h3
      have h4 := har.2.2.2.2.2.2 h3
      have h5 := ih _ (hn.a_lt (by omega)).2 (by have := (hn.a_lt (by omega)).2; omega)
      rw [if_pos (by omega), if_neg (by omega)]
      simp only [Ft.wt, Ft.sz, List.length_nil, Nat.zero_mul]
      omega
    · simp only [Ft.wt, Ft.sz]; omega


end
theorem FT_limU {d : List Nd} (hv : Valid d) (ht : TxtU d) (f : Nat → Bool) : (FT d f (d.length - 1)).wt ≤ 1073741823 ∧ (FT d f (d.length - 1)).sz * lsz ≤ 70368744177664 := by
  have hp := hv.2.1
  have hl := ht.2
  have h1 := FT_sizeU hv 1048576 (by decide) ht.1 f (d.length - 1) (by omega)
  have h2 := nodup_len (d.length - 1 + 1) _ (N_nodup hv (d.length - 1)) (fun k hk => by have := N_le hv _ k hk; omega)
  have h3 := Nat.mul_le_mul_right 1048576 (show (N d (d.length - 1)).length ≤ 40 by omega)
  rw [lsz_eq]
  omega

theorem render_fnU (A F : Option Addr) (n c m cf : Nat) (d : List Nd) (flat : List Bool) (w : World) (h : SD w A n c d) (hF : Sl w 1 F m cf (boolsV flat)) (ht : TxtU d) :
    Fn Try.prog 21 [.slice A n c, .slice F m cf] w (StrRes w (rnd d flat)) := by
  have hlen := h.2
  have hfl : flat.length = m := by have := hF.len; rw [boolsV_length] at this; omega
  refine fn_of_exec (c := { c21 with cuts := [7] }) gx_ok Try.func21 rfl rfl rfl ?_
  refine call (groups_fn _ _ _ _ _ h) ?_
  rintro v w1 ⟨B, mB, cB, rfl, hE1, hs1⟩
  refine wif_ne (fun h1 => ?_) (fun h1 => ?_)
  · exact ⟨by rw [rnd, if_pos h1]; rfl, hE1⟩
  have hv : Valid d := chk_zero.1 h1
  have hpos := hv.2.1
  have hle := hv.1
  have hgl : (grp d).length = mB := by have := hs1.len; rw [natsV_length] at this; omega
  have hr1 : rnd d flat = if flat.length ≠ (grp d).length then ([], 1) else if (rst d flat).wrong = true then ([], 1) else ((rst d flat).out, 0) := by
    unfold rnd; rw [if_neg (by rw [h1]; decide)]
  refine wif_ne (fun h2 => ?_) (fun h2 => ?_)
  · exact ⟨by rw [hr1, if_pos (by omega)]; rfl, hE1⟩
  have hr2 : rnd d flat = if (rst d flat).wrong = true then ([], 1) else ((rst d flat).out, 0) := by
    rw [hr1, if_neg (by omega)]
  have hgn : mB ≤ 65536 := by
    have := G_len hv (d.length - 1)
    rw [← grp_ok hv] at this
    omega
  have hnd : (grp d).Nodup := by rw [grp_ok hv]; exact G_nodup hv _
  refine at_makeMap gx_ok (fun n : Int => Value.int .i64 n) rfl ?_
  intro w2 hE2 hz2 hm2
  refine cut0 gx_ok (fun w' => Ext w1 w' ∧ ∃ mp, MapAt (fun n : Int => Value.int .i64 n) w' w1.heap.size mp ∧ ∀ i : Nat, (assoc (i : Int) mp).getD (.bool false) = .bool (chF ((grp d).zip flat) i)) ?_ ?_
  · refine loop gx_ok [28] (fun s : Nat => [.int .i64 s]) (fun s w' => Ext w1 w' ∧ s ≤ mB ∧ ∃ mp, MapAt (fun n : Int => Value.int .i64 n) w' w1.heap.size mp ∧ ∀ i : Nat, (assoc (i : Int) mp).getD (.bool false) = .bool (chF (((grp d).zip flat).take s) i)) (fun s _ => mB - s) 0 rfl ⟨hE2, Nat.zero_le _, [], hm2, fun i => rfl⟩ ?_
    rintro s w3 ⟨hE3, hsn, mp, hm3, hmp⟩
    refine wif_d (fun h3 => ?_) (fun h3 => ?_)
    · have hgs : (grp d)[s]? = some (grp d)[s] := List.getElem?_eq_getElem (by omega)
      have hfs : flat[s]? = some flat[s] := List.getElem?_eq_getElem (by omega)
      generalize (grp d)[s] = j at hgs
      generalize flat[s] = b at hfs
      have hzs : ((grp d).zip flat)[s]? = some (j, b) := by rw [List.getElem?_zip_eq_some]; exact ⟨hgs, hfs⟩
      refine index_sl (hs1.ext hE3) (by omega) (fun ad u hA hu hcell => ?_)
      rw [natsV_get hgs] at hu
      cases hu
      refine load hcell ?_
      refine index_sl ((hF.ext hE1).ext hE3) (by omega) (fun ad2 u2 hA2 hu2 hcell2 => ?_)
      rw [boolsV_get hfs] at hu2
      cases hu2
      refine load hcell2 ?_
      refine at_mapUpdate (kv := fun n : Int => Value.int .i64 n) (a := (j : Int)) gx_ok rfl rfl rfl rfl rfl (KeyV.int .i64) rfl rfl rfl hm3 (fun w4 hg4 _ hm4 => ?_)
      refine norm_i64_to ((s + 1 : Nat) : Int) (by omega) (by omega) ?_
      refine ⟨s + 1, rfl, ⟨hE3.own hg4 (Nat.le_refl _), by omega, _, hm4, fun i => ?_⟩, by show mB - (s + 1) < mB - s; omega⟩
      rw [List.take_add_one, hzs]
      rw [show (some (j, b) : Option (Nat × Bool)).toList = [(j, b)] from rfl, chF_snoc j b i _ (fun p hp e => ?_), assoc_set]
      · by_cases hij : i = j
        · subst hij; rw [if_pos rfl, if_pos rfl]; rfl
        · rw [if_neg hij, if_neg (by omega)]; exact hmp i
      · obtain ⟨k, hk, hk2⟩ := List.mem_iff_getElem.1 hp
        simp at hk
        rw [List.getElem_take, List.getElem_zip] at hk2
        have h5 : (grp d)[k]? = some j := by
          rw [← e, ← hk2]; exact List.getElem?_eq_getElem _
        have h6 := (List.getElem?_inj (i := k) (j := s) (by omega) hnd).1 (by rw [h5, hgs])
        omega
    · have : s = mB := by omega
      subst this
      refine ⟨rfl, hE3, mp, hm3, fun i => ?_⟩
      rw [hmp i, List.take_of_length_le (by simp; omega)]
  rintro w3 ⟨hE3, mp, hm3, hmp⟩
  refine new (fun w4 hE4 hz4 hB4 => ?_)
  have hE34 := hE3.trans hE4
  refine call (parts_fn A n c d w1.heap.size mp _ w4 ((h.ext hE1).ext hE34) hv (hm3.ext hE4) hmp) ?_
  rintro v w5 ⟨rfl, hE5⟩
  have hb5 : WrW w5 w5.heap.size w3.heap.size none 0 Ws.init :=
    ⟨by have := hE5.size; omega, Nat.le_refl _, ⟨_, .inl rfl, hB4.ext hE5⟩, Own.nil _ _ _ _⟩
  have hlim := FT_limU hv ht (chF ((grp d).zip flat))
  rw [hlen] at hlim
  refine call_part rfl _ rfl (write_fn _ w5.heap.size w3.heap.size none 0 Ws.init 0 false 0 w5 hb5 ⟨Nat.le_refl _, Nat.le_refl _, Nat.le_refl _⟩ (by omega) (by show 0 + _ ≤ _; omega)) ?_
  rintro v w6 ⟨A6, c6, hb6, hm6, hmv6⟩
  have hst : rst d flat = wr (FT d (chF ((grp d).zip flat)) (n - 1)) 0 false Ws.init := by rw [rst, hlen]
  have hl2 := (wr_lim (FT d (chF ((grp d).zip flat)) (n - 1)) 0 false Ws.init 0 lsz ⟨Nat.le_refl _, Nat.le_refl _, Nat.le_refl _⟩ (by rw [lsz_eq]; omega)).2
  have hu8 := wr_u8 (FT d (chF ((grp d).zip flat)) (n - 1)) 0 false Ws.init (by intro x hx; cases hx)
  rw [← hst] at hb6 hl2 hu8
  have hE06 : Ext w w6 := by
    refine hm6.ext (hE1.trans (hE34.trans hE5)) ?_
    rintro i (rfl | hi)
    · exact (hE1.trans hE3).size
    · obtain ⟨ad, e, _⟩ := hi; cases e
  have hE16 : Ext w w6 := hE06
  obtain ⟨pa, hpa, hB6⟩ := hb6.blk
  refine load_blk hB6 rfl ?_
  refine wif (fun hw => ?_) (fun hw => ?_)
  · exact ⟨by rw [hr2, if_pos hw]; rfl, hE06⟩
  · refine call (string_fn w5.heap.size w3.heap.size _ _ A6 c6 (rst d flat).out w6 hb6 hu8 ?_) ?_
    · have : Ws.init.out.length = 0 := rfl
      omega
    rintro v w7 ⟨rfl, hm7⟩
    refine ⟨by rw [hr2, if_neg (by rw [hw]; decide)], hm7.ext hE06 (fun i hi => ?_)⟩
    have := (hb6.own.rows i hi).1
    have := (hE1.trans (hE34.trans hE5)).size
    omega

theorem rrender_fnU (A F : Option Addr) (n c m cf : Nat) (d : List Nd) (flat : List Bool) (w : World) (h : SD w A n c d) (hF : Sl w 1 F m cf (boolsV flat)) (ht : TxtU d) :
    Fn Try.prog 36 [.slice A n c, .slice F m cf] w (StrRes w (rnd d flat)) := by
  have hlen := h.2
  have hfl : flat.length = m := by have := hF.len; rw [boolsV_length] at this; omega
  refine fn_of_exec (c := c36) gx_ok Try.func36 rfl rfl rfl ?_
  refine call (rgroups_fn _ _ _ _ _ h (fun x hx => by have := ht.1 x hx; unfold maxLen; omega)) ?_
  rintro v w1 ⟨B, mB, cB, rfl, hE1, hs1⟩
  refine wif_ne (fun h1 => ?_) (fun h1 => ?_)
  · exact ⟨by rw [rnd, if_pos h1]; rfl, hE1⟩
  have hv : Valid d := chk_zero.1 h1
  have hpos := hv.2.1
  have hle := hv.1
  have hgl : (grp d).length = mB := by have := hs1.len; rw [natsV_length] at this; omega
  have hr1 : rnd d flat = if flat.length ≠ (grp d).length then ([], 1) else if (rst d flat).wrong = true then ([], 1) else ((rst d flat).out, 0) := by
    unfold rnd; rw [if_neg (by rw [h1]; decide)]
  refine wif_ne (fun h2 => ?_) (fun h2 => ?_)
  · exact ⟨by rw [hr1, if_pos (by omega)]; rfl, hE1⟩
  have hr2 : rnd d flat = if (rst d flat).wrong = true then ([], 1) else ((rst d flat).out, 0) := by
    rw [hr1, if_neg (by omega)]
  have hgn : mB ≤ 65536 := by
    have := G_len hv (d.length - 1)
    rw [← grp_ok hv] at this
    omega
  refine new (fun w2 hE2 hz2 hB2 => ?_)
  have hb2 : RW w2 w1.heap.size ⟨A, n, c, B, mB, cB, F, m, cf⟩ Ws.init := hB2
  refine norm_i64_to (((n - 1 : Nat)) : Int) (by omega) (by omega) ?_
  have hlim := FT_limU hv ht (chF ((grp d).zip flat))
  rw [hlen] at hlim
  refine call (rnode_fn w1 w1.heap.size ⟨A, n, c, B, mB, cB, F, m, cf⟩ d (grp d) flat hv (h.ext hE1) hs1 (hF.ext hE1) (by dsimp only; omega) hgn (Nat.le_refl _) (n - 1) 0 false Ws.init 0 w2 (by dsimp only; omega) hE2 hb2 rfl (by intro x hx; cases hx) ⟨Nat.le_refl _, Nat.le_refl _, Nat.le_refl _⟩ (by omega) (by show 0 + _ ≤ _; omega)) ?_
  rintro v w3 ⟨hr3, hm3⟩
  have hst : rst d flat = wr (FT d (chF ((grp d).zip flat)) (n - 1)) 0 false Ws.init := by rw [rst, hlen]
  rw [← hst] at hr3
  have hE3 : Ext w w3 := hm3.ext (hE1.trans hE2) (fun i hi => by have := hE1.size; omega)
  refine load_blk hr3 rfl ?_
  refine wif (fun hw => ?_) (fun hw => ?_)
  · exact ⟨by rw [hr2, if_pos hw]; rfl, hE3⟩
  · refine load_blk hr3 rfl ?_
    exact ⟨by rw [hr2, if_neg (by rw [hw]; decide)], hE3⟩

theorem rnd_limU {d : List Nd} (hv : Valid d) (ht : TxtU d) (flat : List Bool) : (rnd d flat).1.length ≤ 70368744177664 ∧ ∀ x ∈ (rnd d flat).1, x < 256 := by
  unfold rnd
  split
  · exact ⟨Nat.zero_le _, by simp⟩
  split
  · exact ⟨Nat.zero_le _, by simp⟩
  split
  · exact ⟨Nat.zero_le _, by simp⟩
  · have hlim := FT_limU hv ht (chF ((grp d).zip flat))
    have hl2 := (wr_lim (FT d (chF ((grp d).zip flat)) (d.length - 1)) 0 false Ws.init 0 lsz ⟨Nat.le_refl _, Nat.le_refl _, Nat.le_refl _⟩ (by rw [lsz_eq]; omega)).2
    have hu8 := wr_u8 (FT d (chF ((grp d).zip flat)) (d.length - 1)) 0 false Ws.init (by intro x hx; cases hx)
    have h0 : Ws.init.out.length = 0 := rfl
    refine ⟨?_, hu8⟩
    show (rst d flat).out.length ≤ _
    unfold rst
    omega

theorem wtT_TU {d : List Nd} (hd : NodesOk d) (ht : TxtU d) : ∀ i, wtT (T d i) ≤ 1100000 * nnT (T d i) := by
  intro i
  induction i using Nat.strongRecOn with
  | _ i ih =>
    cases hx : d[i]? with
    | none =>
      have h2 : T d i = .hard := by unfold T tre; simp [hx]
      rw [h2]; exact Nat.zero_le _
    | some x =>
      have hn := hd i x hx
      have har := arI_of (k := x.k)
      have hs := ht.1 x (List.mem_of_getElem? hx)
      have hn2 := hn.2.1.2.2.2
      rw [T_eq hd hx]
      split
      · simp only [wtT, nnT, bytesOf_length]; omega
      split
      · simp only [wtT, nnT, bytesOf_length]; omega
      split
      · rename_i k3
        have := har.2.2.2.1 k3
        have h1 := ih _ (hn.a_lt (by omega)).2
        have h2 := ih _ (hn.b_lt (by omega)).2
        simp only [wtT, nnT]; omega
      split
      · rename_i k4
        have := har.2.2.2.2.1 k4
        have h1 := ih _ (hn.a_lt (by omega)).2
        simp only [wtT, nnT]; omega
      split
      · rename_i k5
        have := har.2.2.2.2.2.1 k5
        have h1 := ih _ (hn.a_lt (by omega)).2
        simp only [wtT, nnT]; omega
      split
      · rename_i k6
        have := har.2.2.2.2.2.2 k6
        have h1 := ih _ (hn.a_lt (by omega)).2
        simp only [wtT, nnT]; omega
      · exact Nat.zero_le _

theorem wtT_limU {d : List Nd} (ht : TxtU d) (hv : Valid d) : wtT (T d (d.length - 1)) ≤ 1000000000000 := by
  have h1 := wtT_TU hv.ok ht (d.length - 1)
  have h2 := nnT_N hv.ok (d.length - 1) (by have := hv.2.1; omega)
  have h3 := N_len hv (d.length - 1)
  have := hv.1
  have := hv.2.1
  omega

theorem Best_fnU (A : Option Addr) (n c : Nat) (d : List Nd) (width : Int) (w : World) (h : SD w A n c d) (ht : TxtU d) :
    Fn Try.prog 14 [.slice A n c, .int .i64 width] w (BestR d width w) := by
  refine fn_of_exec (c := c14) gx_ok Try.func14 rfl rfl rfl ?_
  refine new (fun w0 hE0 hz0 hB0 => ?_)
  refine call (choices_fn A n c d width w0 (h.ext hE0) (wtT_limU ht)) ?_
  rintro v w1 ⟨hE1, hv⟩
  have hE01 := hE0.trans hE1
  have hB1 := hB0.ext hE1
  split at hv
  · rename_i h0
    subst hv
    refine wif_net (by simpa using h0) ?_
    refine storeN_blk0 hB1 rfl (sc rfl) (fun w2 hg2 _ hB2 => ?_)
    refine loadN_blk0 hB2 rfl ?_
    exact ⟨hE01.own hg2 (Nat.le_refl _), by rw [if_pos h0]; rfl⟩
  · rename_i h0
    split at hv
    · rename_i h1
      subst hv
      refine wif_net (by decide) ?_
      refine storeN_blk0 hB1 rfl (sc rfl) (fun w2 hg2 _ hB2 => ?_)
      refine loadN_blk0 hB2 rfl ?_
      exact ⟨hE01.own hg2 (Nat.le_refl _), by rw [if_neg h0, if_pos h1]; rfl⟩
    · rename_i h1
      obtain ⟨A', c', l, rfl, h3, h4⟩ := hv
      refine wif_nef rfl ?_
      refine call (render_fnU A A' n c l.length c' d l w1 (h.ext hE01) h3 ht) ?_
      have hvd := chk_zero.1 (show chk d = 0 by simpa using h0)
      rw [rnd_T hvd, rndT_nrm h4.1]
      have hlim := rnd_limU hvd ht l
      rw [rnd_T hvd, rndT_nrm h4.1] at hlim
      dsimp only at hlim
      rintro v w2 ⟨rfl, hE2⟩
      refine wif_nef rfl ?_
      refine call (cost_fn (strOf (txtN (T d (d.length - 1)) l)) width w2 (by rw [strOf_size]; omega) (by omega)) ?_
      rintro v w3 ⟨rfl, hE3⟩
      rw [bytesOf_strOf hlim.2, cost_nrm _ (noT_T hvd.ok _) h4.1]
      refine storeN_blk0 (hB1.ext (hE2.trans hE3)) rfl (sc rfl) (fun w4 hg4 _ hB4 => ?_)
      refine loadN_blk0 hB4 rfl ?_
      exact ⟨(hE01.trans (hE2.trans hE3)).own hg4 (Nat.le_refl _), by rw [if_neg h0, if_neg h1]; exact ⟨l, h4, rfl⟩⟩


set_option maxHeartbeats 1000000 in
theorem rchoices_fnU (A : Option Addr) (n c : Nat) (d : List Nd) (width : Int) (w : World) (h : SD w A n c d) (hs : ∀ x ∈ d, x.t.size ≤ maxLen) (ht : Valid d → TxtU d) (h8 : Valid d → ng (T d (d.length - 1)) ≤ 8) :
    Fn Try.prog 17 [.slice A n c, .int .i64 width] w (ChoRes d width w) := by
  have hlen := h.2
  refine fn_of_exec (c := c17) gx_ok Try.func17 rfl rfl rfl ?_
  refine call (rcheck_fn A n c d w h hs) ?_
  rintro v w1 ⟨rfl, hE1⟩
  refine wif_ne (fun h1 => ?_) (fun h1 => ?_)
  · refine ⟨hE1, ?_⟩
    rw [if_pos h1]
  have hv := chk_zero.1 h1
  have hle := hv.1
  have hpos := hv.2.1
  have ht := ht hv
  have h8 := h8 hv
  have hno := noT_T hv.ok (d.length - 1)
  refine wif_d (fun h2 => ?_) (fun h2 => ?_)
  · refine ⟨hE1, ?_⟩
    rw [if_neg (by simpa using h1), if_pos (.inl h2)]
  refine wif_d (fun h3 => ?_) (fun h3 => ?_)
  · refine ⟨hE1, ?_⟩
    rw [if_neg (by simpa using h1), if_pos (.inr h3)]
  refine norm_i64_to ((d.length - 1 : Nat) : Int) (by omega) (by omega) ?_
  refine call (normal_fn A n c d hv (d.length - 1) w1 (by omega) (h.ext hE1) h8) ?_
  rintro v w2 ⟨C, cp, vs, rfl, hE2, hSC, hLC, hRC⟩
  have hE02 := hE1.trans hE2
  have hpos2 := nrm_pos (T d (d.length - 1))
  have h256 := nrm_256 h8
  have hl0 : (nrm (T d (d.length - 1)))[0]? = some (nrm (T d (d.length - 1)))[0] := List.getElem?_eq_getElem hpos2
  generalize (nrm (T d (d.length - 1)))[0] = l0 at hl0
  have hm0 := List.mem_of_getElem? hl0
  obtain ⟨B0, cb0, hv0, hS0, hR0⟩ := hLC.el 0 l0 hl0
  refine index_sl (j := 0) hSC hpos2 (fun ad u hA hu hcell => ?_)
  cases Option.some.inj (hu.symm.trans hv0)
  refine load hcell ?_
  have hlim : ∀ l ∈ nrm (T d (d.length - 1)), rnd d l = (txtN (T d (d.length - 1)) l, 0) ∧ (txtN (T d (d.length - 1)) l).length ≤ 70368744177664 ∧ ∀ x ∈ txtN (T d (d.length - 1)) l, x < 256 := fun l hl => by
    have e : rnd d l = (txtN (T d (d.length - 1)) l, 0) := by rw [rnd_T hv, rndT_nrm hl]
    have := rnd_limU hv ht l
    rw [e] at this
    exact ⟨e, this⟩
  refine call (rrender_fnU A B0 n c l0.length cb0 d l0 w2 (h.ext hE02) hS0 ht) ?_
  rintro v w3 ⟨rfl, hE3⟩
  rw [(hlim l0 hm0).1]
  refine call (rcost_t (txtN (T d (d.length - 1)) l0) width w3 (hlim l0 hm0).2.1 (hlim l0 hm0).2.2) ?_
  rintro v w4 ⟨rfl, hE4⟩
  refine new (fun w5 hE5 hz5 hB5 => ?_)
  refine storeN_blk0 hB5 rfl (sc rfl) (fun w6 hg6 _ hB6 => ?_)
  have hE46 := newBox hE5 hB5 hg6
  have hE26 := (hE3.trans hE4).trans hE46
  have hE06 := hE02.trans hE26
  have hz1 := hE1.size
  have hz2 := hE2.size
  have hz3 := hE3.size
  have hz4 := hE4.size
  have hb6 := hB6.lt
  refine loop gx_ok [8, 12] (fun s : Option Addr × Nat × List Bool × Nat × Nat => [.slice s.1 s.2.2.1.length s.2.1, .int .i64 s.2.2.2.1]) (fun s w' => Mod (· = w4.heap.size) w6 w' ∧ Blk w' w4.heap.size 29 [.int .i64 (costT width.toNat (txtN (T d (d.length - 1)) s.2.2.1)).1, .int .i64 (costT width.toNat (txtN (T d (d.length - 1)) s.2.2.1)).2] ∧ Sl w2 1 s.1 s.2.2.1.length s.2.1 (boolsV s.2.2.1) ∧ (0 < s.2.2.1.length → ∀ k, rowS s.1 k → k < w2.heap.size) ∧ Fst width.toNat (T d (d.length - 1)) s.2.2.2.1 s.2.2.2.2 s.2.2.1 ∧ s.2.2.2.1 ≤ (nrm (T d (d.length - 1))).length) (fun s _ => (nrm (T d (d.length - 1))).length - s.2.2.2.1) (B0, cb0, l0, 1, 0) rfl ⟨Mod.refl _ _, hB6, hS0, fun h0 k hk => (hR0 h0 k hk).2.1, Fst.one _ _ hl0, hpos2⟩ ?_
  rintro ⟨B, cb, lb, i, bi⟩ w7 ⟨hm7, hB7, hS7, hR7, hF7, hi7⟩
  dsimp only at hB7 hS7 hR7 hF7 hi7 ⊢
  have hz6 := hE46.size
  have hz7 := hm7.size
  have hE07 : Ext w w7 := hm7.ext hE06 (fun i hi => by omega)
  have hm27 : Mod (· = w4.heap.size) w2 w7 := (Mod.of_ext _ hE26).trans hm7 (fun i hi => .inl hi)
  refine wif_d (fun g1 => ?_) (fun g1 => ?_)
  · have hil : i < (nrm (T d (d.length - 1))).length := by omega
    have hli : (nrm (T d (d.length - 1)))[i]? = some (nrm (T d (d.length - 1)))[i] := List.getElem?_eq_getElem hil
    generalize (nrm (T d (d.length - 1)))[i] = li at hli
    have hmi := List.mem_of_getElem? hli
    obtain ⟨Bi, cbi, hvi, hSi, hRi⟩ := hLC.el i li hli
    have hSC7 := hSC.modS hm27 (fun h0 k hk => by have := (hRC h0 k hk).2; omega)
    have hSi7 := hSi.modS hm27 (fun h0 k hk => by have := (hRi h0 k hk).2.1; omega)
    refine index_sl hSC7 hil (fun ad2 u2 hA2 hu2 hcell2 => ?_)
    cases Option.some.inj (hu2.symm.trans hvi)
    refine load hcell2 ?_
    refine call (rrender_fnU A Bi n c li.length cbi d li w7 (h.ext hE07) hSi7 ht) ?_
    rintro v w8 ⟨rfl, hE8⟩
    rw [(hlim li hmi).1]
    have hB8 := hB7.ext hE8
    have hEd := Ext.drew w8
    refine draw_plan gx_ok (Ext w8) 5 [(true, 0), (true, 1), (true, 3), (false, 2), (false, 4)] (by kernel_rfl) hEd ?_
    refine qloadN (vs := [.int .i64 (costT width.toNat (txtN (T d (d.length - 1)) lb)).1, .int .i64 (costT width.toNat (txtN (T d (d.length - 1)) lb)).2]) rfl (fun w' hw' j v hj => by rw [(hB8.ext hw').cell]; exact hj) ?_
    refine call (rcost_t (txtN (T d (d.length - 1)) li) width _ (hlim li hmi).2.1 (hlim li hmi).2.2) ?_
    rintro v w9 ⟨rfl, hE9⟩
    refine ⟨hEd.trans hE9, ?_⟩
    refine call (less26_fn (costT width.toNat (txtN (T d (d.length - 1)) li)) (costT width.toNat (txtN (T d (d.length - 1)) lb)) _) ?_
    rintro v w10 ⟨rfl, hE10⟩
    have hE810 := (hEd.trans hE9).trans hE10
    refine ⟨hE810, ?_⟩
    have hE710 := hE8.trans hE810
    have hm10 := hm7.trans (Mod.of_ext (fun _ => False) hE710) (fun i hi => hi.elim)
    have hB10 := hB7.ext hE710
    refine wif (fun hc => ?_) (fun hc => ?_)
    · refine index_sl (hSC7.ext hE710) hil (fun ad3 u3 hA3 hu3 hcell3 => ?_)
      cases Option.some.inj (hu3.symm.trans hvi)
      refine load hcell3 ?_
      refine call (rcost_t (txtN (T d (d.length - 1)) li) width _ (hlim li hmi).2.1 (hlim li hmi).2.2) ?_
      rintro v w11 ⟨rfl, hE11⟩
      refine storeN_blk0 (hB10.ext hE11) rfl (sc rfl) (fun w12 hg12 _ hB12 => ?_)
      have hm12 : Mod (· = w4.heap.size) w11 w12 := Mod.of_grown hg12 rfl
      refine norm_i64_to ((i + 1 : Nat) : Int) (by omega) (by omega) ?_
      exact ⟨(Bi, cbi, li, i + 1, i), rfl, ⟨(hm10.trans (Mod.of_ext (fun _ => False) hE11) (fun i hi => hi.elim)).trans hm12 (fun i hi => .inl hi), hB12, hSi, fun h0 k hk => (hRi h0 k hk).2.1, hF7.take hno hli hc, hil⟩, by show (nrm (T d (d.length - 1))).length - (i + 1) < (nrm (T d (d.length - 1))).length - i; omega⟩
    · refine norm_i64_to ((i + 1 : Nat) : Int) (by omega) (by omega) ?_
      exact ⟨(B, cb, lb, i + 1, bi), rfl, ⟨hm10, hB10, hS7, hR7, hF7.keep hno hli hc, hil⟩, by show (nrm (T d (d.length - 1))).length - (i + 1) < (nrm (T d (d.length - 1))).length - i; omega⟩
  · have hie : i = (nrm (T d (d.length - 1))).length := by omega
    subst hie
    refine ⟨hE07, ?_⟩
    rw [if_neg (by simpa using h1), if_neg (by omega)]
    exact ⟨B, cb, lb, rfl, hS7.modS hm27 (fun h0 k hk => by have := hR7 h0 k hk; omega), hF7.least⟩


theorem rbest_fnU (A : Option Addr) (n c : Nat) (d : List Nd) (width : Int) (w : World) (h : SD w A n c d) (hs : ∀ x ∈ d, x.t.size ≤ maxLen) (ht : Valid d → TxtU d) (h8 : Valid d → ng (T d (d.length - 1)) ≤ 8) :
    Fn Try.prog 15 [.slice A n c, .int .i64 width] w (BestR d width w) := by
  refine fn_of_exec (c := c15) gx_ok Try.func15 rfl rfl rfl ?_
  refine new (fun w0 hE0 hz0 hB0 => ?_)
  refine call (rchoices_fnU A n c d width w0 (h.ext hE0) hs ht h8) ?_
  rintro v w1 ⟨hE1, hv⟩
  have hE01 := hE0.trans hE1
  have hB1 := hB0.ext hE1
  split at hv
  · rename_i h0
    subst hv
    refine wif_net (by simpa using h0) ?_
    refine storeN_blk0 hB1 rfl (sc rfl) (fun w2 hg2 _ hB2 => ?_)
    refine loadN_blk0 hB2 rfl ?_
    exact ⟨hE01.own hg2 (Nat.le_refl _), by rw [if_pos h0]; rfl⟩
  · rename_i h0
    split at hv
    · rename_i h1
      subst hv
      refine wif_net (by decide) ?_
      refine storeN_blk0 hB1 rfl (sc rfl) (fun w2 hg2 _ hB2 => ?_)
      refine loadN_blk0 hB2 rfl ?_
      exact ⟨hE01.own hg2 (Nat.le_refl _), by rw [if_neg h0, if_pos h1]; rfl⟩
    · rename_i h1
      obtain ⟨A', c', l, rfl, h3, h4⟩ := hv
      refine wif_nef rfl ?_
      have hvd := chk_zero.1 (show chk d = 0 by simpa using h0)
      refine call (rrender_fnU A A' n c l.length c' d l w1 (h.ext hE01) h3 (ht hvd)) ?_
      rw [rnd_T hvd, rndT_nrm h4.1]
      have hlim := rnd_limU hvd (ht hvd) l
      rw [rnd_T hvd, rndT_nrm h4.1] at hlim
      dsimp only at hlim
      rintro v w2 ⟨rfl, hE2⟩
      refine call (rcost_fn (strOf (txtN (T d (d.length - 1)) l)) width w2 (by rw [strOf_size]; omega)) ?_
      rintro v w3 ⟨rfl, hE3⟩
      rw [bytesOf_strOf hlim.2, cost_nrm _ (noT_T hvd.ok _) h4.1]
      refine storeN_blk0 (hB1.ext (hE2.trans hE3)) rfl (sc rfl) (fun w4 hg4 _ hB4 => ?_)
      refine loadN_blk0 hB4 rfl ?_
      exact ⟨(hE01.trans (hE2.trans hE3)).own hg4 (Nat.le_refl _), by rw [if_neg h0, if_neg h1]; exact ⟨l, h4, rfl⟩⟩
end Go.Proofs.Ytbkadgdhmfolaaa
namespace Go.Proofs.Ytbkadgdhmfolaaa
open Go Go.RowKit Go.ChangeShapes

variable {H : Type} {enc : TypeId × Value → H}

theorem bulk_part {d : DataW H} {l : List (DataW H)} (h : d ∈ l) : Rows.uptoBulk d ≤ Rows.uptoBulkAll l := by
  induction l with
  | nil => cases h
  | cons x r ih =>
    simp only [Rows.uptoBulkAll]
    rcases List.mem_cons.1 h with e | e
    · subst e; omega
    · have := ih e; omega
theorem upto_of {l : List (DataW H)} (hk : Rows.uptoSmall H l = true) {d : DataW H} (h : d ∈ l) : Rows.uptoBulk d ≤ 1048576 := by
  have h1 : Rows.uptoBulkAll l ≤ 1048576 := of_decide_eq_true hk
  exact Nat.le_trans (bulk_part h) h1

theorem nodesU_of {W : World} {a : Option Addr} {len cap : Nat} {d : DataW H} {p : List MemPlace} (h : DataW.Trod enc Try.prog W 0 (fun _ => true) true 23 (.slice a len cap) d p) : ∃ l, SD W a len cap l ∧ ∀ x ∈ l, x.t.size ≤ Rows.uptoBulk d := by
  obtain ⟨fuel, hf⟩ := h
  rcases Go.Deep.open_slice Try.underlying23 hf with ⟨hcs, _⟩ | ⟨x, l, c, m, n, D, Pl, hcs, _, hl, hm, hmm, hde, hx⟩
  · simp [Value.cells] at hcs
    obtain ⟨rfl, rfl, rfl⟩ := hcs
    exact ⟨[], SlS.nil W, by simp⟩
  · simp [Value.cells] at hcs
    obtain ⟨rfl, rfl, rfl⟩ := hcs
    simp only [if_true] at hmm
    subst hmm
    have hc5 : Try.prog.cellsOf 59 = 5 := by kernel_rfl
    have hc9 : Try.prog.cellsOf 9 = 1 := by kernel_rfl
    have hc3 : Try.prog.cellsOf 3 = 1 := by kernel_rfl
    have each : ∀ i, i < m → ∃ y : Nd, y.t.size ≤ Rows.uptoBulk (D i) ∧ ∀ j v, y.cells[j]? = some v → W.cell? (x.add (i * 5 + j)) = some v := by
      intro i hi
      obtain ⟨cs, h1, h2⟩ := hx i hi
      rw [hc5] at h1
      obtain ⟨_, hlen, hcell⟩ := World.cells?_some h1
      obtain ⟨xs, k, _, hxe, _, hxl, hfl⟩ := DataW.trod_struct Try.underlying59 h2
      obtain ⟨y0, y1, y2, y3, y4, rfl⟩ := list5 (show xs.length = 5 from hxl)
      obtain ⟨v0, v1, v2, v3, v4, rfl⟩ := list5 hlen
      have : True := trivial
      · skip
        have g0 := hfl 0 _ rfl
        have g1 := hfl 1 _ rfl
        have g2 := hfl 2 _ rfl
        have g3 := hfl 3 _ rfl
        have g4 := hfl 4 _ rfl
        simp [hc9, hc3] at g0 g1 g2 g3 g4
        obtain ⟨n0, e0, _, _⟩ := DataW.trod_int Try.underlying3 g0
        obtain ⟨n1, e1, z1, hs1⟩ := DataW.trod_string Try.underlying9 g1
        obtain ⟨n2, e2, _, _⟩ := DataW.trod_int Try.underlying3 g2
        obtain ⟨n3, e3, _, _⟩ := DataW.trod_int Try.underlying3 g3
        obtain ⟨n4, e4, _, _⟩ := DataW.trod_int Try.underlying3 g4
        simp at e0 e1 e2 e3 e4
        subst e0 e1 e2 e3 e4
        have hD : D i = .agg [y0.1, y1.1, y2.1, y3.1, y4.1] := (Prod.mk.injEq _ _ _ _ ▸ hxe).1
        have hb1 : n1.size ≤ Rows.uptoBulk (D i) := by
          rw [hD, z1]
          simp only [Rows.uptoBulk, Rows.uptoBulkAll]
          have e : n1.data.toList.length = n1.size := by rw [Array.length_toList]; rfl
          omega
        refine ⟨⟨n0, n1, n2, n3, n4⟩, hb1, fun j v hj => ?_⟩
        have hj5 : j < 5 := (List.getElem?_eq_some_iff.1 hj).1
        have := hcell j hj5
        rw [add_add] at this
        rw [this]
        exact hj
    have hin : Inhabited Nd := ⟨⟨0, ⟨#[]⟩, 0, 0, 0⟩⟩
    obtain ⟨Y, hY⟩ := Go.Deep.choose_lt each
    refine ⟨(List.range len).map Y, ⟨⟨?_, hl, hm, fun _ => ⟨x, rfl, fun j u hu => ?_⟩⟩, by simp⟩, ?_⟩
    · rw [flat_length nd_len]; simp
    · have hjl := (List.getElem?_eq_some_iff.1 hu).1
      rw [flat_length nd_len] at hjl
      simp at hjl
      have hi : j / 5 < len := by omega
      have hr : j % 5 < 5 := Nat.mod_lt _ (by decide)
      have hg : ((List.range len).map Y)[j / 5]? = some (Y (j / 5)) := by simp [hi]
      have hc : (Y (j / 5)).cells[j % 5]? = some (Y (j / 5)).cells[j % 5] := List.getElem?_eq_getElem _
      have h1 := flat_get nd_len _ _ _ _ _ hg hc
      rw [show j / 5 * 5 + j % 5 = j by omega, hu] at h1
      have h2 := (hY (j / 5) (by omega)).2 _ _ hc
      rw [show j / 5 * 5 + j % 5 = j by omega] at h2
      rw [h2, ← Option.some.inj h1]
    · intro y hy
      simp only [List.mem_map, List.mem_range] at hy
      obtain ⟨i, hi, rfl⟩ := hy
      have h1 := (hY i (by omega)).1
      have h2 := bulk_part (H := H) (d := D i) (l := (List.range len).map D) (List.mem_map.2 ⟨i, List.mem_range.2 hi, rfl⟩)
      have hdd := (Prod.mk.injEq _ _ _ _ ▸ hde).1
      rw [hdd]
      simp only [Rows.uptoBulk]
      omega

end Go.Proofs.Ytbkadgdhmfolaaa
namespace Go.Proofs.Ytbkadgdhmfolaaa
open Go Go.RowKit

theorem matches_law (A : Option Addr) (n c : Nat) (d : List Nd) (width : Int) (w : World) (h : SD w A n c d) (ht : ∀ x ∈ d, x.t.size ≤ 1048576) :
    Fn Try.prog 3 [.slice A n c, .int .i64 width] w (fun v w' => v = .bool true ∧ Ext w w') := by
  have hlen := h.2
  have hs : ∀ x ∈ d, x.t.size ≤ maxLen := fun x hx => by have := ht x hx; unfold maxLen; omega
  refine fn_of_exec (c := { c3 with cuts := [2] }) gx_ok Try.func3 rfl rfl rfl ?_
  refine call (sanity_fn w) ?_
  rintro v w1 ⟨rfl, hE1⟩
  refine cut0In [] gx_ok (fun w' => Ext w w' ∧ d.length ≤ 40 ∧ (Valid d → ng (T d (d.length - 1)) ≤ 8)) ?_ ?_
  · refine wif_d (fun h1 => ?_) (fun h1 => ?_)
    · exact ⟨rfl, hE1⟩
    refine call (rcheck_fn A n c d w1 (h.ext hE1) hs) ?_
    rintro v w2 ⟨rfl, hE2⟩
    have hE02 := hE1.trans hE2
    refine wif_eq (fun h2 => ?_) (fun h2 => ?_)
    · refine call (few_fn A n c d w2 (h.ext hE02) hs) ?_
      rintro v w3 ⟨hE3, b, rfl, hb⟩
      cases b with
      | false =>
        refine wif_t rfl ?_
        exact ⟨rfl, hE02.trans hE3⟩
      | true =>
        refine wif_f rfl ?_
        exact ⟨rfl, hE02.trans hE3, by omega, fun _ => (hb.1 rfl).2.2⟩
    · exact ⟨rfl, hE02, by omega, fun hv => absurd (chk_zero.2 hv) h2⟩
  rintro w2 ⟨hE02, h40, h8⟩
  have hU : TxtU d := ⟨ht, h40⟩
  refine call (Best_fnU A _ c d width w2 (h.ext hE02) hU) ?_
  rintro v w3 hr3
  obtain ⟨hE3, q, hq, rfl⟩ := hr3.q
  refine new (fun w4 hE4 hz4 hB4 => ?_)
  refine storeN_blk0 hB4 rfl (sc rfl) (fun w5 hg5 _ hB5 => ?_)
  have hE25 := hE3.trans (newBox hE4 hB4 hg5)
  refine call (rbest_fnU A _ c d width w5 (h.ext (hE02.trans hE25)) hs (fun _ => hU) h8) ?_
  rintro v w6 hr6
  obtain ⟨hE6, q', hq', rfl⟩ := hr6.q
  cases hq.uniq hq'
  refine new (fun w7 hE7 hz7 hB7 => ?_)
  refine storeN_blk0 hB7 rfl (sc rfl) (fun w8 hg8 _ hB8 => ?_)
  have hE58 := hE6.trans (newBox hE7 hB7 hg8)
  have hE28 := hE25.trans hE58
  refine call (Choices_fn A _ c d width w8 (h.ext (hE02.trans hE28)) (wtT_limU hU)) ?_
  rintro v w9 hr9
  obtain ⟨hE9, p, B, c9, hp, rfl, hS9⟩ := hr9.q
  refine call (rchoices_fnU A _ c d width w9 (h.ext (hE02.trans (hE28.trans hE9))) hs (fun _ => hU) h8) ?_
  rintro v w10 hr10
  obtain ⟨hE10, p', B', c10, hp', rfl, hS10⟩ := hr10.q
  cases hp.uniq hp'
  have hE210 := hE28.trans (hE9.trans hE10)
  have hB5' := hB5.ext (hE58.trans (hE9.trans hE10))
  have hB8' := hB8.ext (hE9.trans hE10)
  refine wif_t (by simp) ?_
  refine loadN_blk0 hB5' rfl ?_
  refine loadN_blk0 hB8' rfl ?_
  refine wif_t (by simp) ?_
  refine wif_t (by simp) ?_
  refine call (sameb_fn B B' _ c9 _ c10 _ _ w10 (hS9.ext hE10) hS10) ?_
  rintro v w11 ⟨rfl, hE11⟩
  refine wif_t (by simp) ?_
  refine wif_t (by simp) ?_
  exact ⟨rfl, hE02.trans (hE210.trans hE11)⟩
end Go.Proofs.Ytbkadgdhmfolaaa
