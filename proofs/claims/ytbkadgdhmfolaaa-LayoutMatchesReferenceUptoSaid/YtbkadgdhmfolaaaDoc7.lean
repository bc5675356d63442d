/-
  Render, the program's: the contract.
  Conditions: none.
-/
import Derived.Test.YtbkadgdhmfolaaaDoc6
namespace Go.Proofs.Ytbkadgdhmfolaaa
open Go Go.RowKit

/-- The choice of a group: the first pair with its number. -/
def chF : List (Nat × Bool) → Nat → Bool
  | [], _ => false
  | (j, b) :: l, i => if i = j then b else chF l i

theorem chF_snoc (j : Nat) (b : Bool) (i : Nat) : ∀ (l : List (Nat × Bool)), (∀ p ∈ l, p.1 ≠ j) → chF (l ++ [(j, b)]) i = if i = j then b else chF l i
  | [], _ => by simp [chF]
  | (k, a) :: l, h => by
    have hk : k ≠ j := h (k, a) (by simp)
    have ih := chF_snoc j b i l (fun p hp => h p (by simp [hp]))
    simp only [List.cons_append, chF, ih]
    by_cases h1 : i = k
    · subst h1
      rw [if_pos rfl, if_pos rfl, if_neg hk]
    · rw [if_neg h1, if_neg h1]

def Ws.init : Ws := ⟨[], 0, 0, false⟩
noncomputable def rst (d : List Nd) (flat : List Bool) : Ws := wr (FT d (chF ((grp d).zip flat)) (d.length - 1)) 0 false Ws.init
noncomputable def rnd (d : List Nd) (flat : List Bool) : List Nat × Int :=
  if chk d ≠ 0 then ([], chk d) else if flat.length ≠ (grp d).length then ([], 1) else if (rst d flat).wrong = true then ([], 1) else ((rst d flat).out, 0)

def TxtOk (d : List Nd) : Prop := ∀ x ∈ d, x.t.size ≤ 10000

section
variable {d : List Nd} (hv : Valid d) (ht : TxtOk d)
include hv ht

set_option maxRecDepth 100000 in
theorem FT_size (f : Nat → Bool) : ∀ (i : Nat), i < d.length → (FT d f i).wt ≤ (N d i).length * 11000 ∧ (FT d f i).sz ≤ (N d i).length := by
  intro i
  induction i using Nat.strongRecOn with
  | _ i ih =>
    intro hi
    have hx : d[i]? = some d[i] := List.getElem?_eq_getElem hi
    generalize d[i] = x at hx
    have hn := hv.ok i x hx
    have htx := ht x (List.mem_of_getElem? hx)
    have har := arI_of (k := x.k)
    have hnx := hn.2.1.2.2.2
    rw [FT_eq hv.ok f hx, N_eq hv.ok hx]
    simp only [List.length_cons, List.length_append]
    split
    · simp only [Ft.wt, Ft.sz]; omega
    split
    · simp only [Ft.wt, Ft.sz]; omega
    split
    · rename_i h3
      have h4 := har.2.2.2.1 h3
      have ha := (hn.a_lt (by omega)).2
      have hb := (hn.b_lt (by omega)).2
      have h5 := ih _ ha (by omega)
      have h6 := ih _ hb (by omega)
      rw [if_pos (by omega), if_pos (by omega)]
      simp only [Ft.wt, Ft.sz]
      omega
    split
    · rename_i h3
      have h4 := har.2.2.2.2.1 h3
      have h5 := ih _ (hn.a_lt (by omega)).2 (by have := (hn.a_lt (by omega)).2; omega)
      rw [if_pos (by omega), if_neg (by omega)]
      simp only [Ft.wt, Ft.sz, List.length_nil]
      omega
    split
    · rename_i h3
      have h4 := har.2.2.2.2.2.1 h3
      have h5 := ih _ (hn.a_lt (by omega)).2 (by have := (hn.a_lt (by omega)).2; omega)
      rw [if_pos (by omega), if_neg (by omega)]
      simp only [Ft.wt, Ft.sz, List.length_nil]
      omega
    split
    · rename_i h3
      have h4 := har.2.2.2.2.2.2 h3
      have h5 := ih _ (hn.a_lt (by omega)).2 (by have := (hn.a_lt (by omega)).2; omega)
      rw [if_pos (by omega), if_neg (by omega)]
      simp only [Ft.wt, Ft.sz, List.length_nil]
      omega
    · simp only [Ft.wt, Ft.sz]; omega

theorem FT_lim (f : Nat → Bool) : (FT d f (d.length - 1)).wt ≤ 1073741823 ∧ (FT d f (d.length - 1)).sz * lsz ≤ 70368744177664 := by
  have hp := hv.2.1
  have hl := hv.1
  have h1 := FT_size hv ht f (d.length - 1) (by omega)
  have h2 := nodup_len (d.length - 1 + 1) _ (N_nodup hv (d.length - 1)) (fun k hk => by have := N_le hv _ k hk; omega)
  rw [lsz_eq]
  omega
end

theorem wadd_u8 {st : Ws} (h : ∀ x ∈ st.out, x < 256) (s : ByteArray) : ∀ x ∈ (wadd (bytesOf s) st).out, x < 256 := by
  intro x hx
  unfold wadd at hx
  split at hx
  · exact h x hx
  · unfold wput wind at hx
    split at hx
    · simp only [List.mem_append] at hx
      rcases hx with (hx | hx) | hx
      · exact h x hx
      · have := List.eq_of_mem_replicate hx; omega
      · exact bytesOf_lt s x hx
    · simp only [List.mem_append] at hx
      rcases hx with hx | hx
      · exact h x hx
      · exact bytesOf_lt s x hx
theorem wfeed_u8 {st : Ws} (h : ∀ x ∈ st.out, x < 256) (i : Nat) : ∀ x ∈ (wfeed i st).out, x < 256 := by
  intro x hx
  simp only [wfeed, List.mem_append, List.mem_singleton] at hx
  rcases hx with hx | hx
  · exact h x hx
  · omega
theorem wr_u8 : ∀ (t : Ft) (ind : Nat) (flat : Bool) (st : Ws), (∀ x ∈ st.out, x < 256) → ∀ x ∈ (wr t ind flat st).out, x < 256
  | .text s, ind, flat, st, h => wadd_u8 h s
  | .line s, ind, flat, st, h => by
    unfold wr; split
    · exact wadd_u8 h s
    · exact wfeed_u8 h ind
  | .hard, ind, flat, st, h => wfeed_u8 (st := { st with wrong := st.wrong || flat }) h ind
  | .seq a b, ind, flat, st, h => wr_u8 b ind flat _ (wr_u8 a ind flat st h)
  | .nest n a, ind, flat, st, h => wr_u8 a (ind + n) flat st h
  | .align a, ind, flat, st, h => wr_u8 a _ flat st h
  | .group a f, ind, flat, st, h => wr_u8 a ind (flat || f) st h

def StrRes (w : World) (r : List Nat × Int) (v : Value) (w' : World) : Prop := v = .tuple #[.string (strOf r.1), .int .i64 r.2] ∧ Ext w w'

theorem render_fn (A F : Option Addr) (n c m cf : Nat) (d : List Nd) (flat : List Bool) (w : World) (h : SD w A n c d) (hF : Sl w 1 F m cf (boolsV flat)) (ht : TxtOk d) :
    Fn Try.prog 21 [.slice A n c, .slice F m cf] w (StrRes w (rnd d flat)) := by
  have hlen := h.2
  have hfl : flat.length = m := by have := hF.len; rw [boolsV_length] at this; omega
  refine fn_of_exec (c := { c21 with cuts := [7] }) gx_ok Try.func21 rfl rfl rfl ?_
  refine call (groups_fn _ _ _ _ _ h) ?_
  rintro v w1 ⟨B, mB, cB, rfl, hE1, hs1⟩
  refine wif_ne (fun h1 => ?_) (fun h1 => ?_)
  · exact ⟨by rw [rnd, if_pos h1]; rfl, hE1⟩
  have hv : Valid d := chk_zero.1 h1
  have hpos := hv.2.1
  have hle := hv.1
  have hgl : (grp d).length = mB := by have := hs1.len; rw [natsV_length] at this; omega
  have hr1 : rnd d flat = if flat.length ≠ (grp d).length then ([], 1) else if (rst d flat).wrong = true then ([], 1) else ((rst d flat).out, 0) := by
    unfold rnd; rw [if_neg (by rw [h1]; decide)]
  refine wif_ne (fun h2 => ?_) (fun h2 => ?_)
  · exact ⟨by rw [hr1, if_pos (by omega)]; rfl, hE1⟩
  have hr2 : rnd d flat = if (rst d flat).wrong = true then ([], 1) else ((rst d flat).out, 0) := by
    rw [hr1, if_neg (by omega)]
  have hgn : mB ≤ 65536 := by
    have := G_len hv (d.length - 1)
    rw [← grp_ok hv] at this
    omega
  have hnd : (grp d).Nodup := by rw [grp_ok hv]; exact G_nodup hv _
  refine at_makeMap gx_ok (fun n : Int => Value.int .i64 n) rfl ?_
  intro w2 hE2 hz2 hm2
  refine cut0 gx_ok (fun w' => Ext w1 w' ∧ ∃ mp, MapAt (fun n : Int => Value.int .i64 n) w' w1.heap.size mp ∧ ∀ i : Nat, (assoc (i : Int) mp).getD (.bool false) = .bool (chF ((grp d).zip flat) i)) ?_ ?_
  · refine loop gx_ok [28] (fun s : Nat => [.int .i64 s]) (fun s w' => Ext w1 w' ∧ s ≤ mB ∧ ∃ mp, MapAt (fun n : Int => Value.int .i64 n) w' w1.heap.size mp ∧ ∀ i : Nat, (assoc (i : Int) mp).getD (.bool false) = .bool (chF (((grp d).zip flat).take s) i)) (fun s _ => mB - s) 0 rfl ⟨hE2, Nat.zero_le _, [], hm2, fun i => rfl⟩ ?_
    rintro s w3 ⟨hE3, hsn, mp, hm3, hmp⟩
    refine wif_d (fun h3 => ?_) (fun h3 => ?_)
    · have hgs : (grp d)[s]? = some (grp d)[s] := List.getElem?_eq_getElem (by omega)
      have hfs : flat[s]? = some flat[s] := List.getElem?_eq_getElem (by omega)
      generalize (grp d)[s] = j at hgs
      generalize flat[s] = b at hfs
      have hzs : ((grp d).zip flat)[s]? = some (j, b) := by rw [List.getElem?_zip_eq_some]; exact ⟨hgs, hfs⟩
      refine index_sl (hs1.ext hE3) (by omega) (fun ad u hA hu hcell => ?_)
      rw [natsV_get hgs] at hu
      cases hu
      refine load hcell ?_
      refine index_sl ((hF.ext hE1).ext hE3) (by omega) (fun ad2 u2 hA2 hu2 hcell2 => ?_)
      rw [boolsV_get hfs] at hu2
      cases hu2
      refine load hcell2 ?_
      refine at_mapUpdate (kv := fun n : Int => Value.int .i64 n) (a := (j : Int)) gx_ok rfl rfl rfl rfl rfl (KeyV.int .i64) rfl rfl rfl hm3 (fun w4 hg4 _ hm4 => ?_)
      refine norm_i64_to ((s + 1 : Nat) : Int) (by omega) (by omega) ?_
      refine ⟨s + 1, rfl, ⟨hE3.own hg4 (Nat.le_refl _), by omega, _, hm4, fun i => ?_⟩, by show mB - (s + 1) < mB - s; omega⟩
      rw [List.take_add_one, hzs]
      rw [show (some (j, b) : Option (Nat × Bool)).toList = [(j, b)] from rfl, chF_snoc j b i _ (fun p hp e => ?_), assoc_set]
      · by_cases hij : i = j
        · subst hij; rw [if_pos rfl, if_pos rfl]; rfl
        · rw [if_neg hij, if_neg (by omega)]; exact hmp i
      · obtain ⟨k, hk, hk2⟩ := List.mem_iff_getElem.1 hp
        simp at hk
        rw [List.getElem_take, List.getElem_zip] at hk2
        have h5 : (grp d)[k]? = some j := by
          rw [← e, ← hk2]; exact List.getElem?_eq_getElem _
        have h6 := (List.getElem?_inj (i := k) (j := s) (by omega) hnd).1 (by rw [h5, hgs])
        omega
    · have : s = mB := by omega
      subst this
      refine ⟨rfl, hE3, mp, hm3, fun i => ?_⟩
      rw [hmp i, List.take_of_length_le (by simp; omega)]
  rintro w3 ⟨hE3, mp, hm3, hmp⟩
  refine new (fun w4 hE4 hz4 hB4 => ?_)
  have hE34 := hE3.trans hE4
  refine call (parts_fn A n c d w1.heap.size mp _ w4 ((h.ext hE1).ext hE34) hv (hm3.ext hE4) hmp) ?_
  rintro v w5 ⟨rfl, hE5⟩
  have hb5 : WrW w5 w5.heap.size w3.heap.size none 0 Ws.init :=
    ⟨by have := hE5.size; omega, Nat.le_refl _, ⟨_, .inl rfl, hB4.ext hE5⟩, Own.nil _ _ _ _⟩
  have hlim := FT_lim hv ht (chF ((grp d).zip flat))
  rw [hlen] at hlim
  refine call_part rfl _ rfl (write_fn _ w5.heap.size w3.heap.size none 0 Ws.init 0 false 0 w5 hb5 ⟨Nat.le_refl _, Nat.le_refl _, Nat.le_refl _⟩ (by omega) (by show 0 + _ ≤ _; omega)) ?_
  rintro v w6 ⟨A6, c6, hb6, hm6, hmv6⟩
  have hst : rst d flat = wr (FT d (chF ((grp d).zip flat)) (n - 1)) 0 false Ws.init := by rw [rst, hlen]
  have hl2 := (wr_lim (FT d (chF ((grp d).zip flat)) (n - 1)) 0 false Ws.init 0 lsz ⟨Nat.le_refl _, Nat.le_refl _, Nat.le_refl _⟩ (by rw [lsz_eq]; omega)).2
  have hu8 := wr_u8 (FT d (chF ((grp d).zip flat)) (n - 1)) 0 false Ws.init (by intro x hx; cases hx)
  rw [← hst] at hb6 hl2 hu8
  have hE06 : Ext w w6 := by
    refine hm6.ext (hE1.trans (hE34.trans hE5)) ?_
    rintro i (rfl | hi)
    · exact (hE1.trans hE3).size
    · obtain ⟨ad, e, _⟩ := hi; cases e
  have hE16 : Ext w w6 := hE06
  obtain ⟨pa, hpa, hB6⟩ := hb6.blk
  refine load_blk hB6 rfl ?_
  refine wif (fun hw => ?_) (fun hw => ?_)
  · exact ⟨by rw [hr2, if_pos hw]; rfl, hE06⟩
  · refine call (string_fn w5.heap.size w3.heap.size _ _ A6 c6 (rst d flat).out w6 hb6 hu8 ?_) ?_
    · have : Ws.init.out.length = 0 := rfl
      omega
    rintro v w7 ⟨rfl, hm7⟩
    refine ⟨by rw [hr2, if_neg (by rw [hw]; decide)], hm7.ext hE06 (fun i hi => ?_)⟩
    have := (hb6.own.rows i hi).1
    have := (hE1.trans (hE34.trans hE5)).size
    omega
end Go.Proofs.Ytbkadgdhmfolaaa
