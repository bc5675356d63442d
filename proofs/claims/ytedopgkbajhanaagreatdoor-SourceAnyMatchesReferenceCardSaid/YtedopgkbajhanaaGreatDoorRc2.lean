/-
  The reference's Check, value, Holds.
  Conditions: none.
-/
import Derived.Test.YtedopgkbajhanaaGreatDoorRc1
import Derived.Test.YtedopgkbajhanaaGreatDoorDg
namespace Go.Proofs.YtedopgkbajhanaaGreatDoor
open Go Go.RowKit

def cntL (l : List Nat) (n : Nat) : List Nat := (List.range n).map fun j => l.count j
theorem cntL_get (l : List Nat) {n j : Nat} (hj : j < n) : (cntL l n)[j]? = some (l.count j) := by simp [cntL, hj]
theorem cntL_len (l : List Nat) (n : Nat) : (cntL l n).length = n := by simp [cntL]
theorem cntL_set (l : List Nat) (n k : Nat) : (cntL l n).set k (l.count k + 1) = cntL (l ++ [k]) n := by
  unfold cntL
  apply List.ext_getElem
  · simp
  · intro i h1 h2
    simp at h1
    simp only [List.getElem_set, List.getElem_map, List.getElem_range, List.count_append]
    split
    · rename_i h; subst h; simp
    · rename_i h
      rw [List.count_cons_of_ne (fun e => h e)]; simp
theorem cntL_nil (n : Nat) : natsV (cntL [] n) = List.replicate n (.int .i64 0) := by
  unfold natsV cntL
  apply List.ext_getElem
  · simp
  · intro i h1 h2; simp
theorem fkids_len : ∀ l : List Fz, (fkids l).length ≤ 2 * l.length
  | [] => by simp [fkids]
  | x :: l => by
    have ih := fkids_len l
    have e : fkids (x :: l) = fKids x ++ fkids l := by simp [fkids]
    have : (fKids x).length ≤ 2 := by unfold fKids; split; · simp
                                      · split <;> simp
    rw [e, List.length_append, List.length_cons]; omega

theorem rcheck_fn (A : Option Addr) (n c : Nat) (f : List Fz) (w : World) (h : SF w A n c f) :
    Fn Tryz.prog 156 [.slice A n c] w (fun v w' => v = .int .i64 (chkF f) ∧ Ext w w') := by
  have hlen := h.2
  refine fn_of_exec (c := { c156 with cuts := [4] }) gx_ok Tryz.func156 rfl rfl rfl ?_
  refine wif_d (fun h1 => ?_) (fun h1 => ?_)
  · exact ⟨by rw [chkF_no (fun hv => by have := hv.2.1; omega)], Ext.refl w⟩
  refine wif_d (fun h2 => ?_) (fun h2 => ?_)
  · exact ⟨by rw [chkF_no (fun hv => by have := hv.1; omega)], Ext.refl w⟩
  refine at_make gx_ok rfl rfl rfl rfl rfl rfl rfl rfl (by show 8 * n ≤ _; omega) (by unfold maxLen; omega) (fun w1 hE1 hz1 hB1 => ?_)
  have hB1' : Blk w1 w.heap.size 3 (natsV (cntL (fkids (f.take 0)) n)) := by
    rw [show fkids (f.take 0) = [] from rfl, cntL_nil]; exact hB1
  refine cutIn [] gx_ok [] (fun _ : Unit => []) (fun _ w' => Mod (· = w.heap.size) w1 w' ∧ Blk w' w.heap.size 3 (natsV (cntL (fkids f) n)) ∧ ∀ j x, j < n → f[j]? = some x → fzP x j) ?_ ?_
  · refine loop gx_ok [4] (fun s : Nat => [.int .i64 s]) (fun s w' => Mod (· = w.heap.size) w1 w' ∧ Blk w' w.heap.size 3 (natsV (cntL (fkids (f.take s)) n)) ∧ s ≤ n ∧ ∀ j x, j < s → f[j]? = some x → fzP x j) (fun s _ => n - s) 0 rfl ⟨Mod.refl _ _, hB1', Nat.zero_le _, fun j x hj => absurd hj (by omega)⟩ ?_
    rintro s w2 ⟨hM2, hU2, hs, hnd⟩
    have hE2 : Ext w w2 := hM2.ext hE1 (fun i hi => by omega)
    refine wif_d (fun h3 => ?_) (fun h3 => ?_)
    · have hsn : s < n := by omega
      refine index_sls fz_len (h.ext hE2) rfl hsn (fun p x hx hc => ?_)
      refine loadN_at (vs := x.cells) rfl hc ?_
      refine call (rnode_fn x s w2) ?_
      rintro _ w3 ⟨rfl, hE3⟩
      by_cases hx1 : fzP x s
      rotate_left
      · refine wif_not (wif_df hx1 ?_)
        exact ⟨by rw [chkF_no (nFV_nd hx hx1)], hE2.trans hE3⟩
      refine wif_not (wif_dt hx1 ?_)
      have hE03 := hE2.trans hE3
      have hM3 : Mod (· = w.heap.size) w1 w3 := hM2.trans (Mod.of_ext (· = w.heap.size) hE3) (fun i hi => .inl hi)
      have hU3 := hU2.ext hE3
      refine index_sls fz_len (h.ext hE03) rfl hsn (fun p' x' hx' hc' => ?_)
      have hxx : x' = x := Option.some.inj (hx'.symm.trans hx)
      subst hxx
      refine load (hc' 0 _ rfl) ?_
      refine call (operands_fn x'.o w3) ?_
      rintro _ _ ⟨rfl, rfl⟩
      obtain ⟨g0, g1, g2, g3⟩ := hx1
      have hnd' : ∀ j y, j < s + 1 → f[j]? = some y → fzP y j := fun j y hj hy => by
        by_cases hjs : j < s
        · exact hnd j y hjs hy
        · have : j = s := by omega
          subst this
          rw [Option.some.inj (hy.symm.trans hx)]; exact ⟨g0, g1, g2, g3⟩
      have hfl : (fkids (f.take s)).length ≤ 1024 := by have := fkids_len (f.take s); rw [List.length_take] at this; omega
      have hcl : ∀ k, (fkids (f.take s)).count k ≤ 1024 := fun k => Nat.le_trans (List.count_le_length) hfl
      have hsnoc := fkids_snoc f hx
      rcases fAr_cases x'.o with ⟨_, e⟩ | ⟨_, e⟩ | ⟨_, e⟩ | ⟨e, _⟩
      · have hk0 : fKids x' = [] := by unfold fKids; rw [e]; rfl
        refine wif_df (show ¬ fAr x'.o > 0 by omega) ?_
        refine wif_df (show ¬ fAr x'.o > 1 by omega) ?_
        refine norm_i64_to ((s + 1 : Nat) : Int) (by omega) (by omega) ?_
        exact ⟨s + 1, rfl, ⟨hM3, by rw [hsnoc, hk0, List.append_nil]; exact hU3, by omega, hnd'⟩, by show n - (s + 1) < n - s; omega⟩
      · have hk1 : fKids x' = [x'.a.toNat] := by unfold fKids; rw [e]; rfl
        rw [if_pos (by omega)] at g2
        refine wif_dt (show fAr x'.o > 0 by omega) ?_
        refine index_sls fz_len (h.ext hE03) rfl hsn (fun p2 x2 hx2 hc2 => ?_)
        have hxx : x2 = x' := Option.some.inj (hx2.symm.trans hx)
        subst hxx
        refine load (hc2 2 _ rfl) ?_
        refine index_i (j := x2.a.toNat) (by omega) (by omega) ?_
        refine load_blk hU3 (natsV_get (cntL_get _ (by omega))) ?_
        have hc0 := hcl x2.a.toNat
        refine norm_i64_to (((fkids (f.take s)).count x2.a.toNat + 1 : Nat) : Int) (by omega) (by omega) ?_
        refine index_i (j := x2.a.toNat) (by omega) (by omega) ?_
        refine store_mod hU3 (by rw [natsV_length, cntL_len]; omega) (fun w4 hM4 hU4 => ?_)
        rw [← natsV_set, cntL_set] at hU4
        refine wif_df (show ¬ fAr x2.o > 1 by omega) ?_
        refine norm_i64_to ((s + 1 : Nat) : Int) (by omega) (by omega) ?_
        exact ⟨s + 1, rfl, ⟨hM3.trans hM4 (fun i hi => .inl hi), by rw [hsnoc, hk1]; exact hU4, by omega, hnd'⟩, by show n - (s + 1) < n - s; omega⟩
      · have hk2 : fKids x' = [x'.a.toNat, x'.b.toNat] := by unfold fKids; rw [e]; rfl
        rw [if_pos (by omega)] at g2 g3
        refine wif_dt (show fAr x'.o > 0 by omega) ?_
        refine index_sls fz_len (h.ext hE03) rfl hsn (fun p2 x2 hx2 hc2 => ?_)
        have hxx : x2 = x' := Option.some.inj (hx2.symm.trans hx)
        subst hxx
        refine load (hc2 2 _ rfl) ?_
        refine index_i (j := x2.a.toNat) (by omega) (by omega) ?_
        refine load_blk hU3 (natsV_get (cntL_get _ (by omega))) ?_
        have hc0 := hcl x2.a.toNat
        refine norm_i64_to (((fkids (f.take s)).count x2.a.toNat + 1 : Nat) : Int) (by omega) (by omega) ?_
        refine index_i (j := x2.a.toNat) (by omega) (by omega) ?_
        refine store_mod hU3 (by rw [natsV_length, cntL_len]; omega) (fun w4 hM4 hU4 => ?_)
        rw [← natsV_set, cntL_set] at hU4
        have hM04 : Mod (· = w.heap.size) w1 w4 := hM3.trans hM4 (fun i hi => .inl hi)
        have hE04 : Ext w w4 := hM04.ext hE1 (fun i hi => by omega)
        refine wif_dt (show fAr x2.o > 1 by omega) ?_
        refine index_sls fz_len (h.ext hE04) rfl hsn (fun p3 x3 hx3 hc3 => ?_)
        have hxx : x3 = x2 := Option.some.inj (hx3.symm.trans hx)
        subst hxx
        refine load (hc3 3 _ rfl) ?_
        refine index_i (j := x3.b.toNat) (by omega) (by omega) ?_
        refine load_blk hU4 (natsV_get (cntL_get _ (by omega))) ?_
        have hc1 : (fkids (f.take s) ++ [x3.a.toNat]).count x3.b.toNat ≤ 1025 := Nat.le_trans List.count_le_length (by simp; omega)
        refine norm_i64_to (((fkids (f.take s) ++ [x3.a.toNat]).count x3.b.toNat + 1 : Nat) : Int) (by omega) (by omega) ?_
        refine index_i (j := x3.b.toNat) (by omega) (by omega) ?_
        refine store_mod hU4 (by rw [natsV_length, cntL_len]; omega) (fun w5 hM5 hU5 => ?_)
        rw [← natsV_set, cntL_set] at hU5
        refine norm_i64_to ((s + 1 : Nat) : Int) (by omega) (by omega) ?_
        exact ⟨s + 1, rfl, ⟨hM04.trans hM5 (fun i hi => .inl hi), by rw [hsnoc, hk2, show fkids (f.take s) ++ [x3.a.toNat, x3.b.toNat] = fkids (f.take s) ++ [x3.a.toNat] ++ [x3.b.toNat] by simp]; exact hU5, by omega, hnd'⟩, by show n - (s + 1) < n - s; omega⟩
      · omega
    · have : s = n := by omega
      subst this
      rw [List.take_of_length_le (by omega)] at hU2
      exact ⟨(), rfl, hM2, hU2, hnd⟩
  rintro ⟨⟩ w2 ⟨hM2, hU2, hnd⟩
  have hE2 : Ext w w2 := hM2.ext hE1 (fun i hi => by omega)
  refine loop gx_ok [6] (fun s : Nat => [.int .i64 s]) (fun s w' => w2 = w' ∧ s ≤ n ∧ ∀ j, j < s → j + 1 < n → (fkids f).count j = 1) (fun s _ => n - s) 0 rfl ⟨rfl, Nat.zero_le _, fun j hj => absurd hj (by omega)⟩ ?_
  rintro s _ ⟨rfl, hs, hall⟩
  refine wif_d (fun h3 => ?_) (fun h3 => ?_)
  · refine norm_i64_to ((n - 1 : Nat) : Int) (by omega) (by omega) ?_
    refine wif_d (fun h4 => ?_) (fun h4 => ?_)
    · refine index (j := s) (by omega) ?_
      refine load_blk hU2 (natsV_get (cntL_get _ (by omega))) ?_
      refine wif_ne (fun h5 => ?_) (fun h5 => ?_)
      · exact ⟨by rw [chkF_no (fun hv => h5 (by have := hv.2.2.2 s (by omega); omega))], hE2⟩
      · refine norm_i64_to ((s + 1 : Nat) : Int) (by omega) (by omega) ?_
        refine ⟨s + 1, rfl, ⟨rfl, by omega, fun j hj hjn => ?_⟩, by show n - (s + 1) < n - s; omega⟩
        by_cases hjs : j < s
        · exact hall j hjs hjn
        · have : j = s := by omega
          subst this; omega
    · refine norm_i64_to ((s + 1 : Nat) : Int) (by omega) (by omega) ?_
      exact ⟨s + 1, rfl, ⟨rfl, by omega, fun j hj hjn => hall j (by omega) hjn⟩, by show n - (s + 1) < n - s; omega⟩
  · refine ⟨?_, hE2⟩
    rw [chkF_ok ⟨by omega, by omega, fun i x hx => hnd i x (by have := (List.getElem?_eq_some_iff.1 hx).1; omega) hx, fun i hi => hall i (by omega) (by omega)⟩]
end Go.Proofs.YtedopgkbajhanaaGreatDoor
