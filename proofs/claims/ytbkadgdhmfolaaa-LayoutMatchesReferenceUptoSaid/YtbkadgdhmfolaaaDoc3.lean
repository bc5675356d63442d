/-
  The reference's Check: the contract.
  Conditions: none.
-/
import Derived.Test.YtbkadgdhmfolaaaDoc2
namespace Go.Proofs.Ytbkadgdhmfolaaa
open Go Go.RowKit

theorem kidsOf_len (x : Nd) : (kidsOf x).length ≤ 2 := by unfold kidsOf; split <;> (try split) <;> simp
theorem kids_len : ∀ (d : List Nd), (kids d).length ≤ 2 * d.length
  | [] => by simp [kids]
  | x :: d => by
    have h1 := kidsOf_len x
    have h2 := kids_len d
    simp only [kids, List.flatMap_cons, List.length_append, List.length_cons] at h2 ⊢
    omega

def cntL (l : List Nat) (n : Nat) : List Int := (List.range n).map fun j => (l.count j : Int)
theorem cnt_len (l : List Nat) (n : Nat) : (cntL l n).length = n := by simp [cntL]
theorem cnt_get (l : List Nat) (n j : Nat) (hj : j < n) : (cntL l n)[j]? = some (l.count j : Int) := by simp [cntL, hj]
theorem cnt_set (l : List Nat) (n k : Nat) : (cntL l n).set k ((l.count k : Int) + 1) = cntL (l ++ [k]) n := by
  apply List.ext_getElem
  · simp [cntL]
  · intro i h1 h2
    simp [cntL] at h1
    simp only [cntL, List.getElem_set, List.getElem_map, List.getElem_range, List.count_append]
    split
    · rename_i h; subst h; simp
    · rename_i h
      simp [h]

/-- 'used[k]++' -/
theorem rcheck_fn (A : Option Addr) (n c : Nat) (d : List Nd) (w : World) (h : SD w A n c d) (hs : ∀ x ∈ d, x.t.size ≤ maxLen) :
    Fn Try.prog 12 [.slice A n c] w (fun v w' => v = .int .i64 (chk d) ∧ Ext w w') := by
  have hlen := h.2
  refine fn_of_exec (c := { c12 with cuts := [4, 9, 13] }) gx_ok Try.func12 rfl rfl rfl ?_
  refine wif_d (fun h1 => ?_) (fun h1 => ?_)
  · exact ⟨by rw [chk_large (by omega)], Ext.refl w⟩
  refine at_make gx_ok rfl rfl rfl rfl rfl rfl rfl rfl (by show 8 * n ≤ _; omega) (by unfold maxLen; omega) (fun w1 hE1 hsz1 hB1 => ?_)
  have h0 : (List.replicate n (Value.int .i64 0)) = intsV (cntL [] n) := by
    apply List.ext_getElem
    · simp [intsV, cntL]
    · intro i h1 h2; simp [intsV, cntL]
  have hB1' : Blk w1 w.heap.size 3 (intsV (cntL [] n)) := by rw [← h0]; exact hB1
  clear hB1
  refine cut0In [9] gx_ok (fun w' => Ext w w' ∧ Blk w' w.heap.size 3 (intsV (cntL (kids d) n)) ∧ (∀ j x, j < n → d[j]? = some x → ndP x j)) ?_ ?_
  · refine loop gx_ok [4] (fun s : Nat => [.int .i64 s]) (fun s w' => Ext w w' ∧ Blk w' w.heap.size 3 (intsV (cntL (kids (d.take s)) n)) ∧ s ≤ n ∧ (∀ j x, j < s → d[j]? = some x → ndP x j)) (fun s _ => n - s) 0 rfl ⟨hE1, by simpa [kids] using hB1', Nat.zero_le _, fun j x hj => absurd hj (by omega)⟩ ?_
    rintro s w2 ⟨hE2, hB2, hsn, hnd⟩
    refine wif_d (fun h2 => ?_) (fun h2 => ?_)
    · have hx : d[s]? = some d[s] := List.getElem?_eq_getElem (by omega)
      generalize d[s] = x at hx
      have hkl := kids_len (d.take s)
      rw [List.length_take] at hkl
      refine call (rvalid_fn _ _ _ _ _ _ _ (h.ext hE2) hx (hs x (List.mem_of_getElem? hx))) ?_
      rintro v w3 ⟨b, rfl, hb, hE3⟩
      refine wif_not (wif (fun hbt => ?_) (fun hbf => ?_))
      case refine_2 =>
        exact ⟨by rw [chk_no (by omega) (not_valid_nd hx (fun hh => by have := hb.2 hh; rw [hbf] at this; cases this))], hE2.trans hE3⟩
      have hnx := hb.1 hbt
      have hB3 := hB2.ext hE3
      have hE3' := hE2.trans hE3
      have h5 := hnx.2.2.1
      have h6 := hnx.2.2.2
      have har := arI_cases x.k
      have har0 := hnx.1
      refine cut0 gx_ok (fun w' => Ext w w' ∧ Blk w' w.heap.size 3 (intsV (cntL (kids (d.take s) ++ (if 1 ≤ arI x.k then [x.a.toNat] else [])) n))) ?_ ?_
      · refine index_sls nd_len (h.ext hE3') rfl (by omega) (fun p y hy hc => ?_)
        rw [Option.some.inj (hy.symm.trans hx)] at hc
        refine load (hc 0 _ rfl) ?_
        refine call (operands_fn _ _) ?_
        rintro v w' ⟨rfl, rfl⟩
        refine wif_d (fun h7 => ?_) (fun h7 => ?_)
        · rw [if_pos (by omega)] at h5
          refine index_sls nd_len (h.ext hE3') rfl (by omega) (fun p y hy hc => ?_)
          rw [Option.some.inj (hy.symm.trans hx)] at hc
          refine load (hc 3 _ rfl) ?_
          refine index_i (j := x.a.toNat) (by omega) (by omega) ?_
          refine load_blk hB3 (intsV_get (cnt_get _ _ _ (by omega))) ?_
          have hcl := List.count_le_length (a := x.a.toNat) (l := kids (d.take s))
          refine norm_i64 (by omega) ?_
          refine index_i (j := x.a.toNat) (by omega) (by omega) ?_
          refine store_blk hB3 (by rw [intsV_length, cnt_len]; omega) (fun w4 hg4 hB4 => ?_)
          rw [← intsV_set, cnt_set] at hB4
          exact ⟨rfl, hE3'.own hg4 (Nat.le_refl _), by rw [if_pos (by omega)]; exact hB4⟩
        · exact ⟨rfl, hE3', by rw [if_neg (by omega), List.append_nil]; exact hB3⟩
      rintro w4 ⟨hE4, hB4⟩
      refine index_sls nd_len (h.ext hE4) rfl (by omega) (fun p y hy hc => ?_)
      rw [Option.some.inj (hy.symm.trans hx)] at hc
      refine load (hc 0 _ rfl) ?_
      refine call (operands_fn _ _) ?_
      rintro v w' ⟨rfl, rfl⟩
      have hnd' : ∀ j y, j < s + 1 → d[j]? = some y → ndP y j := fun j z hj hz => by
        by_cases hjs : j < s
        · exact hnd j z hjs hz
        · have hjs' : j = s := by omega
          rw [hjs'] at hz ⊢
          rw [Option.some.inj (hz.symm.trans hx)]; exact hnx
      have hkx : kids (d.take (s + 1)) = (kids (d.take s) ++ (if 1 ≤ arI x.k then [x.a.toNat] else [])) ++ (if 2 ≤ arI x.k then [x.b.toNat] else []) := by
        rw [kids_snoc d hx]
        unfold kidsOf
        rcases har with h | h | h | h <;> simp [h]
      refine wif_d (fun h7 => ?_) (fun h7 => ?_)
      · rw [if_pos (by omega)] at h6
        refine index_sls nd_len (h.ext hE4) rfl (by omega) (fun p y hy hc => ?_)
        rw [Option.some.inj (hy.symm.trans hx)] at hc
        refine load (hc 4 _ rfl) ?_
        refine index_i (j := x.b.toNat) (by omega) (by omega) ?_
        refine load_blk hB4 (intsV_get (cnt_get _ _ _ (by omega))) ?_
        have hcl := List.count_le_length (a := x.b.toNat) (l := kids (d.take s) ++ (if 1 ≤ arI x.k then [x.a.toNat] else []))
        have hcl2 : (kids (d.take s) ++ (if 1 ≤ arI x.k then [x.a.toNat] else [])).length ≤ 2 * n + 1 := by
          rw [List.length_append]; split <;> simp <;> omega
        refine norm_i64 (by omega) ?_
        refine index_i (j := x.b.toNat) (by omega) (by omega) ?_
        refine store_blk hB4 (by rw [intsV_length, cnt_len]; omega) (fun w5 hg5 hB5 => ?_)
        rw [← intsV_set, cnt_set] at hB5
        refine norm_i64_to ((s + 1 : Nat) : Int) (by omega) (by omega) ?_
        exact ⟨s + 1, rfl, ⟨hE4.own hg5 (Nat.le_refl _), by rw [hkx, if_pos (show 2 ≤ arI x.k by omega)]; exact hB5, by omega, hnd'⟩, by show n - (s + 1) < n - s; omega⟩
      · refine norm_i64_to ((s + 1 : Nat) : Int) (by omega) (by omega) ?_
        exact ⟨s + 1, rfl, ⟨hE4, by rw [hkx, if_neg (show ¬ 2 ≤ arI x.k by omega), List.append_nil]; exact hB4, by omega, hnd'⟩, by show n - (s + 1) < n - s; omega⟩
    · have : s = n := by omega
      subst this
      rw [List.take_of_length_le (by omega)] at hB2
      exact ⟨rfl, hE2, hB2, hnd⟩
  rintro w2 ⟨hE2, hB2, hnd⟩
  refine cut0 gx_ok (fun w' => w2 = w' ∧ ∀ j, j + 1 < n → (kids d).count j = 1) ?_ ?_
  · refine loop gx_ok [5] (fun s : Nat => [.int .i64 s]) (fun s w' => w2 = w' ∧ (s + 1 ≤ n ∨ s = 0) ∧ ∀ j, j < s → (kids d).count j = 1) (fun s _ => n - s) 0 rfl ⟨rfl, .inr rfl, fun j hj => absurd hj (by omega)⟩ ?_
    rintro s w' ⟨rfl, hsn, hu⟩
    refine norm_i64_to ((n : Int) - 1) rfl (by omega) ?_
    refine wif_d (fun h2 => ?_) (fun h2 => ?_)
    · refine index (by omega) ?_
      refine load_blk hB2 (intsV_get (cnt_get _ n s (by omega))) ?_
      refine wif_ne (fun hm => ?_) (fun hm => ?_)
      · refine ⟨?_, hE2⟩
        rw [chk_no (by omega) (fun hv => ?_)]
        have := hv.2.2.2 s (by omega)
        omega
      · refine norm_i64_to ((s + 1 : Nat) : Int) (by omega) (by omega) ?_
        refine ⟨s + 1, rfl, ⟨rfl, by omega, fun j hj => ?_⟩, by show n - (s + 1) < n - s; omega⟩
        by_cases hjs : j < s
        · exact hu j hjs
        · have : j = s := by omega
          rw [this]; omega
    · exact ⟨rfl, rfl, fun j hj => hu j (by omega)⟩
  rintro w' ⟨rfl, hu⟩
  refine wif_eq (fun h2 => ?_) (fun h2 => ?_)
  · exact ⟨by rw [chk_no (by omega) (fun hv => by have := hv.2.1; omega)], hE2⟩
  · exact ⟨by rw [chk_ok ⟨by omega, by omega, fun i x hx => hnd i x (by have := (List.getElem?_eq_some_iff.1 hx).1; omega) hx, fun i hi => hu i (by omega)⟩], hE2⟩
end Go.Proofs.Ytbkadgdhmfolaaa
