/-
  The walk of NaturalPowers.
  Conditions: none.
-/
import Derived.Test.YtpalpikenkkhlaaT16
namespace Go.Proofs.Ytpalpikenkkhlaa
open Go Go.RowKit

theorem rep_get {n i x : Nat} (h : i < n) : (List.replicate n x)[i]? = some x := by simp [h]

theorem naturalPowers_law (k : Nat) (w0 : World) (hk : k < 256) :
    Fn Try.prog 6 [.int .u8 k] w0 (fun v w' => v = .bool true ∧ Ext w0 w') := by
  refine fn_of_exec (c := { c6 with cuts := [11] }) gx_ok Try.func6 rfl rfl rfl ?_
  refine call (sanityN w0) ?_
  rintro v w1 ⟨rfl, hE0⟩
  refine norm_i64 (by omega) ?_
  refine norm_rem (d := 201) (by omega) ?_
  have hn : k % 201 ≤ 200 := by omega
  generalize k % 201 = n at *
  refine call (ofN 1 _ (by omega)) ?_
  rintro v w2 ⟨A, c, rfl, ha, hE⟩
  replace hE0 := hE0.trans hE
  have lt : ∀ i, i ≤ 200 → Lt 23 (10 ^ i) := fun i hi => ten_limbs (Nat.pow_lt_pow_right (by omega) (by omega))
  refine loop gx_ok [6, 5] (fun s : Nat × Option Addr × Nat => [.int .i64 s.1, .slice s.2.1 (toL (10 ^ s.1)).length s.2.2]) (fun s w3 => Ext w0 w3 ∧ s.1 ≤ n ∧ NV w3 s.2.1 s.2.2 (10 ^ s.1)) (fun s _ => n - s.1) (0, A, c) rfl ⟨hE0, Nat.zero_le _, ha⟩ ?_
  clear hE0 ha hE
  rintro ⟨i, A, c⟩ w3 ⟨hE0, hi, ha⟩
  dsimp only at hi ha ⊢
  refine wif_d (fun h1 => ?_) (fun h1 => ?_)
  · refine call (ofN 10 _ (by omega)) ?_
    rintro v w4 ⟨Ab, cb, rfl, hb, hE⟩
    refine call (mulN 23 1 (ha.ext hE) hb (lt i (by omega)) (by decide) (by omega)) ?_
    rintro v w5 ⟨Ac, cc, rfl, hc, hE5⟩
    refine norm_i64_to ((i + 1 : Nat) : Int) (by omega) (by omega) ?_
    exact ⟨(i + 1, Ac, cc), rfl, ⟨hE0.trans (hE.trans hE5), by show i + 1 ≤ n; omega, hc⟩, by show n - (i + 1) < n - i; omega⟩
  · have hin : i = n := by omega
    subst hin
    have Ln := lt i hn
    have hpos : 0 < 10 ^ i := Nat.pow_pos (by omega)
    have ht := textL_pow i
    have hts : (strOf (textL (10 ^ i))).size = i + 1 := by rw [strOf_size, ht]; simp
    refine call (textN 23 ha Ln (by omega)) ?_
    rintro v w4 ⟨rfl, hE4⟩
    replace ha := ha.ext hE4
    replace hE0 := hE0.trans hE4
    refine call (ofN 1 _ (by omega)) ?_
    rintro v w5 ⟨Ab, cb, rfl, hb, hE5⟩
    replace ha := ha.ext hE5
    replace hE0 := hE0.trans hE5
    refine call (subN 23 1 ha hb Ln (by decide) (by omega) (by omega)) ?_
    rintro v w6 ⟨Ac, cc, rfl, hc, hE6⟩
    replace hE0 := hE0.trans hE6
    rw [if_neg (by omega)]
    refine call (textN 23 hc (lt_le Ln (Nat.sub_le _ _)) (by omega)) ?_
    rintro v w7 ⟨rfl, hE7⟩
    replace hE0 := hE0.trans hE7
    have hsz : i ≤ (textL (10 ^ i - 1)).length ∧ (0 < i → (textL (10 ^ i - 1)).length = i) := by
      rcases Nat.eq_zero_or_pos i with h | h
      · subst h; exact ⟨by simp, fun h => by omega⟩
      · rw [textL_nines h]; simp
    have hus := strOf_size (textL (10 ^ i - 1))
    refine cut gx_ok [] (fun _ : Unit => []) (fun _ w => w = w7) ?_ ?_
    · refine norm_i64_to ((i + 1 : Nat) : Int) (by omega) (by omega) ?_
      refine wif_nef (by omega) ?_
      refine sindex' (j := 0) (by omega) (fun x hx hx2 => ?_)
      rw [textL_bytes, ht] at hx
      simp at hx
      subst hx
      refine wif_nef rfl ?_
      refine wif_nef rfl ?_
      refine wif_eq (fun h0 => ?_) (fun h0 => ?_)
      · have h00 : i = 0 := by omega
        subst h00
        refine wif_not (wif_dt (by decide) ?_)
        refine wif_df (by omega) ?_
        exact ⟨(), rfl, rfl⟩
      · have := hsz.2 (by omega)
        refine wif_dt (by omega) ?_
        refine wif_nef (by omega) ?_
        exact ⟨(), rfl, rfl⟩
    rintro _ w8 rfl
    refine loop gx_ok [11] (fun s : Nat => [.int .i64 s]) (fun s w9 => w9 = w8 ∧ s ≤ i) (fun s _ => i - s) 0 rfl ⟨rfl, Nat.zero_le _⟩ ?_
    rintro j w9 ⟨rfl, hj⟩
    dsimp only
    refine wif_d (fun h2 => ?_) (fun h2 => ?_)
    · have ht2 := textL_nines (n := i) (by omega)
      refine norm_i64_to ((j + 1 : Nat) : Int) (by omega) (by omega) ?_
      refine sindex' (j := j + 1) (by omega) (fun x hx hx2 => ?_)
      rw [textL_bytes, ht, List.getElem?_cons_succ, rep_get (by omega)] at hx
      cases hx
      refine wif_nef rfl ?_
      refine sindex' (j := j) (by omega) (fun x hx hx2 => ?_)
      rw [textL_bytes, ht2, rep_get (by omega)] at hx
      cases hx
      refine wif_nef rfl ?_
      refine norm_i64_to ((j + 1 : Nat) : Int) (by omega) (by omega) ?_
      exact ⟨j + 1, rfl, ⟨rfl, by omega⟩, by show i - (j + 1) < i - j; omega⟩
    · exact And.intro rfl hE0
end Go.Proofs.Ytpalpikenkkhlaa
