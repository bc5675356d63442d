/-
  The law Fills: the walk.
  Conditions: none.
-/
import Derived.Test.YtbkadgdhmfolaaaLq6
namespace Go.Proofs.Ytbkadgdhmfolaaa
open Go Go.RowKit

/-- The lengths of the first words, the last one first. -/
def wl (bs : List Nat) (i : Nat) : List Nat := ((bs.take i).map fun b => 1 + b % 9).reverse
theorem wl_succ {bs : List Nat} {i b : Nat} (h : bs[i]? = some b) : wl bs (i + 1) = (1 + b % 9) :: wl bs i := by
  unfold wl
  rw [List.take_add_one, h]
  simp
theorem wl_ok (bs : List Nat) (i : Nat) : ∀ n ∈ wl bs i, 1 ≤ n ∧ n ≤ 9 := fun n hn => by
  unfold wl at hn
  simp only [List.mem_reverse, List.mem_map] at hn
  obtain ⟨b, _, rfl⟩ := hn
  have := Nat.mod_lt b (show 0 < 9 by decide)
  omega
theorem wl_len (bs : List Nat) (i : Nat) (h : i ≤ bs.length) : (wl bs i).length = i := by
  unfold wl
  simp
  omega
theorem grd_lim (W : Nat) (hW : W ≤ 1000) : ∀ (ns : List Nat), (∀ n ∈ ns, 1 ≤ n ∧ n ≤ 9) → (grd W ns).1 ≤ ns.length ∧ (grd W ns).2 ≤ 1000
  | [], _ => ⟨Nat.le_refl _, Nat.zero_le _⟩
  | [n], h => ⟨Nat.zero_le _, by have := h n (by simp); simp only [grd]; omega⟩
  | n :: m :: ns, h => by
    have h1 := h n (by simp)
    have h2 := grd_lim W hW (m :: ns) (fun k hk => h k (by simp [hk]))
    simp only [grd]
    split
    · simp only [List.length_cons] at *
      exact ⟨by omega, by omega⟩
    · simp only [List.length_cons] at *
      exact ⟨by omega, by omega⟩

theorem fillR_cons (k : Nat) (l : List Nat) : fillR (k :: l) = .seq (if l.length = 0 then .text [] else .seq (fillR l) gapT) (.text (List.replicate k 119)) := by
  cases l with
  | nil => rfl
  | cons m ns => rfl
theorem grd_cons (W k : Nat) {l : List Nat} (h : 0 < l.length) : grd W (k :: l) = if (grd W l).2 + 1 + k ≤ W then ((grd W l).1, (grd W l).2 + 1 + k) else ((grd W l).1 + 1, k) := by
  cases l with
  | nil => simp at h
  | cons m ns => rfl
theorem www (k : Nat) (h : k ≤ 9) : bytesOf ((⟨#[119, 119, 119, 119, 119, 119, 119, 119, 119]⟩ : ByteArray).extract 0 k) = List.replicate k 119 := by
  rw [bytesOf_extract]
  have : bytesOf (⟨#[119, 119, 119, 119, 119, 119, 119, 119, 119]⟩ : ByteArray) = List.replicate 9 119 := by decide
  rw [this, List.drop_zero, List.take_replicate, Nat.min_eq_left h]

theorem fills_law (L : Option Addr) (n cl x : Nat) (bs : List Nat) (w : World) (hL : Sl w 1 L n cl (u8V bs)) (hb : ∀ b ∈ bs, b ≤ 255) (hx : x ≤ 255) :
    Fn Try.prog 10 [.slice L n cl, .int .u8 x] w (fun v w' => v = .bool true ∧ Ext w w') := by
  have hbl : bs.length = n := by have := hL.len; rw [show (u8V bs).length = bs.length by simp [u8V]] at this; omega
  have hcap := hL.cap
  have hle := hL.le
  unfold maxLen at hcap
  refine fn_of_exec (c := { c10 with cuts := [10] }) gx_ok Try.func10 rfl rfl rfl ?_
  refine call (sanity_fn w) ?_
  rintro v w1 ⟨rfl, hE1⟩
  refine rem_c 40 rfl (by decide) ?_
  have hx40 : x % 40 < 40 := Nat.mod_lt _ (by decide)
  generalize x % 40 = y at hx40
  refine norm_i64_to ((y : Nat) : Int) rfl (by omega) ?_
  refine norm_i64_to ((9 + y : Nat) : Int) (by omega) (by omega) ?_
  have hW9 : 9 ≤ 9 + y := by omega
  have hW1 : 9 + y ≤ 48 := by omega
  generalize 9 + y = W at hW9 hW1
  clear hx40
  refine call (text_dr ⟨#[]⟩ w1 (by decide) (by decide)) ?_
  rintro v w2 ⟨A0, c0, d0, rfl, hE2, h0⟩
  have hE02 := hE1.trans hE2
  refine loop gx_ok [7, 8, 9, 10] (fun s : Option Addr × Nat × List Nd × Nat => [.slice s.1 s.2.2.1.length s.2.1, .int .i64 (grd W (wl bs s.2.2.2)).1, .int .i64 (grd W (wl bs s.2.2.2)).2, .int .i64 s.2.2.2]) (fun s w' => Ext w w' ∧ Doc w' s.1 s.2.1 s.2.2.1 (fillR (wl bs s.2.2.2)) (1 + 5 * s.2.2.2) ∧ s.2.2.2 ≤ n ∧ s.2.2.2 ≤ 40) (fun s _ => 40 - s.2.2.2) (A0, c0, d0, 0) rfl ⟨hE02, h0, Nat.zero_le _, Nat.zero_le _⟩ ?_
  rintro ⟨A, c, d, i⟩ w3 ⟨hE3, hd, hin, hi40⟩
  dsimp only at hd hin hi40 ⊢
  have hlim := grd_lim W (by omega) (wl bs i) (wl_ok bs i)
  rw [wl_len bs i (by omega)] at hlim
  have tail : ∀ (w9 : World), Ext w w9 → Doc w9 A c d (fillR (wl bs i)) (1 + 5 * i) → Fn Try.prog 14 [.slice A d.length c, .int .i64 W] w9 (fun v w' => Ext w9 w' ∧ ∃ l, Least W (fillR (wl bs i)) l ∧ v = .tuple #[.string (strOf (txtN (fillR (wl bs i)) l)), .agg #[.int .i64 0, .int .i64 (grd W (wl bs i)).1], .int .i64 0]) := fun w9 _ hd9 => by
    refine Fn.mono (best_dr W hd9 (by omega)) ?_
    rintro v w' ⟨hE, l, hl, rfl⟩
    refine ⟨hE, l, hl, ?_⟩
    rw [fill_least hW9 _ (wl_ok bs i) hl]
    rfl
  refine wif_d (fun h1 => ?_) (fun h1 => ?_)
  · refine wif_d (fun h2 => ?_) (fun h2 => ?_)
    · have hbi : bs[i]? = some bs[i] := List.getElem?_eq_getElem (by omega)
      have hb255 := hb _ (List.mem_of_getElem? hbi)
      generalize bs[i] = b at hbi hb255
      refine index_sl (hL.ext hE3) (by omega) (fun ad u hA hu hcell => ?_)
      rw [u8V_get hbi] at hu
      cases hu
      refine load hcell ?_
      refine rem_c 9 rfl (by decide) ?_
      have hm9 : b % 9 < 9 := Nat.mod_lt _ (by decide)
      refine norm_i64_to ((b % 9 : Nat) : Int) rfl (by omega) ?_
      refine norm_i64_to ((1 + b % 9 : Nat) : Int) (by omega) (by omega) ?_
      have hsucc := wl_succ hbi
      have hone : 1 ≤ 1 + b % 9 ∧ 1 + b % 9 ≤ 9 := by omega
      have hlim2 := grd_lim W (by omega) (wl bs (i + 1)) (wl_ok bs (i + 1))
      rw [hsucc] at hlim2
      generalize 1 + b % 9 = k at hsucc hone hlim2
      refine cutIn [] gx_ok [7, 8, 9] (fun s : Option Addr × Nat × List Nd => [.slice s.1 s.2.2.length s.2.1, .int .i64 (grd W (k :: wl bs i)).1, .int .i64 (grd W (k :: wl bs i)).2]) (fun s w' => Ext w w' ∧ Doc w' s.1 s.2.1 s.2.2 (if i = 0 then .text [] else .seq (fillR (wl bs i)) gapT) (4 + 5 * i)) ?_ ?_
      · refine wif_d (fun h3 => ?_) (fun h3 => ?_)
        · have hi0 : ¬ i = 0 := by omega
          have hgc := grd_cons W k (l := wl bs i) (by rw [wl_len bs i (by omega)]; omega)
          refine call (gap_dr w3) ?_
          rintro v w4 ⟨Ag, cg, dg, rfl, hE4, hg⟩
          refine call (seq_dr (hd.ext hE4) hg (by omega)) ?_
          rintro v w5 ⟨A5, c5, d5, rfl, hE5, h5⟩
          have h5' : Doc w5 A5 c5 d5 (if i = 0 then .text [] else .seq (fillR (wl bs i)) gapT) (4 + 5 * i) := by
            rw [if_neg hi0]
            exact ⟨h5.sd, h5.rep, by have := h5.len; omega⟩
          refine norm_i64_to (((grd W (wl bs i)).2 + 1 : Nat) : Int) (by omega) (by omega) ?_
          refine norm_i64_to (((grd W (wl bs i)).2 + 1 + k : Nat) : Int) (by omega) (by omega) ?_
          refine wif_d (fun h4 => ?_) (fun h4 => ?_)
          · rw [if_pos (by omega)] at hgc
            refine norm_i64_to (((grd W (wl bs i)).2 + 1 : Nat) : Int) (by omega) (by omega) ?_
            refine norm_i64_to (((grd W (wl bs i)).2 + 1 + k : Nat) : Int) (by omega) (by omega) ?_
            rw [hgc]
            exact ⟨(A5, c5, d5), rfl, hE3.trans (hE4.trans hE5), h5'⟩
          · rw [if_neg (by omega)] at hgc
            refine norm_i64_to (((grd W (wl bs i)).1 + 1 : Nat) : Int) (by omega) (by omega) ?_
            rw [hgc]
            exact ⟨(A5, c5, d5), rfl, hE3.trans (hE4.trans hE5), h5'⟩
        · have hi0 : i = 0 := by omega
          subst hi0
          exact ⟨(A, c, d), rfl, hE3, ⟨hd.sd, hd.rep, by have := hd.len; show d.length ≤ 4 + 5 * 0; omega⟩⟩
      · rintro ⟨A4, c4, d4⟩ w4 ⟨hE4, hd4⟩
        dsimp only at hd4 ⊢
        refine need ⟨by omega, by omega, by show (k : Int) ≤ 9; omega⟩ ?_
        refine call (text_dr ((⟨#[119, 119, 119, 119, 119, 119, 119, 119, 119]⟩ : ByteArray).extract 0 k) w4 (by rw [www k hone.2]; intro hm; have := List.eq_of_mem_replicate hm; omega) (by rw [← bytesOf_length, www k hone.2, List.length_replicate]; omega)) ?_
        rintro v w5 ⟨A5, c5, d5, rfl, hE5, h5⟩
        rw [www k hone.2] at h5
        refine call (seq_dr (hd4.ext hE5) h5 (by omega)) ?_
        rintro v w6 ⟨A6, c6, d6, rfl, hE6, h6⟩
        refine norm_i64_to ((i + 1 : Nat) : Int) (by omega) (by omega) ?_
        have hf := fillR_cons k (wl bs i)
        rw [wl_len bs i (by omega), ← hsucc] at hf
        rw [← hf] at h6
        rw [← hsucc]
        exact ⟨(A6, c6, d6, i + 1), rfl, ⟨hE4.trans (hE5.trans hE6), ⟨h6.sd, h6.rep, by have := h6.len; show d6.length ≤ 1 + 5 * (i + 1); omega⟩, by dsimp only; omega, by dsimp only; omega⟩, by show 40 - (i + 1) < 40 - i; omega⟩
    · refine call (tail w3 hE3 hd) ?_
      rintro v w4 ⟨hE4, l, hl, rfl⟩
      refine new (fun w5 hE5 hz5 hB5 => ?_)
      refine storeN_blk0 hB5 rfl (sc rfl) (fun w6 hg6 _ hB6 => ?_)
      have hE46 := newBox hE5 hB5 hg6
      refine wif_t rfl ?_
      refine loadN_blk0 hB6 rfl ?_
      refine wif_t (by simp) ?_
      exact ⟨rfl, hE3.trans (hE4.trans hE46)⟩
  · refine call (tail w3 hE3 hd) ?_
    rintro v w4 ⟨hE4, l, hl, rfl⟩
    refine new (fun w5 hE5 hz5 hB5 => ?_)
    refine storeN_blk0 hB5 rfl (sc rfl) (fun w6 hg6 _ hB6 => ?_)
    have hE46 := newBox hE5 hB5 hg6
    refine wif_t rfl ?_
    refine loadN_blk0 hB6 rfl ?_
    refine wif_t (by simp) ?_
    exact ⟨rfl, hE3.trans (hE4.trans hE46)⟩
end Go.Proofs.Ytbkadgdhmfolaaa
