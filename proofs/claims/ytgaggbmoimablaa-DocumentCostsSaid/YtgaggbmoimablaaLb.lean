/-
  The law Costs: the walk.
  Conditions: none.
-/
import Derived.Test.YtgaggbmoimablaaLa
namespace Go.Proofs.Ytgaggbmoimablaa
open Go Go.RowKit

theorem bytesOf_app (s t : ByteArray) : bytesOf (s ++ t) = bytesOf s ++ bytesOf t := by simp [bytesOf]

theorem costs_law (s t : ByteArray) (width : Int) (w : World) (hw : -9223372036854775808 ≤ width ∧ width ≤ 9223372036854775807) :
    Fn Try.prog 11 [.string s, .string t, .int .i64 width] w (fun v w' => v = .bool true ∧ Ext w w') := by
  refine fn_of_exec (c := { c11 with cuts := [16] }) gx_ok Try.func11 rfl rfl rfl ?_
  refine call (sanity_fn w) ?_
  rintro v w1 ⟨rfl, hE1⟩
  refine wif_d (fun g => ⟨rfl, hE1⟩) (fun hs => ?_)
  refine wif_d (fun g => ⟨rfl, hE1⟩) (fun ht => ?_)
  refine wif_d (fun g => ⟨rfl, hE1⟩) (fun hw0 => ?_)
  refine wif_d (fun g => ⟨rfl, hE1⟩) (fun hw1 => ?_)
  obtain ⟨W, rfl⟩ : ∃ n : Nat, width = n := ⟨width.toNat, by omega⟩
  have hW : W ≤ 1000 := by omega
  have hp := costL_le W (bytesOf s) 0
  have hq := costL_le W (bytesOf t) 0
  rw [bytesOf_length] at hp hq
  have hc : ∀ (x : ByteArray) (w : World), x.size ≤ 100000 → Fn Try.prog 19 [.string x, .int .i64 (W : Int)] w (CostRes x W w) := fun x w hx => cost_fn x W w (by omega) (by omega)
  refine call (hc s w1 (by omega)) ?_
  rintro v w2 ⟨rfl, hE2⟩
  refine new (fun w3 hE3 hz3 hB3 => ?_)
  refine storeN_blk0 hB3 rfl (sc rfl) (fun w4 hg4 _ hB4 => ?_)
  have hE14 := hE2.trans (newBox hE3 hB3 hg4)
  refine call (hc t w4 (by omega)) ?_
  rintro v w5 ⟨rfl, hE5⟩
  refine new (fun w6 hE6 hz6 hB6 => ?_)
  refine storeN_blk0 hB6 rfl (sc rfl) (fun w7 hg7 _ hB7 => ?_)
  have hE47 := hE5.trans (newBox hE6 hB6 hg7)
  refine need (by show _ + 1 ≤ _; unfold maxLen; omega) ?_
  have hsz1 : (s ++ (⟨#[10]⟩ : ByteArray)).size = s.size + 1 := by rw [ByteArray.size_append]; rfl
  refine need (by unfold maxLen; omega) ?_
  refine call (hc (s ++ (⟨#[10]⟩ : ByteArray) ++ t) w7 (by rw [ByteArray.size_append, hsz1]; omega)) ?_
  rintro v w8 ⟨rfl, hE8⟩
  refine new (fun w9 hE9 hz9 hB9 => ?_)
  refine storeN_blk0 hB9 rfl (sc rfl) (fun w10 hg10 _ hB10 => ?_)
  have hE710 := hE8.trans (newBox hE9 hB9 hg10)
  refine norm_i64_to ((W + 1 : Nat) : Int) (by omega) (by omega) ?_
  refine call (cost_fn s ((W + 1 : Nat) : Int) w10 (by omega) (by omega)) ?_
  rintro v w11 ⟨rfl, hE11⟩
  refine new (fun w12 hE12 hz12 hB12 => ?_)
  refine storeN_blk0 hB12 rfl (sc rfl) (fun w13 hg13 _ hB13 => ?_)
  have hE1013 := hE11.trans (newBox hE12 hB12 hg13)
  have hE113 := hE14.trans (hE47.trans (hE710.trans hE1013))
  have ha := hB4.ext (hE47.trans (hE710.trans hE1013))
  have hb := hB7.ext (hE710.trans hE1013)
  have hcc := hB10.ext hE1013
  have hj : costL W (bytesOf (s ++ (⟨#[10]⟩ : ByteArray) ++ t)) 0 = ((costL W (bytesOf s) 0).1 + (costL W (bytesOf t) 0).1, (costL W (bytesOf s) 0).2 + (costL W (bytesOf t) 0).2 + 1) := by
    rw [bytesOf_app, bytesOf_app, show bytesOf ⟨#[10]⟩ = [10] from rfl, List.append_assoc]
    exact costL_join W (bytesOf s) (bytesOf t) 0
  have hwd := costL_wide W (bytesOf s) 0
  have hlg := longL_cost W (bytesOf s) 0
  refine load_blk hcc rfl ?_
  refine load_blk ha rfl ?_
  refine load_blk hb rfl ?_
  refine norm_i64_to (((costL W (bytesOf s) 0).1 + (costL W (bytesOf t) 0).1 : Nat) : Int) (by omega) (by omega) ?_
  refine wif_nef (by rw [hj]) ?_
  refine load_blk hcc rfl ?_
  refine load_blk ha rfl ?_
  refine load_blk hb rfl ?_
  refine norm_i64_to (((costL W (bytesOf s) 0).2 + (costL W (bytesOf t) 0).2 : Nat) : Int) (by omega) (by omega) ?_
  refine norm_i64_to (((costL W (bytesOf s) 0).2 + (costL W (bytesOf t) 0).2 + 1 : Nat) : Int) (by omega) (by omega) ?_
  refine wif_nef (by rw [hj]) ?_
  refine load_blk hB13 rfl ?_
  refine load_blk ha rfl ?_
  refine wif_df (by show ¬ ((costL (W + 1) (bytesOf s) 0).1 : Int) > _; omega) ?_
  refine load_blk hB13 rfl ?_
  refine load_blk ha rfl ?_
  refine wif_nef (by show ((costL (W + 1) (bytesOf s) 0).2 : Int) = _; omega) ?_
  refine loop gx_ok [12, 13, 14] (fun u : Nat × Nat × Nat => [.int .i64 u.1, .int .i64 u.2.1, .int .i64 u.2.2]) (fun u w' => w13 = w' ∧ u.1 ≤ u.2.2 ∧ u.2.1 ≤ u.2.2 ∧ u.2.2 ≤ s.size ∧ longL (bytesOf s) 0 = max u.1 (longL ((bytesOf s).drop u.2.2) u.2.1)) (fun u _ => s.size - u.2.2) (0, 0, 0) rfl ⟨rfl, Nat.le_refl _, Nat.le_refl _, Nat.zero_le _, by simp⟩ ?_
  rintro ⟨lg, n, i⟩ _ ⟨rfl, hl1, hl2, hi, hlong⟩
  dsimp only at hl1 hl2 hi hlong ⊢
  refine wif_d (fun g1 => ?_) (fun g1 => ?_)
  · have hib : i < (bytesOf s).length := by rw [bytesOf_length]; omega
    have hxi : (bytesOf s)[i]? = some (bytesOf s)[i] := List.getElem?_eq_getElem hib
    have hdr : (bytesOf s).drop i = (bytesOf s)[i] :: (bytesOf s).drop (i + 1) := List.drop_eq_getElem_cons hib
    generalize (bytesOf s)[i] = x at hxi hdr
    rw [hdr, longL] at hlong
    refine norm_i64_to ((n + 1 : Nat) : Int) (by omega) (by omega) ?_
    refine cutIn [] gx_ok [13] (fun m : Nat => [.int .i64 m]) (fun m w' => w13 = w' ∧ m = if x = 10 then 0 else n + 1) ?_ ?_
    · refine sindex' (by omega) (fun y hy _ => ?_)
      have hyx : y = x := Option.some.inj (hy.symm.trans hxi)
      subst hyx
      refine wif_eq (fun h3 => ?_) (fun h3 => ?_)
      · exact ⟨0, rfl, rfl, by rw [if_pos (by omega)]⟩
      · exact ⟨n + 1, rfl, rfl, by rw [if_neg (by omega)]⟩
    rintro m _ ⟨rfl, hm⟩
    have hm2 : m ≤ n + 1 := by rw [hm]; split <;> omega
    refine norm (m := ((max lg m : Nat) : Int)) (by split <;> omega) ?_
    refine norm_i64_to ((i + 1 : Nat) : Int) (by omega) (by omega) ?_
    refine ⟨(max lg m, m, i + 1), rfl, ⟨rfl, by dsimp only; omega, by dsimp only; omega, by dsimp only; omega, ?_⟩, by show s.size - (i + 1) < s.size - i; omega⟩
    dsimp only
    rw [hlong, hm]
    split
    · simp
    · omega
  · have : i = s.size := by omega
    subst this
    rw [List.drop_of_length_le (by rw [bytesOf_length]; omega), longL] at hlong
    refine load_blk ha rfl ?_
    refine wif_t ?_ ?_
    · simp only [beq_iff_eq]
      have e1 : ((((costL W (bytesOf s) 0).1 : Nat) : Int) == 0) = decide ((costL W (bytesOf s) 0).1 = 0) := by
        by_cases h : (costL W (bytesOf s) 0).1 = 0
        · simp [h]
        · simp [h]
      have e2 : decide (((lg : Nat) : Int) ≤ ((W : Nat) : Int)) = decide ((costL W (bytesOf s) 0).1 = 0) := by
        apply decide_eq_decide.2
        rw [hlg]
        omega
      rw [e1, e2]
    refine call (cost_fn s (-5) w13 (by omega) (by omega)) ?_
    rintro v w14 ⟨rfl, hE14'⟩
    refine call (cost_fn s 0 w14 (by omega) (by omega)) ?_
    rintro v w15 ⟨rfl, hE15⟩
    refine wif_t (by simp) ?_
    exact ⟨rfl, hE1.trans (hE113.trans (hE14'.trans hE15))⟩
end Go.Proofs.Ytgaggbmoimablaa
