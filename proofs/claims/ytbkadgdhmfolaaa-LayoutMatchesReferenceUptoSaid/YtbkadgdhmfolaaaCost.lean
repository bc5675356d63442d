/-
  Cost, the program's and the reference's: the contracts.
  Conditions: none.
-/
import Derived.Test.YtbkadgdhmfolaaaDoc9
import Derived.Lib.IndexLaws
namespace Go.Proofs.Ytbkadgdhmfolaaa
open Go Go.RowKit

/-- The cost of a text's rest, n bytes of whose line are already behind us: (bytes beyond, line feeds). -/
def costL (w : Nat) : List Nat → Nat → Nat × Nat
  | [], _ => (0, 0)
  | x :: l, n => if x = 10 then ((costL w l 0).1, (costL w l 0).2 + 1) else ((if n + 1 > w then 1 else 0) + (costL w l (n + 1)).1, (costL w l (n + 1)).2)

theorem costL_app (w : Nat) : ∀ (s l : List Nat) (n : Nat), 10 ∉ s → costL w (s ++ l) n = ((n + s.length - w) - (n - w) + (costL w l (n + s.length)).1, (costL w l (n + s.length)).2)
  | [], l, n, _ => by simp
  | x :: s, l, n, h => by
    have hx : ¬ x = 10 := fun e => h (by simp [e])
    have ih := costL_app w s l (n + 1) (fun hm => h (by simp [hm]))
    simp only [List.cons_append, costL, if_neg hx, ih, List.length_cons]
    rw [show n + 1 + s.length = n + (s.length + 1) by omega]
    ext
    · dsimp only
      split <;> omega
    · rfl
theorem costL_line (w : Nat) {s : List Nat} (h : 10 ∉ s) : costL w s 0 = (s.length - w, 0) := by
  have := costL_app w s [] 0 h
  simpa [costL] using this
theorem costL_cons (w : Nat) {s : List Nat} (h : 10 ∉ s) (l : List Nat) : costL w (s ++ 10 :: l) 0 = (s.length - w + (costL w l 0).1, (costL w l 0).2 + 1) := by
  rw [costL_app w s _ 0 h]
  simp [costL]
theorem costL_le (w : Nat) : ∀ (l : List Nat) (n : Nat), (costL w l n).1 ≤ l.length ∧ (costL w l n).2 ≤ l.length
  | [], n => by simp [costL]
  | x :: l, n => by
    have h1 := costL_le w l 0
    have h2 := costL_le w l (n + 1)
    simp only [costL]
    split
    · simp; omega
    · simp only [List.length_cons]; split <;> omega

theorem bytesOf_extract (s : ByteArray) (a b : Nat) : bytesOf (s.extract a b) = ((bytesOf s).take b).drop a := by
  simp only [bytesOf, ByteArray.data_extract, Array.toList_extract, List.map_drop, List.map_take]
  simp [List.drop_take]

theorem index10 (s : ByteArray) : (∃ a b, bytesOf s = a ++ 10 :: b ∧ 10 ∉ a ∧ Lib.indexByte s.data.toList 10 = (a.length : Int)) ∨ (10 ∉ bytesOf s ∧ Lib.indexByte s.data.toList 10 = -1) := by
  have hge := Lib.indexByte_ge s.data.toList 10
  by_cases h : Lib.indexByte s.data.toList 10 = -1
  · right
    refine ⟨fun hm => ?_, h⟩
    have h2 := (indexByte_mem 10 s.data.toList).2 ((mem_bytesOf s 10).2 hm)
    omega
  · left
    have h2 : Lib.indexByte s.data.toList 10 = ((Lib.indexByte s.data.toList 10).toNat : Int) := by omega
    obtain ⟨h3, h4⟩ := Lib.indexByte_some h2
    generalize (Lib.indexByte s.data.toList 10).toNat = k at *
    have hk : k < s.data.toList.length := (List.getElem?_eq_some_iff.1 h3).1
    refine ⟨(bytesOf s).take k, (bytesOf s).drop (k + 1), ?_, ?_, ?_⟩
    · have e : (bytesOf s)[k]? = some 10 := by
        unfold bytesOf
        rw [List.getElem?_map, h3]; rfl
      have hkl : k < (bytesOf s).length := (List.getElem?_eq_some_iff.1 e).1
      have e2 : (bytesOf s).drop k = 10 :: (bytesOf s).drop (k + 1) := by
        rw [List.drop_eq_getElem_cons hkl]
        congr 1
        exact (List.getElem?_eq_some_iff.1 e).2
      rw [← e2, List.take_append_drop]
    · intro hm
      obtain ⟨j, hj, hj2⟩ := List.mem_iff_getElem.1 hm
      simp at hj
      rw [List.getElem_take] at hj2
      have hjs : j < s.data.toList.length := by omega
      apply h4 j (by omega)
      have : (bytesOf s)[j]? = some 10 := by rw [← hj2]; exact List.getElem?_eq_getElem _
      unfold bytesOf at this
      rw [List.getElem?_map, List.getElem?_eq_getElem hjs] at this
      rw [List.getElem?_eq_getElem hjs]
      simp only [Option.map_some, Option.some.injEq] at this
      congr 1
      exact UInt8.toNat_inj.1 this
    · rw [h2]
      have : k ≤ (bytesOf s).length := by rw [bytesOf_length]; simp at hk; exact Nat.le_of_lt hk
      simp [Nat.min_eq_left this]

/-- What Cut leaves. -/
def CutRes (s : ByteArray) (w : World) (v : Value) (w' : World) : Prop :=
  Ext w w' ∧ ((∃ a b : ByteArray, v = .tuple #[.string a, .string b, .bool true] ∧ bytesOf s = bytesOf a ++ 10 :: bytesOf b ∧ 10 ∉ bytesOf a) ∨ (v = .tuple #[.string s, .string ⟨#[]⟩, .bool false] ∧ 10 ∉ bytesOf s))

theorem cut1_fn (s : ByteArray) (w : World) (hs : s.size ≤ maxLen) : Fn Try.prog 57 [.string s, .string ⟨#[10]⟩] w (CutRes s w) := by
  refine fn_of_exec (c := c57) gx_ok Try.func57 rfl rfl rfl ?_
  refine call (fn_of_calls (Try.stringslite_Index_one s 10 w)) ?_
  rintro v w' ⟨rfl, rfl⟩
  rcases index10 s with ⟨a, b, hab, ha, hi⟩ | ⟨hno, hi⟩
  · have hl : s.size = a.length + 1 + b.length := by rw [← bytesOf_length, hab]; simp; omega
    rw [hi]
    refine wif_dt (by omega) ?_
    unfold maxLen at hs
    refine draw gx_ok (by kernel_rfl) ?_
    refine need ⟨by omega, by omega, by omega⟩ ?_
    refine norm_i64_to ((a.length + 1 : Nat) : Int) (by simp; rfl) (by omega) ?_
    refine need ⟨by omega, by omega, by omega⟩ ?_
    intro w2 hE2
    refine ⟨hE2, .inl ⟨_, _, rfl, ?_, ?_⟩⟩
    · rw [bytesOf_extract, bytesOf_extract, hab]
      simp
      rw [List.take_of_length_le (by simp; omega)]
      simp
    · rw [bytesOf_extract, hab]; simpa using ha
  · rw [hi]
    refine wif_df (by omega) ?_
    exact ⟨Ext.refl _, .inr ⟨rfl, hno⟩⟩

theorem cut_fn (s : ByteArray) (w : World) (hs : s.size ≤ maxLen) : Fn Try.prog 45 [.string s, .string ⟨#[10]⟩] w (CutRes s w) := by
  refine fn_of_exec (c := c45) gx_ok Try.func45 rfl rfl rfl ?_
  refine call (cut1_fn s w hs) ?_
  rintro v w' ⟨hE, ⟨a, b, rfl, h1, h2⟩ | ⟨rfl, h1⟩⟩
  · exact ⟨hE, .inl ⟨a, b, rfl, h1, h2⟩⟩
  · exact ⟨hE, .inr ⟨rfl, h1⟩⟩

def CostRes (s : ByteArray) (width : Nat) (w : World) (v : Value) (w' : World) : Prop := v = .agg #[.int .i64 (costL width (bytesOf s) 0).1, .int .i64 (costL width (bytesOf s) 0).2] ∧ Ext w w'

theorem cost_fn (s : ByteArray) (width : Int) (w : World) (hs : s.size ≤ 140737488355328) (hw : width ≤ 9223372036854775807) : Fn Try.prog 23 [.string s, .int .i64 width] w (CostRes s width.toNat w) := by
  refine fn_of_exec (c := c23) gx_ok Try.func23 rfl rfl rfl ?_
  refine new (fun w1 hE1 hz1 hB1 => ?_)
  refine norm (m := ((width.toNat : Nat) : Int)) (by split <;> omega) ?_
  refine new (fun w2 hE2 hz2 hB2 => ?_)
  have hE12 := hE1.trans hE2
  refine loop gx_ok [0] (fun t : ByteArray × Nat × Nat => [.string t.1]) (fun t w' => Ext w w' ∧ Blk w' w.heap.size 29 [.int .i64 0, .int .i64 0] ∧ Blk w' w1.heap.size 29 [.int .i64 t.2.1, .int .i64 t.2.2] ∧ t.1.size ≤ s.size ∧ (costL width.toNat (bytesOf s) 0).1 = t.2.1 + (costL width.toNat (bytesOf t.1) 0).1 ∧ (costL width.toNat (bytesOf s) 0).2 = t.2.2 + (costL width.toNat (bytesOf t.1) 0).2) (fun t _ => t.1.size) (s, 0, 0) rfl ⟨hE12, hB1.ext hE2, hB2, Nat.le_refl _, by simp, by simp⟩ ?_
  rintro ⟨t, b, l⟩ w3 ⟨hE3, hBr, hBc, hsz, hb, hl⟩
  dsimp only at hsz hb hl hBc ⊢
  refine call (cut_fn t w3 (by unfold maxLen; omega)) ?_
  rintro v w4 ⟨hE4, hcut⟩
  have hle := costL_le width.toNat (bytesOf s) 0
  rw [bytesOf_length] at hle
  have hB4 := hBc.ext hE4
  have hne : w.heap.size ≠ w1.heap.size := by omega
  rcases hcut with ⟨x, y, rfl, hxy, hx⟩ | ⟨rfl, hx⟩
  · have hcx := costL_cons width.toNat hx (bytesOf y)
    rw [← hxy] at hcx
    rw [hcx] at hb hl
    dsimp only at hb hl
    have hxs : t.size = x.size + 1 + y.size := by rw [← bytesOf_length, ← bytesOf_length, ← bytesOf_length, hxy]; simp; omega
    rw [bytesOf_length] at hb
    refine load_blk hB4 rfl ?_
    refine norm_i64_to ((x.size : Int) - (width.toNat : Int)) rfl (by omega) ?_
    refine norm (m := ((x.size - width.toNat : Nat) : Int)) (by split <;> omega) ?_
    refine norm_i64_to ((b + (x.size - width.toNat) : Nat) : Int) (by omega) (by omega) ?_
    refine store_mod hB4 (by simp) (fun w5 hm5 hB5 => ?_)
    refine wif_f rfl ?_
    refine load_blk hB5 rfl ?_
    refine norm_i64_to ((l + 1 : Nat) : Int) (by omega) (by omega) ?_
    refine store_mod hB5 (by simp) (fun w6 hm6 hB6 => ?_)
    have hm56 := hm5.trans hm6 (fun i hi => .inl hi)
    refine ⟨(y, b + (x.size - width.toNat), l + 1), rfl, ⟨hm56.ext (hE3.trans hE4) (fun i hi => by have := hE1.size; omega), (hBr.ext hE4).mod hm56 (by omega), hB6, by dsimp only; omega, by dsimp only; omega, by dsimp only; omega⟩, by show y.size < t.size; omega⟩
  · have hcx := costL_line width.toNat hx
    rw [hcx, bytesOf_length] at hb
    rw [hcx] at hl
    dsimp only at hb hl
    refine load_blk hB4 rfl ?_
    refine norm_i64_to ((t.size : Int) - (width.toNat : Int)) rfl (by omega) ?_
    refine norm (m := ((t.size - width.toNat : Nat) : Int)) (by split <;> omega) ?_
    refine norm_i64_to ((b + (t.size - width.toNat) : Nat) : Int) (by omega) (by omega) ?_
    refine store_mod hB4 (by simp) (fun w5 hm5 hB5 => ?_)
    refine wif_t rfl ?_
    refine loadN_blk0 hB5 rfl ?_
    have hBr5 := (hBr.ext hE4).mod hm5 (by omega)
    refine storeN_blk0 hBr5 rfl (sc rfl) (fun w6 hg6 _ hB6 => ?_)
    refine loadN_blk0 hB6 rfl ?_
    refine ⟨?_, (hm5.ext (hE3.trans hE4) (fun i hi => by have := hE1.size; omega)).own hg6 (Nat.le_refl _)⟩
    rw [hb, hl]
    rfl

theorem rcost_fn (s : ByteArray) (width : Int) (w : World) (hs : s.size ≤ 140737488355328) : Fn Try.prog 37 [.string s, .int .i64 width] w (CostRes s width.toNat w) := by
  refine fn_of_exec (c := { c37 with cuts := [3, 6] }) gx_ok Try.func37 rfl rfl rfl ?_
  have hle := costL_le width.toNat (bytesOf s) 0
  rw [bytesOf_length] at hle
  refine new (fun w1 hE1 hz1 hB1 => ?_)
  refine new (fun w2 hE2 hz2 hB2 => ?_)
  refine storeN_blk0 hB2 rfl (sc rfl) (fun w3 hg3 _ hB3 => ?_)
  have hm3 : Mod (· = w1.heap.size) w2 w3 := Mod.of_grown hg3 rfl
  have hE12 := hE1.trans hE2
  have hz0 := hE1.size
  refine cut0In [6] gx_ok (fun w' => Ext w w' ∧ Blk w' w.heap.size 29 [.int .i64 0, .int .i64 0] ∧ Blk w' w1.heap.size 29 [.int .i64 (costL width.toNat (bytesOf s) 0).1, .int .i64 (costL width.toNat (bytesOf s) 0).2]) ?_ ?_
  · refine loop gx_ok [7, 6] (fun t : Nat × Nat × Nat × Nat => [.int .i64 t.1, .int .i64 t.2.1]) (fun t w' => Ext w w' ∧ Blk w' w.heap.size 29 [.int .i64 0, .int .i64 0] ∧ Blk w' w1.heap.size 29 [.int .i64 t.2.2.1, .int .i64 t.2.2.2] ∧ t.1 ≤ s.size ∧ t.2.1 ≤ t.1 ∧ (costL width.toNat (bytesOf s) 0).1 = t.2.2.1 + (costL width.toNat ((bytesOf s).drop t.1) t.2.1).1 ∧ (costL width.toNat (bytesOf s) 0).2 = t.2.2.2 + (costL width.toNat ((bytesOf s).drop t.1) t.2.1).2) (fun t _ => s.size - t.1) (0, 0, 0, 0) rfl ⟨hm3.ext hE12 (fun i hi => by omega), (hB1.ext hE2).mod hm3 (by omega), hB3, Nat.zero_le _, Nat.le_refl _, by simp, by simp⟩ ?_
    rintro ⟨i, n, b, l⟩ w4 ⟨hE4, hBr, hBc, hi, hn, hb, hl⟩
    dsimp only at hi hn hb hl hBc ⊢
    refine wif_d (fun h2 => ?_) (fun h2 => ?_)
    · have hii : i < s.size := by omega
      have hbl := costL_le width.toNat (bytesOf s) 0
      rw [bytesOf_length] at hbl
      have hib : i < (bytesOf s).length := by rw [bytesOf_length]; exact hii
      have hxi : (bytesOf s)[i]? = some (bytesOf s)[i] := List.getElem?_eq_getElem hib
      have hdr : (bytesOf s).drop i = (bytesOf s)[i] :: (bytesOf s).drop (i + 1) := List.drop_eq_getElem_cons hib
      generalize (bytesOf s)[i] = x at hxi hdr
      rw [hdr] at hb hl
      refine cutIn [] gx_ok [6] (fun t : Nat × Nat × Nat => [.int .i64 t.1]) (fun t w' => Ext w w' ∧ Blk w' w.heap.size 29 [.int .i64 0, .int .i64 0] ∧ Blk w' w1.heap.size 29 [.int .i64 t.2.1, .int .i64 t.2.2] ∧ t.1 ≤ i + 1 ∧ (costL width.toNat (bytesOf s) 0).1 = t.2.1 + (costL width.toNat ((bytesOf s).drop (i + 1)) t.1).1 ∧ (costL width.toNat (bytesOf s) 0).2 = t.2.2 + (costL width.toNat ((bytesOf s).drop (i + 1)) t.1).2) ?_ ?_
      · refine norm_i64_to ((n + 1 : Nat) : Int) (by omega) (by omega) ?_
        refine sindex' hii (fun y hy _ => ?_)
        have hyx : y = x := Option.some.inj (hy.symm.trans hxi)
        subst hyx
        simp only [costL] at hb hl
        refine wif_eq (fun h3 => ?_) (fun h3 => ?_)
        · rw [if_pos (show y = 10 by omega)] at hb hl
          dsimp only at hb hl
          refine load_blk hBc rfl ?_
          refine norm_i64_to ((l + 1 : Nat) : Int) (by omega) (by omega) ?_
          refine store_mod hBc (by simp) (fun w5 hm5 hB5 => ?_)
          exact ⟨(0, b, l + 1), rfl, hm5.ext hE4 (fun i hi => by omega), hBr.mod hm5 (by omega), hB5, by dsimp only; omega, by dsimp only; omega, by dsimp only; omega⟩
        · rw [if_neg (show ¬ y = 10 by omega)] at hb hl
          dsimp only at hb hl
          refine wif_d (fun h4 => ?_) (fun h4 => ?_)
          · rw [if_pos (by omega)] at hb
            refine load_blk hBc rfl ?_
            refine norm_i64_to ((b + 1 : Nat) : Int) (by omega) (by omega) ?_
            refine store_mod hBc (by simp) (fun w5 hm5 hB5 => ?_)
            exact ⟨(n + 1, b + 1, l), rfl, hm5.ext hE4 (fun i hi => by omega), hBr.mod hm5 (by omega), hB5, by dsimp only; omega, by dsimp only; omega, by dsimp only; omega⟩
          · rw [if_neg (by omega)] at hb
            exact ⟨(n + 1, b, l), rfl, hE4, hBr, hBc, by dsimp only; omega, by dsimp only; omega, by dsimp only; omega⟩
      rintro ⟨n', b', l'⟩ w5 ⟨hE5, hBr5, hBc5, hn5, hb5, hl5⟩
      dsimp only at hn5 hb5 hl5 hBc5 ⊢
      refine norm_i64_to ((i + 1 : Nat) : Int) (by omega) (by omega) ?_
      exact ⟨(i + 1, n', b', l'), rfl, ⟨hE5, hBr5, hBc5, by dsimp only; omega, hn5, hb5, hl5⟩, by show s.size - (i + 1) < s.size - i; omega⟩
    · have : i = s.size := by omega
      subst this
      rw [List.drop_of_length_le (by rw [bytesOf_length]; omega)] at hb hl
      refine ⟨rfl, hE4, hBr, ?_⟩
      rw [hb, hl]; exact hBc
  rintro w5 ⟨hE5, hBr, hBc⟩
  refine loadN_blk0 hBc rfl ?_
  refine storeN_blk0 hBr rfl (sc rfl) (fun w6 hg6 _ hB6 => ?_)
  refine loadN_blk0 hB6 rfl ?_
  exact ⟨rfl, hE5.own hg6 (Nat.le_refl _)⟩
end Go.Proofs.Ytbkadgdhmfolaaa
