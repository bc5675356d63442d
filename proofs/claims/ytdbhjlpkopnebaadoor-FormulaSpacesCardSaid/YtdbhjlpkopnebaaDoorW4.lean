/-
  FormulaSpaces: the walk.
  Conditions: none.
-/
import Derived.Test.YtdbhjlpkopnebaaDoorPl2
namespace Go.Proofs.YtdbhjlpkopnebaaDoor
open Go Go.RowKit

def blanks4 : List (List Nat) := [[], [32], [9], [32, 32, 9, 32]]
theorem blanks4_get (x : Nat) : blanks4[x % 4]? = some (blankL x) := by
  unfold blankL
  have h : x % 4 = 0 ∨ x % 4 = 1 ∨ x % 4 = 2 ∨ x % 4 = 3 := by omega
  rcases h with h | h | h | h <;> rw [h] <;> rfl
theorem blank_b8 (bl : List Nat) (k : Nat) : ∀ x ∈ blank bl k, x < 256 := fun x hx => by
  rcases blank_s bl k x hx with rfl | rfl <;> decide
theorem spB_b8 (bl : List Nat) : ∀ (s : List Nat) (k : Nat), (∀ x ∈ s, x < 256) → ∀ x ∈ spB bl k s, x < 256
  | [], _, _, x, hx => by cases hx
  | b :: s, k, h, x, hx => by
    have hs : ∀ y ∈ s, y < 256 := fun y hy => h y (by simp [hy])
    rw [spB] at hx
    split at hx
    · rw [List.mem_append] at hx
      rcases hx with hx | hx
      · split at hx
        · exact blank_b8 bl k x hx
        · simp only [List.mem_append, List.mem_singleton] at hx
          rcases hx with (hx | rfl) | hx
          · exact blank_b8 bl k x hx
          · exact h x (by simp)
          · exact blank_b8 bl k x hx
      · exact spB_b8 bl s (k + 1) hs x hx
    · simp only [List.mem_cons] at hx
      rcases hx with rfl | hx
      · exact h x (by simp)
      · exact spB_b8 bl s k hs x hx

theorem spaced_fn (s bl : List Nat) (A : Option Addr) (n c : Nat) (w : World) (h : Sl w 1 A n c (bytesV bl)) (h8 : ∀ x ∈ s, x < 256) (hl : s.length ≤ 1000000) :
    Fn Tryd.prog 23 [.string (strOf s), .slice A n c] w (fun v w' => v = .string (strOf (spacedB bl s)) ∧ Ext w w') := by
  have hsz : (strOf s).size = s.length := strOf_size s
  have hby : bytesOf (strOf s) = s := bytesOf_strOf h8
  have hn : bl.length = n := by have := h.len; rw [bytesV_length] at this; omega
  have hn9 : n ≤ 9223372036854775807 := by have := h.le; have := h.cap; simp only [maxLen] at this; omega
  refine fn_of_exec (c := { c23 with cuts := [8] }) gx_ok Tryd.func23 rfl rfl rfl ?_
  refine loop gx_ok [7, 6, 5] (fun t : Nat × Nat × List Nat => [.int .i64 t.1, .int .i64 t.2.1, .string (strOf t.2.2)])
    (fun t w' => Ext w w' ∧ t.1 ≤ s.length ∧ t.2.1 ≤ t.1 ∧ t.2.2.length ≤ 9 * t.1 ∧ t.2.2 ++ spB bl t.2.1 (s.drop t.1) = spB bl 0 s) (fun t _ => s.length - t.1) (0, 0, []) rfl
    ⟨Ext.refl w, Nat.zero_le _, Nat.le_refl _, Nat.zero_le _, rfl⟩ ?_
  rintro ⟨i, k, out⟩ w1 ⟨hE1, hi, hk, hol, hout⟩
  simp only at hE1 hi hk hol hout
  refine wif_d (fun h1 => ?_) (fun h1 => ?_)
  · have h1' : i < s.length := by simp only [strOf_size] at h1; omega
    have hgi : s[i]? = some s[i] := List.getElem?_eq_getElem h1'
    generalize s[i] = b at hgi
    have hb8 := h8 b (List.mem_of_getElem? hgi)
    have hdr : s.drop i = b :: s.drop (i + 1) := by
      rw [List.drop_eq_getElem_cons h1']
      rw [List.getElem?_eq_getElem h1'] at hgi; rw [Option.some.inj hgi]
    have rd : ∀ {K : Int → Prop}, K (b : Int) → SIndex (strOf s) (i : Int) K := fun kk => sindex' (by omega) (fun x hx _ => by
      rw [hby] at hx
      have : x = b := Option.some.inj (hx.symm.trans hgi)
      subst this; exact kk)
    have hbl := blank_len bl k
    refine rd ?_
    by_cases c1 : b = 32
    · subst c1
      refine wif_eqt rfl ?_
      refine cutIn [] gx_ok [8] (fun _ : Unit => [.string (strOf (blank bl k))]) (fun _ w' => Ext w1 w') ?_ ?_
      · refine wif_d (fun h5 => ?_) (fun h5 => ?_)
        · have hkb : k < bl.length := by have : ((k : Nat) : Int) < n := h5; omega
          have hgk : bl[k]? = some bl[k] := List.getElem?_eq_getElem hkb
          generalize bl[k] = x at hgk
          have hbk : blank bl k = blankL x := by unfold blank; rw [hgk]
          refine at_buildN gx_ok (blanks4.map (fun s => [.string (strOf s)])) rfl rfl rfl rfl rfl ⟨rfl, rfl, rfl, rfl, rfl, rfl, rfl, rfl, ⟨⟩⟩ rfl (fun cs h => by simp only [List.mem_map] at h; obtain ⟨s, _, rfl⟩ := h; rfl) rfl (by decide) (by decide) ?_
          intro w2 hE2 hz2 hB2
          have hS : Sl w2 1 (some ⟨w1.heap.size, 0, none⟩) 4 4 (strsV blanks4) := Sl.own' (n := 4) hB2 rfl (by decide)
          refine index_sl (h.ext (hE1.trans hE2)) (by have : ((k : Nat) : Int) < n := h5; show k < n; omega) (fun ad u hA hu hcell => ?_)
          rw [show (bytesV bl)[(i, k, out).2.1]? = some (.int .u8 (x : Int)) from bytesV_get' hgk] at hu
          cases hu
          refine load hcell ?_
          refine norm_rem (d := 4) (by decide) ?_
          refine index_sl hS (by have := Nat.mod_lt x (show 0 < 4 by decide); omega) (fun ad u hA hu hcell => ?_)
          rw [strsV_get (blanks4_get x)] at hu
          cases hu
          refine load hcell ?_
          exact ⟨(), by rw [hbk]; rfl, hE2⟩
        · have hbk : blank bl k = [] := by
            unfold blank
            rw [List.getElem?_eq_none (by have : ¬ ((k : Nat) : Int) < n := h5; omega)]
          exact ⟨(), by rw [hbk]; rfl, Ext.refl w1⟩
      rintro ⟨⟩ w2 hE2
      refine norm_i64_to ((k + 1 : Nat) : Int) (by show ((k : Nat) : Int) + 1 = _; omega) (by omega) ?_
      refine rd ?_
      refine wif_eqt rfl ?_
      refine need_to (v' := .string (strOf (out ++ blank bl k))) (by simp only [strOf_size]; simp only [maxLen]; omega) (by rw [strOf_append]) ?_
      refine norm_i64_to ((i + 1 : Nat) : Int) (by show ((i : Nat) : Int) + 1 = _; omega) (by omega) ?_
      exact ⟨(i + 1, k + 1, out ++ blank bl k), rfl, ⟨hE1.trans hE2, by simp only; omega, by simp only; omega, by simp only [List.length_append]; omega, by simp only; rw [← hout, hdr, spB, if_pos (by decide), if_pos rfl, List.append_assoc]⟩, by show s.length - (i + 1) < s.length - i; omega⟩
    refine wif_eqf (by omega) ?_
    refine rd ?_
    by_cases c40 : b = 40
    · subst c40
      refine wif_eqt rfl ?_
      refine cutIn [] gx_ok [8] (fun _ : Unit => [.string (strOf (blank bl k))]) (fun _ w' => Ext w1 w') ?_ ?_
      · refine wif_d (fun h5 => ?_) (fun h5 => ?_)
        · have hkb : k < bl.length := by have : ((k : Nat) : Int) < n := h5; omega
          have hgk : bl[k]? = some bl[k] := List.getElem?_eq_getElem hkb
          generalize bl[k] = x at hgk
          have hbk : blank bl k = blankL x := by unfold blank; rw [hgk]
          refine at_buildN gx_ok (blanks4.map (fun s => [.string (strOf s)])) rfl rfl rfl rfl rfl ⟨rfl, rfl, rfl, rfl, rfl, rfl, rfl, rfl, ⟨⟩⟩ rfl (fun cs h => by simp only [List.mem_map] at h; obtain ⟨s, _, rfl⟩ := h; rfl) rfl (by decide) (by decide) ?_
          intro w2 hE2 hz2 hB2
          have hS : Sl w2 1 (some ⟨w1.heap.size, 0, none⟩) 4 4 (strsV blanks4) := Sl.own' (n := 4) hB2 rfl (by decide)
          refine index_sl (h.ext (hE1.trans hE2)) (by have : ((k : Nat) : Int) < n := h5; show k < n; omega) (fun ad u hA hu hcell => ?_)
          rw [show (bytesV bl)[(i, k, out).2.1]? = some (.int .u8 (x : Int)) from bytesV_get' hgk] at hu
          cases hu
          refine load hcell ?_
          refine norm_rem (d := 4) (by decide) ?_
          refine index_sl hS (by have := Nat.mod_lt x (show 0 < 4 by decide); omega) (fun ad u hA hu hcell => ?_)
          rw [strsV_get (blanks4_get x)] at hu
          cases hu
          refine load hcell ?_
          exact ⟨(), by rw [hbk]; rfl, hE2⟩
        · have hbk : blank bl k = [] := by
            unfold blank
            rw [List.getElem?_eq_none (by have : ¬ ((k : Nat) : Int) < n := h5; omega)]
          exact ⟨(), by rw [hbk]; rfl, Ext.refl w1⟩
      rintro ⟨⟩ w2 hE2
      refine norm_i64_to ((k + 1 : Nat) : Int) (by show ((k : Nat) : Int) + 1 = _; omega) (by omega) ?_
      refine rd ?_
      refine wif_eqf (by decide) ?_
      refine need_to (v' := .string (strOf (out ++ blank bl k))) (by simp only [strOf_size]; simp only [maxLen]; omega) (by rw [strOf_append]) ?_
      refine norm_i64_to ((i + 1 : Nat) : Int) (by show ((i : Nat) : Int) + 1 = _; omega) (by omega) ?_
      refine need_to (v' := .string (strOf [40])) ⟨by show (0 : Int) ≤ (i : Nat); omega, by show ((i : Nat) : Int) ≤ _; omega, by omega⟩ (by show Value.string ((strOf s).extract i (i + 1)) = _; rw [sub_str, hdr]; rfl) ?_
      refine need_to (v' := .string (strOf (out ++ blank bl k ++ [40]))) (by simp only [strOf_size, List.length_append, List.length_singleton]; simp only [maxLen]; omega) (by rw [strOf_append]) ?_
      refine need_to (v' := .string (strOf (out ++ blank bl k ++ [40] ++ blank bl k))) (by simp only [strOf_size, List.length_append, List.length_singleton]; simp only [maxLen]; omega) (by rw [strOf_append]) ?_
      refine norm_i64_to ((i + 1 : Nat) : Int) (by show ((i : Nat) : Int) + 1 = _; omega) (by omega) ?_
      exact ⟨(i + 1, k + 1, out ++ blank bl k ++ [40] ++ blank bl k), rfl, ⟨hE1.trans hE2, by simp only; omega, by simp only; omega, by simp only [List.length_append, List.length_singleton]; omega, by simp only; rw [← hout, hdr, spB, if_pos (by decide), if_neg (by decide)]; simp⟩, by show s.length - (i + 1) < s.length - i; omega⟩
    refine wif_eqf (by omega) ?_
    refine rd ?_
    by_cases c41 : b = 41
    · subst c41
      refine wif_eqt rfl ?_
      refine cutIn [] gx_ok [8] (fun _ : Unit => [.string (strOf (blank bl k))]) (fun _ w' => Ext w1 w') ?_ ?_
      · refine wif_d (fun h5 => ?_) (fun h5 => ?_)
        · have hkb : k < bl.length := by have : ((k : Nat) : Int) < n := h5; omega
          have hgk : bl[k]? = some bl[k] := List.getElem?_eq_getElem hkb
          generalize bl[k] = x at hgk
          have hbk : blank bl k = blankL x := by unfold blank; rw [hgk]
          refine at_buildN gx_ok (blanks4.map (fun s => [.string (strOf s)])) rfl rfl rfl rfl rfl ⟨rfl, rfl, rfl, rfl, rfl, rfl, rfl, rfl, ⟨⟩⟩ rfl (fun cs h => by simp only [List.mem_map] at h; obtain ⟨s, _, rfl⟩ := h; rfl) rfl (by decide) (by decide) ?_
          intro w2 hE2 hz2 hB2
          have hS : Sl w2 1 (some ⟨w1.heap.size, 0, none⟩) 4 4 (strsV blanks4) := Sl.own' (n := 4) hB2 rfl (by decide)
          refine index_sl (h.ext (hE1.trans hE2)) (by have : ((k : Nat) : Int) < n := h5; show k < n; omega) (fun ad u hA hu hcell => ?_)
          rw [show (bytesV bl)[(i, k, out).2.1]? = some (.int .u8 (x : Int)) from bytesV_get' hgk] at hu
          cases hu
          refine load hcell ?_
          refine norm_rem (d := 4) (by decide) ?_
          refine index_sl hS (by have := Nat.mod_lt x (show 0 < 4 by decide); omega) (fun ad u hA hu hcell => ?_)
          rw [strsV_get (blanks4_get x)] at hu
          cases hu
          refine load hcell ?_
          exact ⟨(), by rw [hbk]; rfl, hE2⟩
        · have hbk : blank bl k = [] := by
            unfold blank
            rw [List.getElem?_eq_none (by have : ¬ ((k : Nat) : Int) < n := h5; omega)]
          exact ⟨(), by rw [hbk]; rfl, Ext.refl w1⟩
      rintro ⟨⟩ w2 hE2
      refine norm_i64_to ((k + 1 : Nat) : Int) (by show ((k : Nat) : Int) + 1 = _; omega) (by omega) ?_
      refine rd ?_
      refine wif_eqf (by decide) ?_
      refine need_to (v' := .string (strOf (out ++ blank bl k))) (by simp only [strOf_size]; simp only [maxLen]; omega) (by rw [strOf_append]) ?_
      refine norm_i64_to ((i + 1 : Nat) : Int) (by show ((i : Nat) : Int) + 1 = _; omega) (by omega) ?_
      refine need_to (v' := .string (strOf [41])) ⟨by show (0 : Int) ≤ (i : Nat); omega, by show ((i : Nat) : Int) ≤ _; omega, by omega⟩ (by show Value.string ((strOf s).extract i (i + 1)) = _; rw [sub_str, hdr]; rfl) ?_
      refine need_to (v' := .string (strOf (out ++ blank bl k ++ [41]))) (by simp only [strOf_size, List.length_append, List.length_singleton]; simp only [maxLen]; omega) (by rw [strOf_append]) ?_
      refine need_to (v' := .string (strOf (out ++ blank bl k ++ [41] ++ blank bl k))) (by simp only [strOf_size, List.length_append, List.length_singleton]; simp only [maxLen]; omega) (by rw [strOf_append]) ?_
      refine norm_i64_to ((i + 1 : Nat) : Int) (by show ((i : Nat) : Int) + 1 = _; omega) (by omega) ?_
      exact ⟨(i + 1, k + 1, out ++ blank bl k ++ [41] ++ blank bl k), rfl, ⟨hE1.trans hE2, by simp only; omega, by simp only; omega, by simp only [List.length_append, List.length_singleton]; omega, by simp only; rw [← hout, hdr, spB, if_pos (by decide), if_neg (by decide)]; simp⟩, by show s.length - (i + 1) < s.length - i; omega⟩
    refine wif_eqf (by omega) ?_
    refine rd ?_
    by_cases c33 : b = 33
    · subst c33
      refine wif_eqt rfl ?_
      refine cutIn [] gx_ok [8] (fun _ : Unit => [.string (strOf (blank bl k))]) (fun _ w' => Ext w1 w') ?_ ?_
      · refine wif_d (fun h5 => ?_) (fun h5 => ?_)
        · have hkb : k < bl.length := by have : ((k : Nat) : Int) < n := h5; omega
          have hgk : bl[k]? = some bl[k] := List.getElem?_eq_getElem hkb
          generalize bl[k] = x at hgk
          have hbk : blank bl k = blankL x := by unfold blank; rw [hgk]
          refine at_buildN gx_ok (blanks4.map (fun s => [.string (strOf s)])) rfl rfl rfl rfl rfl ⟨rfl, rfl, rfl, rfl, rfl, rfl, rfl, rfl, ⟨⟩⟩ rfl (fun cs h => by simp only [List.mem_map] at h; obtain ⟨s, _, rfl⟩ := h; rfl) rfl (by decide) (by decide) ?_
          intro w2 hE2 hz2 hB2
          have hS : Sl w2 1 (some ⟨w1.heap.size, 0, none⟩) 4 4 (strsV blanks4) := Sl.own' (n := 4) hB2 rfl (by decide)
          refine index_sl (h.ext (hE1.trans hE2)) (by have : ((k : Nat) : Int) < n := h5; show k < n; omega) (fun ad u hA hu hcell => ?_)
          rw [show (bytesV bl)[(i, k, out).2.1]? = some (.int .u8 (x : Int)) from bytesV_get' hgk] at hu
          cases hu
          refine load hcell ?_
          refine norm_rem (d := 4) (by decide) ?_
          refine index_sl hS (by have := Nat.mod_lt x (show 0 < 4 by decide); omega) (fun ad u hA hu hcell => ?_)
          rw [strsV_get (blanks4_get x)] at hu
          cases hu
          refine load hcell ?_
          exact ⟨(), by rw [hbk]; rfl, hE2⟩
        · have hbk : blank bl k = [] := by
            unfold blank
            rw [List.getElem?_eq_none (by have : ¬ ((k : Nat) : Int) < n := h5; omega)]
          exact ⟨(), by rw [hbk]; rfl, Ext.refl w1⟩
      rintro ⟨⟩ w2 hE2
      refine norm_i64_to ((k + 1 : Nat) : Int) (by show ((k : Nat) : Int) + 1 = _; omega) (by omega) ?_
      refine rd ?_
      refine wif_eqf (by decide) ?_
      refine need_to (v' := .string (strOf (out ++ blank bl k))) (by simp only [strOf_size]; simp only [maxLen]; omega) (by rw [strOf_append]) ?_
      refine norm_i64_to ((i + 1 : Nat) : Int) (by show ((i : Nat) : Int) + 1 = _; omega) (by omega) ?_
      refine need_to (v' := .string (strOf [33])) ⟨by show (0 : Int) ≤ (i : Nat); omega, by show ((i : Nat) : Int) ≤ _; omega, by omega⟩ (by show Value.string ((strOf s).extract i (i + 1)) = _; rw [sub_str, hdr]; rfl) ?_
      refine need_to (v' := .string (strOf (out ++ blank bl k ++ [33]))) (by simp only [strOf_size, List.length_append, List.length_singleton]; simp only [maxLen]; omega) (by rw [strOf_append]) ?_
      refine need_to (v' := .string (strOf (out ++ blank bl k ++ [33] ++ blank bl k))) (by simp only [strOf_size, List.length_append, List.length_singleton]; simp only [maxLen]; omega) (by rw [strOf_append]) ?_
      refine norm_i64_to ((i + 1 : Nat) : Int) (by show ((i : Nat) : Int) + 1 = _; omega) (by omega) ?_
      exact ⟨(i + 1, k + 1, out ++ blank bl k ++ [33] ++ blank bl k), rfl, ⟨hE1.trans hE2, by simp only; omega, by simp only; omega, by simp only [List.length_append, List.length_singleton]; omega, by simp only; rw [← hout, hdr, spB, if_pos (by decide), if_neg (by decide)]; simp⟩, by show s.length - (i + 1) < s.length - i; omega⟩
    refine wif_eqf (by omega) ?_
    refine norm_i64_to ((i + 1 : Nat) : Int) (by show ((i : Nat) : Int) + 1 = _; omega) (by omega) ?_
    refine need_to (v' := .string (strOf [b])) ⟨by show (0 : Int) ≤ (i : Nat); omega, by show ((i : Nat) : Int) ≤ _; omega, by omega⟩ (by show Value.string ((strOf s).extract i (i + 1)) = _; rw [sub_str, hdr]; rfl) ?_
    refine need_to (v' := .string (strOf (out ++ [b]))) (by simp only [strOf_size, List.length_singleton]; simp only [maxLen]; omega) (by rw [strOf_append]) ?_
    refine norm_i64_to ((i + 1 : Nat) : Int) (by show ((i : Nat) : Int) + 1 = _; omega) (by omega) ?_
    exact ⟨(i + 1, k, out ++ [b]), rfl, ⟨hE1, by simp only; omega, by simp only; omega, by simp only [List.length_append, List.length_singleton]; omega, by simp only; rw [← hout, hdr, spB, if_neg (by unfold isSp; simp; omega)]; simp⟩, by show s.length - (i + 1) < s.length - i; omega⟩
  · have hie : i = s.length := by simp only [strOf_size] at h1; omega
    subst hie
    rw [List.drop_of_length_le (Nat.le_refl _)] at hout
    simp only [spB, List.append_nil] at hout
    have hsl := spB_len bl s 0
    rw [hout]
    refine need_to (v' := .string (strOf (32 :: spB bl 0 s))) (by rw [strOf_size]; show 1 + _ ≤ _; simp only [maxLen]; omega) (by rw [show (⟨#[32]⟩ : ByteArray) = strOf [32] from rfl, strOf_append]; rfl) ?_
    refine need_to (v' := .string (strOf (spacedB bl s))) (by rw [strOf_size, List.length_cons]; show _ + 1 ≤ _; simp only [maxLen]; omega) (by rw [show (⟨#[9]⟩ : ByteArray) = strOf [9] from rfl, strOf_append]; rfl) ?_
    exact ⟨rfl, hE1⟩

theorem spaces_law (l bl : List Nat) (A : Option Addr) (n c : Nat) (k : Nat) (B : Option Addr) (m d : Nat) (w : World) (h : Sl w 1 A n c (bytesV l)) (h8 : ∀ x ∈ l, x ≤ 255) (hB : Sl w 1 B m d (bytesV bl)) :
    Fn Tryd.prog 7 [.slice A n c, .int .u8 k, .slice B m d] w (fun v w' => v = .bool true ∧ Ext w w') := by
  refine fn_of_exec (c := { c7 with cuts := [] }) gx_ok Tryd.func7 rfl rfl rfl ?_
  refine call (sanity_fn w) ?_
  rintro _ w1 ⟨rfl, hE1⟩
  refine call (letters_fn 12 w1 (by decide)) ?_
  rintro _ w2 ⟨LA, lc, rfl, hE2, hL⟩
  have hE02 := hE1.trans hE2
  obtain ⟨lb, lo, ll⟩ := letters_ok 12 (by decide)
  have km : k % 12 < 12 := Nat.mod_lt _ (by decide)
  refine norm_rem (d := 12) (by decide) ?_
  refine norm_i64_to ((k % 12 : Nat) : Int) rfl (by omega) ?_
  refine norm_i64_to ((k % 12 + 1 : Nat) : Int) (by omega) (by omega) ?_
  refine call (made_fn l A n c (k % 12 + 1) w2 (h.ext hE02) h8 (by omega) (by omega)) ?_
  rintro _ w3 ⟨F, m3, cF, f, rfl, hE3, hF, hfv, hvo, hfl⟩
  have hM := madeF hfv hvo hfl
  obtain ⟨p1, p2, p3⟩ := lett_print hM (k := 12) (by decide) (by omega)
  have q1 := lett_parse hM (k := 12) (by decide) (by omega)
  refine call (print_fn (letters12.take 12) LA F 12 lc m3 cF f w3 (hL.ext hE3) lb hF (fun _ _ => by omega)) ?_
  rw [p1]
  rintro _ w4 ⟨rfl, hE4⟩
  have hE24 := hE3.trans hE4
  have hvi : VarsIn (letters12.take 12).length (treeOf f) := by rw [ll]; exact hM.vi.mono (by omega)
  have hN := nmOk_of lb lo
  have hsp := spaced_lex hN (treeOf f) hvi bl
  have q2 := parse_lex lo hN hvi (by have := hM.sz; omega) hsp
  refine call (parse_fn (letters12.take 12) LA 12 lc (prF (letters12.take 12) 0 (treeOf f)) w4 (hL.ext hE24) lb p3 (by omega)) ?_
  rw [q1]
  rintro _ w5 ⟨G, mg, cG, rfl, hE5, hG⟩
  have hE25 := hE24.trans hE5
  have hlen := spB_len bl (prF (letters12.take 12) 0 (treeOf f)) 0
  refine call (spaced_fn (prF (letters12.take 12) 0 (treeOf f)) bl B m d w5 (hB.ext (hE02.trans hE25)) p3 (by omega)) ?_
  rintro _ w6 ⟨rfl, hE6⟩
  have hE26 := hE25.trans hE6
  have b8 : ∀ x ∈ spacedB bl (prF (letters12.take 12) 0 (treeOf f)), x < 256 := fun x hx => by
    unfold spacedB at hx
    simp only [List.mem_append, List.mem_singleton] at hx
    rcases hx with (rfl | hx) | rfl
    · decide
    · exact spB_b8 bl _ 0 p3 x hx
    · decide
  refine call (parse_fn (letters12.take 12) LA 12 lc (spacedB bl (prF (letters12.take 12) 0 (treeOf f))) w6 (hL.ext hE26) lb b8 (by unfold spacedB; rw [List.length_append, List.length_append, List.length_singleton, List.length_singleton]; omega)) ?_
  rw [q2]
  rintro _ w7 ⟨X, mx, cX, rfl, hE7, hX⟩
  refine wif_t rfl ?_
  refine wif_eqt rfl ?_
  refine wif_eqt rfl ?_
  refine wif_eqt rfl ?_
  refine call (rsamef_fn G X mg cG mx cX _ _ w7 ((hG.ext hE6).ext hE7) hX) ?_
  rintro _ w8 ⟨rfl, hE8⟩
  exact ⟨by rw [decide_eq_true rfl], hE02.trans (hE26.trans (hE7.trans hE8))⟩
end Go.Proofs.YtdbhjlpkopnebaaDoor
