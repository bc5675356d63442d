/-
  The reference's formulas: letters, identifiers, index, names.
  The reference's formulas: tokens.
  The reference's parser: its state, next, put.
  The reference's parser: conjunctions, expressions. (Printed by rx.py.)
  The reference's parser: factors.
  The reference's Parse.
  Conditions: none.
-/
import Derived.Test.YtdbhjlpkopnebaaGreatDoorKj
namespace Go.Proofs.YtdbhjlpkopnebaaGreatDoor
section
open Go Go.RowKit

theorem isLet_iff (b : Nat) : isLet b = true ↔ (97 ≤ b ∧ b ≤ 122) ∨ (65 ≤ b ∧ b ≤ 90) ∨ b = 95 := by
  unfold isLet; simp; omega
theorem isLet_no {b : Nat} (h : ¬ ((97 ≤ b ∧ b ≤ 122) ∨ (65 ≤ b ∧ b ≤ 90) ∨ b = 95)) : isLet b = false := by
  rw [← Bool.not_eq_true]; exact fun e => h ((isLet_iff b).1 e)
theorem bool_v {p : Prop} [Decidable p] {b : Bool} (h : b = true ↔ p) : (Value.bool (decide p)) = .bool b := by
  congr 1
  rw [Bool.eq_iff_iff, decide_eq_true_eq, h]
theorem bool_e {x y : Int} {b : Bool} (h : b = true ↔ x = y) : (Value.bool (x == y)) = .bool b := by
  congr 1
  rw [Bool.eq_iff_iff, beq_iff_eq, h]

theorem letter_fn (b : Nat) (w : World) : Fn Tryz.prog 93 [.int .u8 b] w (fun v w' => v = .bool (isLet b) ∧ w = w') := by
  have hi := isLet_iff b
  refine fn_of_exec (c := c93) gx_ok Tryz.func93 rfl rfl rfl ?_
  refine wif_d (fun h1 => ?_) (fun h1 => ?_)
  · refine wif_d (fun h2 => ?_) (fun h2 => ?_)
    · exact ⟨by rw [hi.2 (by omega)], rfl⟩
    · refine wif_d (fun h3 => ?_) (fun h3 => ?_)
      · refine wif_d (fun h4 => ?_) (fun h4 => ?_)
        · exact absurd h1 (by omega)
        · exact ⟨bool_e (by rw [hi]; omega), rfl⟩
      · exact absurd h3 (by omega)
  · refine wif_d (fun h3 => ?_) (fun h3 => ?_)
    · refine wif_d (fun h4 => ?_) (fun h4 => ?_)
      · exact ⟨by rw [hi.2 (by omega)], rfl⟩
      · exact ⟨bool_e (by rw [hi]; omega), rfl⟩
    · exact ⟨bool_e (by rw [hi]; omega), rfl⟩

/-- An identifier, as the reference sees it. -/
def identB (s : List Nat) : Bool := isWord s && s.all isId
theorem isId_or (b : Nat) : isId b = true ↔ isLet b = true ∨ (48 ≤ b ∧ b ≤ 57) := by
  unfold isId isDig; simp
def okAt (s : List Nat) (i : Nat) : Prop := ∃ b, s[i]? = some b ∧ (isLet b = true ∨ (i ≠ 0 ∧ 48 ≤ b ∧ b ≤ 57))
theorem identB_iff (s : List Nat) : identB s = true ↔ s ≠ [] ∧ ∀ i, i < s.length → okAt s i := by
  unfold identB
  rw [Bool.and_eq_true]
  constructor
  · rintro ⟨h1, h2⟩
    cases s with
    | nil => cases h1
    | cons b r =>
      refine ⟨by simp, fun i hi => ?_⟩
      have hx := List.getElem?_eq_getElem hi
      refine ⟨_, hx, ?_⟩
      cases i with
      | zero => exact .inl h1
      | succ i =>
        have := List.all_eq_true.1 h2 _ (List.getElem_mem hi)
        rcases (isId_or _).1 this with h | h
        · exact .inl h
        · exact .inr ⟨by omega, h⟩
  · rintro ⟨h1, h2⟩
    cases s with
    | nil => exact absurd rfl h1
    | cons b r =>
      refine ⟨?_, List.all_eq_true.2 (fun x hx => ?_)⟩
      · obtain ⟨c, hc, h⟩ := h2 0 (by simp)
        simp at hc; subst hc
        rcases h with h | h
        · exact h
        · exact absurd rfl h.1
      · obtain ⟨i, hi, rfl⟩ := List.mem_iff_getElem.1 hx
        obtain ⟨c, hc, h⟩ := h2 i hi
        rw [List.getElem?_eq_getElem hi] at hc
        cases hc
        rw [isId_or]
        rcases h with h | h
        · exact .inl h
        · exact .inr h.2

theorem ident_fn (s : List Nat) (w : World) (hs : ∀ x ∈ s, x < 256) (hl : s.length ≤ 9223372036854775807) :
    Fn Tryz.prog 71 [.string (strOf s)] w (fun v w' => v = .bool (identB s) ∧ w = w') := by
  have hsz : (strOf s).size = s.length := strOf_size s
  have hby : bytesOf (strOf s) = s := bytesOf_strOf hs
  refine fn_of_exec (c := { c71 with cuts := [] }) gx_ok Tryz.func71 rfl rfl rfl ?_
  refine loop gx_ok [3] (fun i : Nat => [.int .i64 i]) (fun i w' => w = w' ∧ i ≤ s.length ∧ ∀ j, j < i → okAt s j) (fun i _ => s.length - i) 0 rfl ⟨rfl, Nat.zero_le _, fun j hj => absurd hj (by omega)⟩ ?_
  rintro i w' ⟨rfl, hi, hall⟩
  refine wif_d (fun h1 => ?_) (fun h1 => ?_)
  · have next : okAt s i → ∀ j, j < i + 1 → okAt s j := fun h j hj => by
      by_cases hji : j < i
      · exact hall j hji
      · have : j = i := by omega
        subst this; exact h
    have bad : ¬ okAt s i → identB s = false := fun h => by
      rw [← Bool.not_eq_true]; exact fun e => h (((identB_iff s).1 e).2 i (by omega))
    refine sindex' (by omega) (fun x hx hx8 => ?_)
    rw [hby] at hx
    refine call (letter_fn x w) ?_
    rintro _ _ ⟨rfl, rfl⟩
    cases hlet : isLet x with
    | true =>
      refine wif_f rfl ?_
      refine norm_i64_to ((i + 1 : Nat) : Int) (by omega) (by omega) ?_
      exact ⟨i + 1, rfl, ⟨rfl, by omega, next ⟨x, hx, .inl hlet⟩⟩, by show s.length - (i + 1) < s.length - i; omega⟩
    | false =>
      have no : (i ≠ 0 → ¬ (48 ≤ x ∧ x ≤ 57)) → ¬ okAt s i := fun h ⟨b, hb, hh⟩ => by
        have : b = x := Option.some.inj (hb.symm.trans hx)
        subst this
        rcases hh with hh | hh
        · rw [hlet] at hh; cases hh
        · exact h hh.1 hh.2
      refine wif_t rfl ?_
      refine wif_eq (fun h2 => ?_) (fun h2 => ?_)
      · exact ⟨by rw [bad (no (fun h => absurd h (by omega)))], rfl⟩
      · refine sindex' (by omega) (fun y hy hy8 => ?_)
        rw [hby] at hy
        have : y = x := Option.some.inj (hy.symm.trans hx)
        subst this
        refine wif_d (fun h3 => ?_) (fun h3 => ?_)
        · exact ⟨by rw [bad (no (fun _ h => by omega))], rfl⟩
        · refine sindex' (by omega) (fun z hz hz8 => ?_)
          rw [hby] at hz
          have : z = y := Option.some.inj (hz.symm.trans hx)
          subst this
          refine wif_d (fun h4 => ?_) (fun h4 => ?_)
          · exact ⟨by rw [bad (no (fun _ h => by omega))], rfl⟩
          · refine norm_i64_to ((i + 1 : Nat) : Int) (by omega) (by omega) ?_
            exact ⟨i + 1, rfl, ⟨rfl, by omega, next ⟨z, hx, .inr ⟨by omega, by omega, by omega⟩⟩⟩, by show s.length - (i + 1) < s.length - i; omega⟩
  · refine ⟨bool_v ?_, rfl⟩
    rw [identB_iff]
    constructor
    · rintro ⟨h, _⟩
      have : s.length ≠ 0 := fun e => h (List.eq_nil_of_length_eq_zero e)
      omega
    · intro h
      refine ⟨fun e => by have : s.length = 0 := by rw [e]; rfl
                          omega, fun j hj => hall j (by omega)⟩

/-- The first place of a string in a list. -/
def ixF (l : List Nat) : List (List Nat) → Option Nat
  | [] => none
  | s :: names => if s = l then some 0 else (ixF l names).map (· + 1)
theorem ixF_some {l : List Nat} : ∀ {names : List (List Nat)} {i : Nat}, (∀ j, j < i → names[j]? ≠ some l) → names[i]? = some l → ixF l names = some i
  | [], i, _, h => by simp at h
  | s :: names, 0, _, h => by simp at h; simp [ixF, h]
  | s :: names, i + 1, hn, h => by
    have hs : s ≠ l := fun e => hn 0 (by omega) (by simp [e])
    have := ixF_some (names := names) (i := i) (fun j hj => by have := hn (j + 1) (by omega); simpa using this) (by simpa using h)
    simp [ixF, hs, this]
theorem ixF_none {l : List Nat} : ∀ {names : List (List Nat)}, l ∉ names → ixF l names = none
  | [], _ => rfl
  | s :: names, h => by
    simp only [List.mem_cons, not_or] at h
    rw [ixF, if_neg (fun e => h.1 e.symm), ixF_none h.2]; rfl
def ixI (l : List Nat) (names : List (List Nat)) : Int := match ixF l names with
  | some i => (i : Int)
  | none => -1
theorem ixF_ixN {names : List (List Nat)} (h : names.Nodup) (l : List Nat) : ixF l names = ixN names l := by
  by_cases hm : l ∈ names
  · obtain ⟨i, hi, rfl⟩ := List.mem_iff_getElem.1 hm
    have e1 : ixF names[i] names = some i := ixF_some (fun j hj e => by
      have hj' : j < names.length := by omega
      rw [List.getElem?_eq_getElem hj'] at e
      have := (List.getElem_inj h).1 (Option.some.inj e)
      omega) (List.getElem?_eq_getElem hi)
    have e2 := ixR_at names i 0 none names[i] h (List.getElem?_eq_getElem hi)
    rw [e1]; unfold ixN; rw [e2, Nat.zero_add]
  · rw [ixF_none hm]; unfold ixN; rw [ixR_no _ _ _ _ hm]
theorem ixF_mem {l : List Nat} : ∀ {names : List (List Nat)}, l ∈ names → ∃ k, ixF l names = some k
  | [], h => by cases h
  | s :: names, h => by
    by_cases e : s = l
    · exact ⟨0, by rw [ixF, if_pos e]⟩
    · obtain ⟨k, hk⟩ := ixF_mem (names := names) (by simp only [List.mem_cons] at h; exact h.resolve_left (fun e' => e e'.symm))
      exact ⟨k + 1, by rw [ixF, if_neg e, hk]; rfl⟩
theorem ixI_neg {l : List Nat} {names : List (List Nat)} : 0 ≤ ixI l names ↔ l ∈ names := by
  unfold ixI
  by_cases hm : l ∈ names
  · obtain ⟨k, hk⟩ := ixF_mem hm
    rw [hk]; simp [hm]
  · rw [ixF_none hm]; simp [hm]

theorem rindex_fn (names : List (List Nat)) (A : Option Addr) (n c : Nat) (l : List Nat) (w : World) (h : Sl w 1 A n c (strsV names)) (hb : ∀ s ∈ names, ∀ x ∈ s, x < 256) (hl : ∀ x ∈ l, x < 256) :
    Fn Tryz.prog 72 [.slice A n c, .string (strOf l)] w (fun v w' => v = .int .i64 (ixI l names) ∧ w = w') := by
  have hn : names.length = n := by have := h.len; rw [strsV_length] at this; omega
  have hn9 : n ≤ 9223372036854775807 := by have := h.le; have := h.cap; simp only [maxLen] at this; omega
  refine fn_of_exec (c := { c72 with cuts := [] }) gx_ok Tryz.func72 rfl rfl rfl ?_
  refine loop gx_ok [5] (fun s : Nat => [.int .i64 s]) (fun s w' => w = w' ∧ s ≤ n ∧ ∀ j, j < s → names[j]? ≠ some l) (fun s _ => n - s) 0 rfl ⟨rfl, Nat.zero_le _, fun j hj => absurd hj (by omega)⟩ ?_
  rintro s _ ⟨rfl, hs, hno⟩
  refine wif_d (fun h3 => ?_) (fun h3 => ?_)
  · have hgs : names[s]? = some names[s] := List.getElem?_eq_getElem (by omega)
    generalize names[s] = t at hgs
    refine index_sl h (by omega) (fun ad u hA hu hcell => ?_)
    rw [strsV_get hgs] at hu
    cases hu
    refine load hcell ?_
    have ht8 := hb t (List.mem_of_getElem? hgs)
    by_cases e : t = l
    · subst e
      refine wif_dt rfl ?_
      exact ⟨by unfold ixI; rw [ixF_some hno hgs], rfl⟩
    · refine wif_df (fun h => e (strOf_inj ht8 hl h)) ?_
      refine norm_i64_to ((s + 1 : Nat) : Int) (by omega) (by omega) ?_
      refine ⟨s + 1, rfl, ⟨rfl, by omega, fun j hj => ?_⟩, by show n - (s + 1) < n - s; omega⟩
      by_cases hjs : j < s
      · exact hno j hjs
      · have : j = s := by omega
        subst this
        rw [hgs]; exact fun h => e (Option.some.inj h)
  · refine ⟨?_, rfl⟩
    have : l ∉ names := fun hm => by
      obtain ⟨i, hi, rfl⟩ := List.mem_iff_getElem.1 hm
      exact hno i (by omega) (List.getElem?_eq_getElem hi)
    unfold ixI; rw [ixF_none this]

theorem nameOk_ident (s : List Nat) : nameOk s = true ↔ identB s = true ∧ s ≠ trueL ∧ s ≠ falseL := by
  constructor
  · intro h
    obtain ⟨h1, h2, h3⟩ := nameOk_word h
    refine ⟨?_, h2, h3⟩
    unfold identB
    rw [wordB_isWord h1]
    exact List.all_eq_true.2 h1.2
  · rintro ⟨h1, h2, h3⟩
    unfold identB at h1
    rw [Bool.and_eq_true] at h1
    cases s with
    | nil => exact absurd h1.1 (by decide)
    | cons b r =>
      have hl : isLet b = true := h1.1
      have hd : isDig b = false := by
        have := (isLet_iff b).1 hl
        unfold isDig; simp; omega
      unfold nameOk
      rw [decide_eq_true_eq]
      refine ⟨by simp, ?_, h2, h3⟩
      show (if isDig b then 0 else ((b :: r).takeWhile isId).length) = _
      rw [hd, if_neg (by decide), takeWhile_all h1.2]

theorem rnames_fn (names : List (List Nat)) (A : Option Addr) (n c : Nat) (w : World) (h : Sl w 1 A n c (strsV names)) (hb : NamesOk names) :
    Fn Tryz.prog 41 [.slice A n c] w (fun v w' => v = .bool (numsOk names) ∧ Ext w w') := by
  have hn : names.length = n := by have := h.len; rw [strsV_length] at this; omega
  have hn9 : n ≤ 9223372036854775807 := by have := h.le; have := h.cap; simp only [maxLen] at this; omega
  have hiff := numsOk_iff hb
  refine fn_of_exec (c := { c41 with cuts := [] }) gx_ok Tryz.func41 rfl rfl rfl ?_
  refine loop gx_ok [3] (fun s : Nat => [.int .i64 s]) (fun s w' => Ext w w' ∧ s ≤ n ∧ (names.take s).all nameOk = true ∧ (names.take s).Nodup) (fun s _ => n - s) 0 rfl ⟨Ext.refl w, Nat.zero_le _, rfl, by simp⟩ ?_
  rintro s w3 ⟨hE3, hs, hall, hnd⟩
  refine wif_d (fun h3 => ?_) (fun h3 => ?_)
  · have hgs : names[s]? = some names[s] := List.getElem?_eq_getElem (by omega)
    generalize names[s] = t at hgs
    obtain ⟨ht8, htl⟩ := hb t (List.mem_of_getElem? hgs)
    have e1 : ((strOf t = (⟨#[116, 114, 117, 101]⟩ : ByteArray)) ↔ t = trueL) := ⟨fun h => strOf_inj ht8 (by decide) h, fun h => by rw [h]; rfl⟩
    have e2 : ((strOf t = (⟨#[102, 97, 108, 115, 101]⟩ : ByteArray)) ↔ t = falseL) := ⟨fun h => strOf_inj ht8 (by decide) h, fun h => by rw [h]; rfl⟩
    have bad : (nameOk t ≠ true ∨ t ∈ names.take s) → numsOk names = false := fun h => by
      rw [← Bool.not_eq_true]
      intro ho
      rcases h with h | h
      · rw [not_all hgs h] at ho; cases ho
      · have hnn := (hiff.1 ho).2.1
        obtain ⟨i, hi, he⟩ := List.mem_iff_getElem.1 h
        rw [List.length_take] at hi
        rw [List.getElem_take] at he
        have hsl : s < names.length := by omega
        have : names[s] = t := by rw [List.getElem?_eq_getElem hsl] at hgs; exact Option.some.inj hgs
        have := (List.getElem_inj (h₀ := (by omega : i < names.length)) (h₁ := hsl) hnn).1 (by rw [he, this])
        omega
    have hN := h.ext hE3
    have rd : ∀ {w' : World} {K : Addr → Prop}, Ext w3 w' → (∀ p, (∀ w2, Ext w3 w2 → w2.cell? p = some (.string (strOf t))) → K p) → Index A n (s : Int) 1 K := fun {w'} {K} _ k => by
      refine index_sl hN (by omega) (fun ad u hA hu hcell => ?_)
      rw [strsV_get hgs] at hu
      cases hu
      exact k _ (fun w2 h2 => h2.cell hcell)
    refine draw_plan gx_ok (Ext w3) 31 [(true, 0), (true, 1), (true, 2), (true, 3), (false, 4), (true, 5), (true, 6), (true, 7), (true, 8), (true, 9), (true, 10), (true, 11), (true, 12), (true, 13), (true, 14), (true, 15), (true, 16), (true, 17), (true, 18), (true, 19), (true, 20), (true, 21), (true, 22), (true, 24), (true, 25), (true, 26), (true, 27), (false, 23), (false, 28), (true, 29), (true, 30)] (by kernel_rfl) (Ext.drew w3) ?_
    refine rd (Ext.refl _) (fun p hp => ?_)
    refine qload hp ?_
    refine call (ident_fn t _ ht8 htl) ?_
    rintro _ _ ⟨rfl, rfl⟩
    refine ⟨Ext.drew w3, ?_⟩
    cases hid : identB t with
    | false =>
      refine wif_t rfl ?_
      have : nameOk t ≠ true := fun h => by rw [((nameOk_ident t).1 h).1] at hid; cases hid
      exact ⟨by rw [bad (.inl this)], hE3.trans (Ext.drew w3)⟩
    | true =>
      refine wif_f rfl ?_
      refine rd (Ext.refl _) (fun p2 hp2 => ?_)
      refine qload hp2 ?_
      by_cases ht1 : t = trueL
      · refine wif_dt (e1.2 ht1) ?_
        have : nameOk t ≠ true := fun h => ((nameOk_ident t).1 h).2.1 ht1
        exact ⟨by rw [bad (.inl this)], hE3.trans (Ext.drew w3)⟩
      refine wif_df (fun h => ht1 (e1.1 h)) ?_
      refine rd (Ext.refl _) (fun p3 hp3 => ?_)
      refine qload hp3 ?_
      by_cases ht2 : t = falseL
      · refine wif_dt (e2.2 ht2) ?_
        have : nameOk t ≠ true := fun h => ((nameOk_ident t).1 h).2.2 ht2
        exact ⟨by rw [bad (.inl this)], hE3.trans (Ext.drew w3)⟩
      refine wif_df (fun h => ht2 (e2.1 h)) ?_
      refine rd (Ext.refl _) (fun p4 hp4 => ?_)
      refine qload hp4 ?_
      refine at_slice_h gx_ok rfl rfl rfl rfl rfl rfl (by have := h.le; omega) ?_
      refine ⟨Ext.drew w3, ?_⟩
      have hT : Sl w3.drew 1 A s c (strsV (names.take s)) := by
        have := (hN.ext (Ext.drew w3)).take (m := s) (by omega)
        rw [Nat.mul_one] at this
        rw [show strsV (names.take s) = (strsV names).take s by simp [strsV]]
        exact this
      refine call (rindex_fn (names.take s) A s c t _ hT (fun u hu => (hb u (List.mem_of_mem_take hu)).1) ht8) ?_
      rintro _ _ ⟨rfl, rfl⟩
      refine ⟨Ext.drew w3, ?_⟩
      have hok : nameOk t = true := (nameOk_ident t).2 ⟨hid, ht1, ht2⟩
      by_cases hm : t ∈ names.take s
      · refine wif_dt (ixI_neg.2 hm) ?_
        exact ⟨by rw [bad (.inr hm)], hE3.trans (Ext.drew w3)⟩
      · refine wif_df (fun h => hm (ixI_neg.1 h)) ?_
        refine norm_i64_to ((s + 1 : Nat) : Int) (by omega) (by omega) ?_
        refine ⟨s + 1, rfl, ⟨hE3.trans (Ext.drew w3), by omega, all_take hall hgs hok, ?_⟩, by show n - (s + 1) < n - s; omega⟩
        rw [List.take_add_one, hgs]
        simp only [Option.toList_some]
        rw [List.nodup_append]
        exact ⟨hnd, by simp, fun x hx y hy e => by simp only [List.mem_singleton] at hy; subst hy; subst e; exact hm hx⟩
  · have : s = n := by omega
    subst this
    rw [List.take_of_length_le (by omega)] at hall hnd
    exact ⟨bool_v (by rw [hiff]; exact ⟨fun h => by omega, fun h => ⟨hall, hnd, by omega⟩⟩), hE3⟩
end

end Go.Proofs.YtdbhjlpkopnebaaGreatDoor
