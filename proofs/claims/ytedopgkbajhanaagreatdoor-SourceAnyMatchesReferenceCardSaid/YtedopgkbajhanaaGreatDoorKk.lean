/-
  The reference's formulas: letters, identifiers, index, names.
  The reference's formulas: tokens.
  The reference's parser: its state, next, put.
  The reference's parser: conjunctions, expressions. (Printed by rx.py.)
  The reference's parser: factors.
  The reference's Parse.
  Conditions: none.
-/
import Derived.Test.YtedopgkbajhanaaGreatDoorKj
namespace Go.Proofs.YtedopgkbajhanaaGreatDoor
section
open Go Go.RowKit

theorem isLet_iff (b : Nat) : isLet b = true ↔ (97 ≤ b ∧ b ≤ 122) ∨ (65 ≤ b ∧ b ≤ 90) ∨ b = 95 := by
  unfold isLet; simp; omega
theorem isLet_no {b : Nat} (h : ¬ ((97 ≤ b ∧ b ≤ 122) ∨ (65 ≤ b ∧ b ≤ 90) ∨ b = 95)) : isLet b = false := by
  rw [← Bool.not_eq_true]; exact fun e => h ((isLet_iff b).1 e)
theorem bool_v {p : Prop} [Decidable p] {b : Bool} (h : b = true ↔ p) : (Value.bool (decide p)) = .bool b := by
  congr 1
  rw [Bool.eq_iff_iff, decide_eq_true_eq, h]
theorem bool_e {x y : Int} {b : Bool} (h : b = true ↔ x = y) : (Value.bool (x == y)) = .bool b := by
  congr 1
  rw [Bool.eq_iff_iff, beq_iff_eq, h]

theorem letter_fn (b : Nat) (w : World) : Fn Tryz.prog 122 [.int .u8 b] w (fun v w' => v = .bool (isLet b) ∧ w = w') := by
  have hi := isLet_iff b
  refine fn_of_exec (c := c122) gx_ok Tryz.func122 rfl rfl rfl ?_
  refine wif_d (fun h1 => ?_) (fun h1 => ?_)
  · refine wif_d (fun h2 => ?_) (fun h2 => ?_)
    · exact ⟨by rw [hi.2 (by omega)], rfl⟩
    · refine wif_d (fun h3 => ?_) (fun h3 => ?_)
      · refine wif_d (fun h4 => ?_) (fun h4 => ?_)
        · exact absurd h1 (by omega)
        · exact ⟨bool_e (by rw [hi]; omega), rfl⟩
      · exact absurd h3 (by omega)
  · refine wif_d (fun h3 => ?_) (fun h3 => ?_)
    · refine wif_d (fun h4 => ?_) (fun h4 => ?_)
      · exact ⟨by rw [hi.2 (by omega)], rfl⟩
      · exact ⟨bool_e (by rw [hi]; omega), rfl⟩
    · exact ⟨bool_e (by rw [hi]; omega), rfl⟩

/-- An identifier, as the reference sees it. -/
def identB (s : List Nat) : Bool := isWord s && s.all isId
theorem isId_or (b : Nat) : isId b = true ↔ isLet b = true ∨ (48 ≤ b ∧ b ≤ 57) := by
  unfold isId isDig; simp
def okAt (s : List Nat) (i : Nat) : Prop := ∃ b, s[i]? = some b ∧ (isLet b = true ∨ (i ≠ 0 ∧ 48 ≤ b ∧ b ≤ 57))
theorem identB_iff (s : List Nat) : identB s = true ↔ s ≠ [] ∧ ∀ i, i < s.length → okAt s i := by
  unfold identB
  rw [Bool.and_eq_true]
  constructor
  · rintro ⟨h1, h2⟩
    cases s with
    | nil => cases h1
    | cons b r =>
      refine ⟨by simp, fun i hi => ?_⟩
      have hx := List.getElem?_eq_getElem hi
      refine ⟨_, hx, ?_⟩
      cases i with
      | zero => exact .inl h1
      | succ i =>
        have := List.all_eq_true.1 h2 _ (List.getElem_mem hi)
        rcases (isId_or _).1 this with h | h
        · exact .inl h
        · exact .inr ⟨by omega, h⟩
  · rintro ⟨h1, h2⟩
    cases s with
    | nil => exact absurd rfl h1
    | cons b r =>
      refine ⟨?_, List.all_eq_true.2 (fun x hx => ?_)⟩
      · obtain ⟨c, hc, h⟩ := h2 0 (by simp)
        simp at hc; subst hc
        rcases h with h | h
        · exact h
        · exact absurd rfl h.1
      · obtain ⟨i, hi, rfl⟩ := List.mem_iff_getElem.1 hx
        obtain ⟨c, hc, h⟩ := h2 i hi
        rw [List.getElem?_eq_getElem hi] at hc
        cases hc
        rw [isId_or]
        rcases h with h | h
        · exact .inl h
        · exact .inr h.2

theorem ident_fn (s : List Nat) (w : World) (hs : ∀ x ∈ s, x < 256) (hl : s.length ≤ 9223372036854775807) :
    Fn Tryz.prog 81 [.string (strOf s)] w (fun v w' => v = .bool (identB s) ∧ w = w') := by
  have hsz : (strOf s).size = s.length := strOf_size s
  have hby : bytesOf (strOf s) = s := bytesOf_strOf hs
  refine fn_of_exec (c := { c81 with cuts := [] }) gx_ok Tryz.func81 rfl rfl rfl ?_
  refine loop gx_ok [3] (fun i : Nat => [.int .i64 i]) (fun i w' => w = w' ∧ i ≤ s.length ∧ ∀ j, j < i → okAt s j) (fun i _ => s.length - i) 0 rfl ⟨rfl, Nat.zero_le _, fun j hj => absurd hj (by omega)⟩ ?_
  rintro i w' ⟨rfl, hi, hall⟩
  refine wif_d (fun h1 => ?_) (fun h1 => ?_)
  · have next : okAt s i → ∀ j, j < i + 1 → okAt s j := fun h j hj => by
      by_cases hji : j < i
      · exact hall j hji
      · have : j = i := by omega
        subst this; exact h
    have bad : ¬ okAt s i → identB s = false := fun h => by
      rw [← Bool.not_eq_true]; exact fun e => h (((identB_iff s).1 e).2 i (by omega))
    refine sindex' (by omega) (fun x hx hx8 => ?_)
    rw [hby] at hx
    refine call (letter_fn x w) ?_
    rintro _ _ ⟨rfl, rfl⟩
    cases hlet : isLet x with
    | true =>
      refine wif_f rfl ?_
      refine norm_i64_to ((i + 1 : Nat) : Int) (by omega) (by omega) ?_
      exact ⟨i + 1, rfl, ⟨rfl, by omega, next ⟨x, hx, .inl hlet⟩⟩, by show s.length - (i + 1) < s.length - i; omega⟩
    | false =>
      have no : (i ≠ 0 → ¬ (48 ≤ x ∧ x ≤ 57)) → ¬ okAt s i := fun h ⟨b, hb, hh⟩ => by
        have : b = x := Option.some.inj (hb.symm.trans hx)
        subst this
        rcases hh with hh | hh
        · rw [hlet] at hh; cases hh
        · exact h hh.1 hh.2
      refine wif_t rfl ?_
      refine wif_eq (fun h2 => ?_) (fun h2 => ?_)
      · exact ⟨by rw [bad (no (fun h => absurd h (by omega)))], rfl⟩
      · refine sindex' (by omega) (fun y hy hy8 => ?_)
        rw [hby] at hy
        have : y = x := Option.some.inj (hy.symm.trans hx)
        subst this
        refine wif_d (fun h3 => ?_) (fun h3 => ?_)
        · exact ⟨by rw [bad (no (fun _ h => by omega))], rfl⟩
        · refine sindex' (by omega) (fun z hz hz8 => ?_)
          rw [hby] at hz
          have : z = y := Option.some.inj (hz.symm.trans hx)
          subst this
          refine wif_d (fun h4 => ?_) (fun h4 => ?_)
          · exact ⟨by rw [bad (no (fun _ h => by omega))], rfl⟩
          · refine norm_i64_to ((i + 1 : Nat) : Int) (by omega) (by omega) ?_
            exact ⟨i + 1, rfl, ⟨rfl, by omega, next ⟨z, hx, .inr ⟨by omega, by omega, by omega⟩⟩⟩, by show s.length - (i + 1) < s.length - i; omega⟩
  · refine ⟨bool_v ?_, rfl⟩
    rw [identB_iff]
    constructor
    · rintro ⟨h, _⟩
      have : s.length ≠ 0 := fun e => h (List.eq_nil_of_length_eq_zero e)
      omega
    · intro h
      refine ⟨fun e => by have : s.length = 0 := by rw [e]; rfl
                          omega, fun j hj => hall j (by omega)⟩

/-- The first place of a string in a list. -/
def ixF (l : List Nat) : List (List Nat) → Option Nat
  | [] => none
  | s :: names => if s = l then some 0 else (ixF l names).map (· + 1)
theorem ixF_some {l : List Nat} : ∀ {names : List (List Nat)} {i : Nat}, (∀ j, j < i → names[j]? ≠ some l) → names[i]? = some l → ixF l names = some i
  | [], i, _, h => by simp at h
  | s :: names, 0, _, h => by simp at h; simp [ixF, h]
  | s :: names, i + 1, hn, h => by
    have hs : s ≠ l := fun e => hn 0 (by omega) (by simp [e])
    have := ixF_some (names := names) (i := i) (fun j hj => by have := hn (j + 1) (by omega); simpa using this) (by simpa using h)
    simp [ixF, hs, this]
theorem ixF_none {l : List Nat} : ∀ {names : List (List Nat)}, l ∉ names → ixF l names = none
  | [], _ => rfl
  | s :: names, h => by
    simp only [List.mem_cons, not_or] at h
    rw [ixF, if_neg (fun e => h.1 e.symm), ixF_none h.2]; rfl
def ixI (l : List Nat) (names : List (List Nat)) : Int := match ixF l names with
  | some i => (i : Int)
  | none => -1
theorem ixF_ixN {names : List (List Nat)} (h : names.Nodup) (l : List Nat) : ixF l names = ixN names l := by
  by_cases hm : l ∈ names
  · obtain ⟨i, hi, rfl⟩ := List.mem_iff_getElem.1 hm
    have e1 : ixF names[i] names = some i := ixF_some (fun j hj e => by
      have hj' : j < names.length := by omega
      rw [List.getElem?_eq_getElem hj'] at e
      have := (List.getElem_inj h).1 (Option.some.inj e)
      omega) (List.getElem?_eq_getElem hi)
    have e2 := ixR_at names i 0 none names[i] h (List.getElem?_eq_getElem hi)
    rw [e1]; unfold ixN; rw [e2, Nat.zero_add]
  · rw [ixF_none hm]; unfold ixN; rw [ixR_no _ _ _ _ hm]
theorem ixF_mem {l : List Nat} : ∀ {names : List (List Nat)}, l ∈ names → ∃ k, ixF l names = some k
  | [], h => by cases h
  | s :: names, h => by
    by_cases e : s = l
    · exact ⟨0, by rw [ixF, if_pos e]⟩
    · obtain ⟨k, hk⟩ := ixF_mem (names := names) (by simp only [List.mem_cons] at h; exact h.resolve_left (fun e' => e e'.symm))
      exact ⟨k + 1, by rw [ixF, if_neg e, hk]; rfl⟩
theorem ixI_neg {l : List Nat} {names : List (List Nat)} : 0 ≤ ixI l names ↔ l ∈ names := by
  unfold ixI
  by_cases hm : l ∈ names
  · obtain ⟨k, hk⟩ := ixF_mem hm
    rw [hk]; simp [hm]
  · rw [ixF_none hm]; simp [hm]

theorem rindex_fn (names : List (List Nat)) (A : Option Addr) (n c : Nat) (l : List Nat) (w : World) (h : Sl w 1 A n c (strsV names)) (hb : ∀ s ∈ names, ∀ x ∈ s, x < 256) (hl : ∀ x ∈ l, x < 256) :
    Fn Tryz.prog 82 [.slice A n c, .string (strOf l)] w (fun v w' => v = .int .i64 (ixI l names) ∧ w = w') := by
  have hn : names.length = n := by have := h.len; rw [strsV_length] at this; omega
  have hn9 : n ≤ 9223372036854775807 := by have := h.le; have := h.cap; simp only [maxLen] at this; omega
  refine fn_of_exec (c := { c82 with cuts := [] }) gx_ok Tryz.func82 rfl rfl rfl ?_
  refine loop gx_ok [5] (fun s : Nat => [.int .i64 s]) (fun s w' => w = w' ∧ s ≤ n ∧ ∀ j, j < s → names[j]? ≠ some l) (fun s _ => n - s) 0 rfl ⟨rfl, Nat.zero_le _, fun j hj => absurd hj (by omega)⟩ ?_
  rintro s _ ⟨rfl, hs, hno⟩
  refine wif_d (fun h3 => ?_) (fun h3 => ?_)
  · have hgs : names[s]? = some names[s] := List.getElem?_eq_getElem (by omega)
    generalize names[s] = t at hgs
    refine index_sl h (by omega) (fun ad u hA hu hcell => ?_)
    rw [strsV_get hgs] at hu
    cases hu
    refine load hcell ?_
    have ht8 := hb t (List.mem_of_getElem? hgs)
    by_cases e : t = l
    · subst e
      refine wif_dt rfl ?_
      exact ⟨by unfold ixI; rw [ixF_some hno hgs], rfl⟩
    · refine wif_df (fun h => e (strOf_inj ht8 hl h)) ?_
      refine norm_i64_to ((s + 1 : Nat) : Int) (by omega) (by omega) ?_
      refine ⟨s + 1, rfl, ⟨rfl, by omega, fun j hj => ?_⟩, by show n - (s + 1) < n - s; omega⟩
      by_cases hjs : j < s
      · exact hno j hjs
      · have : j = s := by omega
        subst this
        rw [hgs]; exact fun h => e (Option.some.inj h)
  · refine ⟨?_, rfl⟩
    have : l ∉ names := fun hm => by
      obtain ⟨i, hi, rfl⟩ := List.mem_iff_getElem.1 hm
      exact hno i (by omega) (List.getElem?_eq_getElem hi)
    unfold ixI; rw [ixF_none this]

theorem nameOk_ident (s : List Nat) : nameOk s = true ↔ identB s = true ∧ s ≠ trueL ∧ s ≠ falseL := by
  constructor
  · intro h
    obtain ⟨h1, h2, h3⟩ := nameOk_word h
    refine ⟨?_, h2, h3⟩
    unfold identB
    rw [wordB_isWord h1]
    exact List.all_eq_true.2 h1.2
  · rintro ⟨h1, h2, h3⟩
    unfold identB at h1
    rw [Bool.and_eq_true] at h1
    cases s with
    | nil => exact absurd h1.1 (by decide)
    | cons b r =>
      have hl : isLet b = true := h1.1
      have hd : isDig b = false := by
        have := (isLet_iff b).1 hl
        unfold isDig; simp; omega
      unfold nameOk
      rw [decide_eq_true_eq]
      refine ⟨by simp, ?_, h2, h3⟩
      show (if isDig b then 0 else ((b :: r).takeWhile isId).length) = _
      rw [hd, if_neg (by decide), takeWhile_all h1.2]

theorem rnames_fn (names : List (List Nat)) (A : Option Addr) (n c : Nat) (w : World) (h : Sl w 1 A n c (strsV names)) (hb : NamesOk names) :
    Fn Tryz.prog 48 [.slice A n c] w (fun v w' => v = .bool (numsOk names) ∧ Ext w w') := by
  have hn : names.length = n := by have := h.len; rw [strsV_length] at this; omega
  have hn9 : n ≤ 9223372036854775807 := by have := h.le; have := h.cap; simp only [maxLen] at this; omega
  have hiff := numsOk_iff hb
  refine fn_of_exec (c := { c48 with cuts := [] }) gx_ok Tryz.func48 rfl rfl rfl ?_
  refine loop gx_ok [3] (fun s : Nat => [.int .i64 s]) (fun s w' => Ext w w' ∧ s ≤ n ∧ (names.take s).all nameOk = true ∧ (names.take s).Nodup) (fun s _ => n - s) 0 rfl ⟨Ext.refl w, Nat.zero_le _, rfl, by simp⟩ ?_
  rintro s w3 ⟨hE3, hs, hall, hnd⟩
  refine wif_d (fun h3 => ?_) (fun h3 => ?_)
  · have hgs : names[s]? = some names[s] := List.getElem?_eq_getElem (by omega)
    generalize names[s] = t at hgs
    obtain ⟨ht8, htl⟩ := hb t (List.mem_of_getElem? hgs)
    have e1 : ((strOf t = (⟨#[116, 114, 117, 101]⟩ : ByteArray)) ↔ t = trueL) := ⟨fun h => strOf_inj ht8 (by decide) h, fun h => by rw [h]; rfl⟩
    have e2 : ((strOf t = (⟨#[102, 97, 108, 115, 101]⟩ : ByteArray)) ↔ t = falseL) := ⟨fun h => strOf_inj ht8 (by decide) h, fun h => by rw [h]; rfl⟩
    have bad : (nameOk t ≠ true ∨ t ∈ names.take s) → numsOk names = false := fun h => by
      rw [← Bool.not_eq_true]
      intro ho
      rcases h with h | h
      · rw [not_all hgs h] at ho; cases ho
      · have hnn := (hiff.1 ho).2.1
        obtain ⟨i, hi, he⟩ := List.mem_iff_getElem.1 h
        rw [List.length_take] at hi
        rw [List.getElem_take] at he
        have hsl : s < names.length := by omega
        have : names[s] = t := by rw [List.getElem?_eq_getElem hsl] at hgs; exact Option.some.inj hgs
        have := (List.getElem_inj (h₀ := (by omega : i < names.length)) (h₁ := hsl) hnn).1 (by rw [he, this])
        omega
    have hN := h.ext hE3
    have rd : ∀ {w' : World} {K : Addr → Prop}, Ext w3 w' → (∀ p, (∀ w2, Ext w3 w2 → w2.cell? p = some (.string (strOf t))) → K p) → Index A n (s : Int) 1 K := fun {w'} {K} _ k => by
      refine index_sl hN (by omega) (fun ad u hA hu hcell => ?_)
      rw [strsV_get hgs] at hu
      cases hu
      exact k _ (fun w2 h2 => h2.cell hcell)
    refine draw_plan gx_ok (Ext w3) 31 [(true, 0), (true, 1), (true, 2), (true, 3), (false, 4), (true, 5), (true, 6), (true, 7), (true, 8), (true, 9), (true, 10), (true, 11), (true, 12), (true, 13), (true, 14), (true, 15), (true, 16), (true, 17), (true, 18), (true, 19), (true, 20), (true, 21), (true, 22), (true, 24), (true, 25), (true, 26), (true, 27), (false, 23), (false, 28), (true, 29), (true, 30)] (by kernel_rfl) (Ext.drew w3) ?_
    refine rd (Ext.refl _) (fun p hp => ?_)
    refine qload hp ?_
    refine call (ident_fn t _ ht8 htl) ?_
    rintro _ _ ⟨rfl, rfl⟩
    refine ⟨Ext.drew w3, ?_⟩
    cases hid : identB t with
    | false =>
      refine wif_t rfl ?_
      have : nameOk t ≠ true := fun h => by rw [((nameOk_ident t).1 h).1] at hid; cases hid
      exact ⟨by rw [bad (.inl this)], hE3.trans (Ext.drew w3)⟩
    | true =>
      refine wif_f rfl ?_
      refine rd (Ext.refl _) (fun p2 hp2 => ?_)
      refine qload hp2 ?_
      by_cases ht1 : t = trueL
      · refine wif_dt (e1.2 ht1) ?_
        have : nameOk t ≠ true := fun h => ((nameOk_ident t).1 h).2.1 ht1
        exact ⟨by rw [bad (.inl this)], hE3.trans (Ext.drew w3)⟩
      refine wif_df (fun h => ht1 (e1.1 h)) ?_
      refine rd (Ext.refl _) (fun p3 hp3 => ?_)
      refine qload hp3 ?_
      by_cases ht2 : t = falseL
      · refine wif_dt (e2.2 ht2) ?_
        have : nameOk t ≠ true := fun h => ((nameOk_ident t).1 h).2.2 ht2
        exact ⟨by rw [bad (.inl this)], hE3.trans (Ext.drew w3)⟩
      refine wif_df (fun h => ht2 (e2.1 h)) ?_
      refine rd (Ext.refl _) (fun p4 hp4 => ?_)
      refine qload hp4 ?_
      refine at_slice_h gx_ok rfl rfl rfl rfl rfl rfl (by have := h.le; omega) ?_
      refine ⟨Ext.drew w3, ?_⟩
      have hT : Sl w3.drew 1 A s c (strsV (names.take s)) := by
        have := (hN.ext (Ext.drew w3)).take (m := s) (by omega)
        rw [Nat.mul_one] at this
        rw [show strsV (names.take s) = (strsV names).take s by simp [strsV]]
        exact this
      refine call (rindex_fn (names.take s) A s c t _ hT (fun u hu => (hb u (List.mem_of_mem_take hu)).1) ht8) ?_
      rintro _ _ ⟨rfl, rfl⟩
      refine ⟨Ext.drew w3, ?_⟩
      have hok : nameOk t = true := (nameOk_ident t).2 ⟨hid, ht1, ht2⟩
      by_cases hm : t ∈ names.take s
      · refine wif_dt (ixI_neg.2 hm) ?_
        exact ⟨by rw [bad (.inr hm)], hE3.trans (Ext.drew w3)⟩
      · refine wif_df (fun h => hm (ixI_neg.1 h)) ?_
        refine norm_i64_to ((s + 1 : Nat) : Int) (by omega) (by omega) ?_
        refine ⟨s + 1, rfl, ⟨hE3.trans (Ext.drew w3), by omega, all_take hall hgs hok, ?_⟩, by show n - (s + 1) < n - s; omega⟩
        rw [List.take_add_one, hgs]
        simp only [Option.toList_some]
        rw [List.nodup_append]
        exact ⟨hnd, by simp, fun x hx y hy e => by simp only [List.mem_singleton] at hy; subst hy; subst e; exact hm hx⟩
  · have : s = n := by omega
    subst this
    rw [List.take_of_length_le (by omega)] at hall hnd
    exact ⟨bool_v (by rw [hiff]; exact ⟨fun h => by omega, fun h => ⟨hall, hnd, by omega⟩⟩), hE3⟩
end

section
open Go Go.RowKit

theorem strsV_snoc (l : List (List Nat)) (s : List Nat) : strsV (l ++ [s]) = strsV l ++ [.string (strOf s)] := by simp [strsV]
/-- The n bytes from i on are a token, and behind them goes on what is left. -/
def TokAt (s : List Nat) (i n : Nat) : Prop := 0 < n ∧ i + n ≤ s.length ∧ lexA (s.drop i) = ((s.drop i).take n :: (lexA (s.drop (i + n))).1, (lexA (s.drop (i + n))).2)
theorem tokAt_one {s : List Nat} {i b : Nat} (hb : s[i]? = some b) (h : b = 40 ∨ b = 41 ∨ b = 33) : TokAt s i 1 := by
  have hi := (List.getElem?_eq_some_iff.1 hb).1
  have e := List.drop_eq_getElem_cons hi
  rw [List.getElem?_eq_getElem hi] at hb
  rw [Option.some.inj hb] at e
  exact ⟨by omega, by omega, by rw [e, lexA_one h]; rfl⟩
theorem tokAt_two {s : List Nat} {i b : Nat} (hb : s[i]? = some b) (hb2 : s[i + 1]? = some b) (h : b = 38 ∨ b = 124) : TokAt s i 2 := by
  have hi := (List.getElem?_eq_some_iff.1 hb).1
  have hi2 := (List.getElem?_eq_some_iff.1 hb2).1
  have e := List.drop_eq_getElem_cons hi
  have e2 := List.drop_eq_getElem_cons hi2
  rw [List.getElem?_eq_getElem hi] at hb
  rw [List.getElem?_eq_getElem hi2] at hb2
  rw [Option.some.inj hb, e2, Option.some.inj hb2] at e
  exact ⟨by omega, by omega, by rw [e, lexA_two h]; rfl⟩
theorem drop_sp {s : List Nat} {i b : Nat} (hb : s[i]? = some b) (h : b = 32 ∨ b = 9) : lexA (s.drop i) = lexA (s.drop (i + 1)) := by
  have hi := (List.getElem?_eq_some_iff.1 hb).1
  have e := List.drop_eq_getElem_cons hi
  rw [List.getElem?_eq_getElem hi] at hb
  rw [e, Option.some.inj hb, lexA_sp h]
theorem lex_bad {s : List Nat} {i b : Nat} (hb : s[i]? = some b) (h1 : ¬ (b = 32 ∨ b = 9)) (h2 : ¬ (b = 40 ∨ b = 41 ∨ b = 33)) (h3 : ¬ ((b = 38 ∨ b = 124) ∧ s[i + 1]? = some b)) (h4 : isLet b = false) : lexA (s.drop i) = ([], false) := by
  have hi := (List.getElem?_eq_some_iff.1 hb).1
  have e := List.drop_eq_getElem_cons hi
  rw [List.getElem?_eq_getElem hi] at hb
  rw [e, Option.some.inj hb]
  refine lexA_bad h1 h2 (fun h => h3 ⟨h.1, ?_⟩) h4
  rw [← h.2, List.head?_drop]
/-- All of n bytes belong to an identifier, the first is a letter. -/
def IdAt (s : List Nat) (i n : Nat) : Prop := 0 < n ∧ i + n ≤ s.length ∧ identB ((s.drop i).take n) = true
theorem idAt_tok {s : List Nat} {i n : Nat} (h : IdAt s i n) (hs : i + n = s.length ∨ identB ((s.drop i).take (n + 1)) = false) : TokAt s i n := by
  obtain ⟨h1, h2, h3⟩ := h
  have hw : WordB ((s.drop i).take n) := by
    unfold identB at h3
    rw [Bool.and_eq_true] at h3
    refine ⟨?_, List.all_eq_true.1 h3.2⟩
    cases hh : (s.drop i).take n with
    | nil => rw [hh] at h3; exact absurd h3.1 (by decide)
    | cons b r => rw [hh] at h3; exact ⟨b, r, rfl, h3.1⟩
  have hst : Stop (s.drop (i + n)) := fun b r e => by
    rcases hs with hs | hs
    · rw [List.drop_of_length_le (by omega)] at e; cases e
    · rw [← Bool.not_eq_true]
      intro hb
      have hbn : (s.drop i)[n]? = some b := by rw [List.getElem?_drop, ← List.head?_drop, e]; rfl
      have e2 : (s.drop i).take (n + 1) = (s.drop i).take n ++ [b] := by rw [List.take_add_one, hbn]; rfl
      have : identB ((s.drop i).take (n + 1)) = true := by
        unfold identB at h3 ⊢
        rw [e2, List.all_append]
        rw [Bool.and_eq_true] at h3
        cases hh : (s.drop i).take n with
        | nil => rw [hh] at h3; exact absurd h3.1 (by decide)
        | cons c r =>
          rw [hh] at h3
          simp only [List.cons_append, Bool.and_eq_true]
          exact ⟨h3.1, h3.2, by simp [hb]⟩
      rw [this] at hs; cases hs
  refine ⟨h1, h2, ?_⟩
  have := lex_word hw hst
  rw [← List.drop_drop, List.take_append_drop] at this
  rw [this, List.drop_drop]
theorem idAt_one {s : List Nat} {i b : Nat} (hb : s[i]? = some b) (h : isLet b = true) : IdAt s i 1 := by
  have hi := (List.getElem?_eq_some_iff.1 hb).1
  have e := List.drop_eq_getElem_cons hi
  rw [List.getElem?_eq_getElem hi] at hb
  refine ⟨by omega, by omega, ?_⟩
  rw [e, Option.some.inj hb]
  unfold identB
  show (isLet b && [b].all isId) = true
  rw [h]; simp [isId_let h]
theorem sub_str {s : List Nat} {i n : Nat} : (strOf s).extract i (i + n) = strOf ((s.drop i).take n) := by
  rw [strOf_extract, List.drop_take]
  congr 2; omega

theorem tokens_fn (s : List Nat) (w : World) (hs : ∀ x ∈ s, x < 256) (hl : s.length ≤ 1000000000000) :
    Fn Tryz.prog 154 [.string (strOf s)] w (fun v w' => ∃ A n c, v = .tuple #[.slice A n c, .bool (lexA s).2] ∧ Ext w w' ∧ Sl w' 1 A n c (strsV (if (lexA s).2 then (lexA s).1 else []))) := by
  have hsz : (strOf s).size = s.length := strOf_size s
  have hby : bytesOf (strOf s) = s := bytesOf_strOf hs
  refine fn_of_exec (c := { c154 with cuts := [6] }) gx_ok Tryz.func154 rfl rfl rfl ?_
  refine loop gx_ok [5, 4] (fun t : Nat × List (List Nat) × Option Addr × Nat => [.int .i64 t.1, .slice t.2.2.1 t.2.1.length t.2.2.2])
    (fun t w' => Ext w w' ∧ t.1 ≤ s.length ∧ t.2.1.length ≤ t.1 ∧ Own w' w.heap.size 9 1 t.2.2.1 t.2.1.length t.2.2.2 (strsV t.2.1) ∧ lexA s = (t.2.1 ++ (lexA (s.drop t.1)).1, (lexA (s.drop t.1)).2)) (fun t _ => s.length - t.1) (0, [], none, 0) rfl
    ⟨Ext.refl w, Nat.zero_le _, Nat.le_refl _, Own.nil _ _ _ _, by simp⟩ ?_
  rintro ⟨i, out, A, c⟩ w1 ⟨hE1, hi, hol, hown, hlex⟩
  simp only at hE1 hi hol hown hlex
  refine wif_d (fun h1 => ?_) (fun h1 => ?_)
  · have hgi : s[i]? = some s[i] := List.getElem?_eq_getElem (by omega)
    generalize s[i] = b at hgi
    have rd : ∀ {K : Int → Prop}, K (b : Int) → SIndex (strOf s) (i : Int) K := fun k => sindex' (by omega) (fun x hx _ => by
      rw [hby] at hx
      have : x = b := Option.some.inj (hx.symm.trans hgi)
      subst this; exact k)
    refine cutIn [] gx_ok [6, 5] (fun n : Nat => [.int .i64 n, .int .i64 i]) (fun n w' => w1 = w' ∧ TokAt s i n) ?_ ?_
    · refine rd ?_
      have cont : (b = 32 ∨ b = 9) → ∀ (K : Prop), K → K := fun _ _ k => k
      by_cases c1 : b = 32
      · refine wif_eqt (by omega) ?_
        refine norm_i64_to ((i + 1 : Nat) : Int) (by omega) (by omega) ?_
        exact ⟨(i + 1, out, A, c), rfl, ⟨hE1, by simp only; omega, by simp only; omega, hown, by simp only; rw [← drop_sp hgi (.inl c1)]; exact hlex⟩, by show s.length - (i + 1) < s.length - i; omega⟩
      refine wif_eqf (by omega) ?_
      refine rd ?_
      by_cases c2 : b = 9
      · refine wif_eqt (by omega) ?_
        refine norm_i64_to ((i + 1 : Nat) : Int) (by omega) (by omega) ?_
        exact ⟨(i + 1, out, A, c), rfl, ⟨hE1, by simp only; omega, by simp only; omega, hown, by simp only; rw [← drop_sp hgi (.inr c2)]; exact hlex⟩, by show s.length - (i + 1) < s.length - i; omega⟩
      refine wif_eqf (by omega) ?_
      refine rd ?_
      by_cases c3 : b = 40
      · refine wif_eqt (by omega) ?_
        exact ⟨1, rfl, rfl, tokAt_one hgi (.inl c3)⟩
      refine wif_eqf (by omega) ?_
      refine rd ?_
      by_cases c4 : b = 41
      · refine wif_eqt (by omega) ?_
        exact ⟨1, rfl, rfl, tokAt_one hgi (.inr (.inl c4))⟩
      refine wif_eqf (by omega) ?_
      refine rd ?_
      by_cases c5 : b = 33
      · refine wif_eqt (by omega) ?_
        exact ⟨1, rfl, rfl, tokAt_one hgi (.inr (.inr c5))⟩
      refine wif_eqf (by omega) ?_
      refine norm_i64_to ((i + 1 : Nat) : Int) (by omega) (by omega) ?_
      have h40 : ¬ (b = 32 ∨ b = 9) := by omega
      have h41 : ¬ (b = 40 ∨ b = 41 ∨ b = 33) := by omega
      have b8 := hs b (List.mem_of_getElem? hgi)
      refine wif_d (fun h2 => ?_) (fun h2 => ?_)
      · have hg2 : s[i + 1]? = some s[i + 1] := List.getElem?_eq_getElem (by omega)
        generalize s[i + 1] = b2 at hg2
        have b28 := hs b2 (List.mem_of_getElem? hg2)
        have htwo : (s.drop i).take 2 = [b, b2] := by
          have hi := (List.getElem?_eq_some_iff.1 hgi).1
          have hi2 := (List.getElem?_eq_some_iff.1 hg2).1
          rw [List.drop_eq_getElem_cons hi, List.drop_eq_getElem_cons hi2]
          rw [List.getElem?_eq_getElem hi] at hgi
          rw [List.getElem?_eq_getElem hi2] at hg2
          rw [Option.some.inj hgi, Option.some.inj hg2]; rfl
        have l8 : ∀ x ∈ [b, b2], x < 256 := by simp [b8, b28]
        refine norm_i64_to ((i + 2 : Nat) : Int) (by omega) (by omega) ?_
        refine need_to (v' := .string (strOf [b, b2])) ⟨by omega, by omega, by omega⟩ (by rw [← htwo]; simp only [Int.toNat_natCast]; rw [sub_str]) ?_
        by_cases c6 : b = 38 ∧ b2 = 38
        · obtain ⟨rfl, rfl⟩ := c6
          refine wif_dt rfl ?_
          exact ⟨2, rfl, rfl, tokAt_two hgi hg2 (.inl rfl)⟩
        refine wif_df (fun e => c6 (by have := strOf_inj (m := [38, 38]) l8 (by decide) e; simpa using this)) ?_
        refine norm_i64_to ((i + 2 : Nat) : Int) (by omega) (by omega) ?_
        refine need_to (v' := .string (strOf [b, b2])) ⟨by omega, by omega, by omega⟩ (by rw [← htwo]; simp only [Int.toNat_natCast]; rw [sub_str]) ?_
        by_cases c7 : b = 124 ∧ b2 = 124
        · obtain ⟨rfl, rfl⟩ := c7
          refine wif_dt rfl ?_
          exact ⟨2, rfl, rfl, tokAt_two hgi hg2 (.inr rfl)⟩
        refine wif_df (fun e => c7 (by have := strOf_inj (m := [124, 124]) l8 (by decide) e; simpa using this)) ?_
        have h3 : ¬ ((b = 38 ∨ b = 124) ∧ s[i + 1]? = some b) := by
          rintro ⟨h4, h5⟩
          have : b2 = b := Option.some.inj (hg2.symm.trans h5)
          omega
        refine rd ?_
        refine call (letter_fn b w1) ?_
        rintro _ _ ⟨rfl, rfl⟩
        cases hb : isLet b with
        | false =>
          refine wif_f rfl ?_
          have e := lex_bad hgi h40 h41 h3 hb
          have : (lexA s).2 = false := by rw [hlex, e]
          exact ⟨none, 0, 0, by rw [this], hE1, by rw [this]; exact Sl.nil _ _⟩
        | true =>
          refine wif_t rfl ?_
          refine loop gx_ok [6] (fun n : Nat => [.int .i64 n]) (fun n w' => w1 = w' ∧ IdAt s i n) (fun n _ => s.length - n) 1 rfl ⟨rfl, idAt_one hgi hb⟩ ?_
          rintro n _ ⟨rfl, hid⟩
          have hid2 := hid.2.1
          refine norm_i64_to ((i + n : Nat) : Int) (by omega) (by omega) ?_
          refine wif_d (fun h5 => ?_) (fun h5 => ?_)
          · refine norm_i64_to ((i + n : Nat) : Int) (by omega) (by omega) ?_
            refine norm_i64_to ((i + (n + 1) : Nat) : Int) (by omega) (by omega) ?_
            refine need_to (v' := .string (strOf ((s.drop i).take (n + 1)))) ⟨by omega, by omega, by omega⟩ (by simp only [Int.toNat_natCast]; rw [sub_str]) ?_
            have l8 : ∀ x ∈ (s.drop i).take (n + 1), x < 256 := B8.take (B8.drop hs i) (n + 1)
            refine call (ident_fn ((s.drop i).take (n + 1)) w1 l8 (by rw [List.length_take, List.length_drop]; omega)) ?_
            rintro _ _ ⟨rfl, rfl⟩
            cases hi2 : identB ((s.drop i).take (n + 1)) with
            | true =>
              refine wif_t rfl ?_
              refine norm_i64_to ((n + 1 : Nat) : Int) (by omega) (by omega) ?_
              exact ⟨n + 1, rfl, ⟨rfl, by omega, by omega, hi2⟩, by show s.length - (n + 1) < s.length - n; omega⟩
            | false =>
              refine wif_f rfl ?_
              exact ⟨n, rfl, rfl, idAt_tok hid (.inr hi2)⟩
          · exact ⟨n, rfl, rfl, idAt_tok hid (.inl (by omega))⟩
      · have h3 : ¬ ((b = 38 ∨ b = 124) ∧ s[i + 1]? = some b) := by
          rintro ⟨h4, h5⟩
          have := (List.getElem?_eq_some_iff.1 h5).1
          omega
        refine rd ?_
        refine call (letter_fn b w1) ?_
        rintro _ _ ⟨rfl, rfl⟩
        cases hb : isLet b with
        | false =>
          refine wif_f rfl ?_
          have e := lex_bad hgi h40 h41 h3 hb
          have : (lexA s).2 = false := by rw [hlex, e]
          exact ⟨none, 0, 0, by rw [this], hE1, by rw [this]; exact Sl.nil _ _⟩
        | true =>
          refine wif_t rfl ?_
          refine loop gx_ok [6] (fun n : Nat => [.int .i64 n]) (fun n w' => w1 = w' ∧ IdAt s i n) (fun n _ => s.length - n) 1 rfl ⟨rfl, idAt_one hgi hb⟩ ?_
          rintro n _ ⟨rfl, hid⟩
          have hid2 := hid.2.1
          refine norm_i64_to ((i + n : Nat) : Int) (by omega) (by omega) ?_
          refine wif_d (fun h5 => ?_) (fun h5 => ?_)
          · refine norm_i64_to ((i + n : Nat) : Int) (by omega) (by omega) ?_
            refine norm_i64_to ((i + (n + 1) : Nat) : Int) (by omega) (by omega) ?_
            refine need_to (v' := .string (strOf ((s.drop i).take (n + 1)))) ⟨by omega, by omega, by omega⟩ (by simp only [Int.toNat_natCast]; rw [sub_str]) ?_
            have l8 : ∀ x ∈ (s.drop i).take (n + 1), x < 256 := B8.take (B8.drop hs i) (n + 1)
            refine call (ident_fn ((s.drop i).take (n + 1)) w1 l8 (by rw [List.length_take, List.length_drop]; omega)) ?_
            rintro _ _ ⟨rfl, rfl⟩
            cases hi2 : identB ((s.drop i).take (n + 1)) with
            | true =>
              refine wif_t rfl ?_
              refine norm_i64_to ((n + 1 : Nat) : Int) (by omega) (by omega) ?_
              exact ⟨n + 1, rfl, ⟨rfl, by omega, by omega, hi2⟩, by show s.length - (n + 1) < s.length - n; omega⟩
            | false =>
              refine wif_f rfl ?_
              exact ⟨n, rfl, rfl, idAt_tok hid (.inr hi2)⟩
          · exact ⟨n, rfl, rfl, idAt_tok hid (.inl (by omega))⟩
    · rintro n _ ⟨rfl, h1, h2, h3⟩
      refine norm_i64_to ((i + n : Nat) : Int) (by omega) (by omega) ?_
      refine need_to (v' := .string (strOf ((s.drop i).take n))) ⟨by omega, by omega, by omega⟩ (by simp only [Int.toNat_natCast]; rw [sub_str]) ?_
      refine at_build1 gx_ok rfl rfl rfl rfl rfl rfl rfl rfl (fun w2 hE2 hz2 hB2 => ?_)
      have hs2 : Sl w2 1 (some ⟨w1.heap.size, 0, none⟩) 1 1 [.string (strOf ((s.drop i).take n))] := Sl.own' (n := 1) hB2 rfl (by decide)
      refine at_app (sz := 1) (n := out.length) gx_ok rfl rfl rfl rfl rfl (by decide) rfl rfl ⟨_, rfl⟩ rfl rfl (hown.ext hE2) hs2 (by intro u hu; simp at hu; rcases hu with rfl; rfl) (by unfold maxLen; omega) (by show _ * 16 ≤ _; omega) (by have := hE1.size; have := hE2.size; omega) ?_
      intro A' c' w3 hm3 hown3 hmv3
      refine norm_i64_to ((i + n : Nat) : Int) (by omega) (by omega) ?_
      have hE13 : Ext w w3 := hm3.ext (hE1.trans hE2) (fun k hk => (hown.rows k hk).1)
      refine ⟨(i + n, out ++ [(s.drop i).take n], A', c'), by simp only [List.length_append, List.length_cons, List.length_nil]; rfl, ⟨hE13, h2, by simp only [List.length_append, List.length_cons, List.length_nil]; omega, by simp only [List.length_append, List.length_cons, List.length_nil]; rw [strsV_snoc]; exact hown3, by simp only; rw [hlex, h3]; simp⟩, by show s.length - (i + n) < s.length - i; omega⟩
  · have : i = s.length := by omega
    subst this
    rw [List.drop_of_length_le (Nat.le_refl _)] at hlex
    have h2 : (lexA s).2 = true := by rw [hlex]; rfl
    have h1 : (lexA s).1 = out := by rw [hlex]; simp [lexA_nil]
    rw [h2]
    exact ⟨A, out.length, c, rfl, hE1, by rw [h1]; exact hown.sl⟩
end

section
open Go Go.RowKit

/-- What a parser holds fast. -/
structure RD where
  NA : Option Addr
  nn : Nat
  nc : Nat
  names : List (List Nat)
  LA : Option Addr
  ln : Nat
  lc : Nat
  toks : List (List Nat)
/-- How far it has come. -/
structure Rs where
  at_ : Nat
  f : List Fz
  bad : Bool
  unk : Bool
structure RDok (w0 : World) (D : RD) : Prop where
  nms : Sl w0 1 D.NA D.nn D.nc (strsV D.names)
  tks : Sl w0 1 D.LA D.ln D.lc (strsV D.toks)
  nb : NamesOk D.names
  tb : ∀ t ∈ D.toks, (∀ x ∈ t, x < 256) ∧ t.length ≤ 1000000000000
  wf : ∀ t ∈ D.toks, identB t = isWord t
  lim : D.toks.length ≤ 1000000000000
theorem RDok.ln {w0 : World} {D : RD} (h : RDok w0 D) : D.toks.length = D.ln := by have := h.tks.len; rw [strsV_length] at this; omega
structure Rq (w0 w : World) (base r : Nat) (D : RD) (A : Option Addr) (c : Nat) (s : Rs) : Prop where
  e0 : Ext w0 w
  r0 : w0.heap.size ≤ r
  lt : r < base
  top : base ≤ w.heap.size
  blk : Blk w r 218 [.slice D.NA D.nn D.nc, .slice D.LA D.ln D.lc, .int .i64 s.at_, .slice A s.f.length c, .bool s.bad, .bool s.unk]
  own : Own w base 205 4 A s.f.length c (fzV s.f)
  le : s.at_ ≤ D.toks.length
/-- The parser has come to s. -/
def RTo (w0 : World) (base r : Nat) (D : RD) (s : Rs) (w : World) : Prop := ∃ A c, Rq w0 w base r D A c s
theorem Rq.nrow {w0 w : World} {base r : Nat} {D : RD} {A : Option Addr} {c : Nat} {s : Rs} (h : Rq w0 w base r D A c s) : ¬ rowS A r := fun hr => by
  have := (h.own.rows r hr).1
  have := h.lt
  omega
theorem Rq.ext {w0 w w' : World} {base r : Nat} {D : RD} {A : Option Addr} {c : Nat} {s : Rs} (h : Rq w0 w base r D A c s) (k : Ext w w') : Rq w0 w' base r D A c s :=
  ⟨h.e0.trans k, h.r0, h.lt, Nat.le_trans h.top k.size, h.blk.ext k, h.own.ext k, h.le⟩
/-- A field of the parser is set. -/
theorem Rq.set {w0 w w' : World} {base r : Nat} {D : RD} {A : Option Addr} {c : Nat} {s : Rs} (h : Rq w0 w base r D A c s) (k : Mod (· = r) w w') {s' : Rs} (hf : s'.f = s.f) (hl : s'.at_ ≤ D.toks.length)
    (hB : Blk w' r 218 [.slice D.NA D.nn D.nc, .slice D.LA D.ln D.lc, .int .i64 s'.at_, .slice A s'.f.length c, .bool s'.bad, .bool s'.unk]) : Rq w0 w' base r D A c s' :=
  ⟨k.ext h.e0 (fun i hi => by have := h.r0; omega), h.r0, h.lt, Nat.le_trans h.top k.size, hB, by rw [hf]; exact h.own.mod k (fun i hi e => h.nrow (by rw [← e]; exact hi)), hl⟩

theorem head_eq {l : List (List Nat)} {i : Nat} {t : List Nat} (h : l[i]? = some t) : (l.drop i).head? = some t := by rw [List.head?_drop, h]

theorem rnext_fn (w0 : World) (base r : Nat) (D : RD) (A : Option Addr) (c : Nat) (s : Rs) (sym : List Nat) (w : World) (hD : RDok w0 D) (h : Rq w0 w base r D A c s) (hs : ∀ x ∈ sym, x < 256) :
    Fn Tryz.prog 174 [.pointer (some ⟨r, 0, none⟩), .string (strOf sym)] w (fun v w' => v = .bool (decide (s.at_ < D.toks.length ∧ (D.toks.drop s.at_).head? = some sym)) ∧
      Rq w0 w' base r D A c (if s.at_ < D.toks.length ∧ (D.toks.drop s.at_).head? = some sym then { s with at_ := s.at_ + 1 } else s)) := by
  have hln := hD.ln
  have hlim := hD.lim
  refine fn_of_exec (c := { c174 with cuts := [] }) gx_ok Tryz.func174 rfl rfl rfl ?_
  refine draw_plan gx_ok (Ext w) 24 [(true, 0), (true, 1), (true, 2), (true, 3), (true, 4), (true, 5), (true, 6), (true, 7), (true, 8), (true, 9), (true, 10), (true, 11), (true, 12), (true, 13), (true, 14), (true, 15), (true, 16), (true, 17), (true, 18), (true, 19), (true, 20), (true, 21), (true, 22), (true, 23)] (by kernel_rfl) (Ext.drew w) ?_
  have q : ∀ (j : Nat) (v : Value), [Value.slice D.NA D.nn D.nc, .slice D.LA D.ln D.lc, .int .i64 s.at_, .slice A s.f.length c, .bool s.bad, .bool s.unk][j]? = some v → ∀ w', Ext w w' → w'.cell? ((⟨r, 0, none⟩ : Addr).add j) = some v := fun j v hj w' hw' => by rw [(h.blk.ext hw').cell]; exact hj
  refine qload (q 2 _ rfl) ?_
  refine qload (q 1 _ rfl) ?_
  have hd := h.ext (Ext.drew w)
  refine wif_d (fun h1 => ?_) (fun h1 => ?_)
  · refine qload (q 1 _ rfl) ?_
    refine qload (q 2 _ rfl) ?_
    have hgs : D.toks[s.at_]? = some D.toks[s.at_] := List.getElem?_eq_getElem (by omega)
    generalize D.toks[s.at_] = t at hgs
    have ht8 := (hD.tb t (List.mem_of_getElem? hgs)).1
    refine index_sl (hD.tks.ext h.e0) (by omega) (fun ad u hA hu hcell => ?_)
    rw [strsV_get hgs] at hu
    cases hu
    refine qload (fun w' hw' => hw'.cell hcell) ?_
    by_cases e : t = sym
    · subst e
      refine wif_dt rfl ?_
      have hc : s.at_ < D.toks.length ∧ (D.toks.drop s.at_).head? = some t := ⟨by omega, head_eq hgs⟩
      rw [if_pos hc, decide_eq_true hc]
      refine load_blk hd.blk rfl ?_
      refine norm_i64_to ((s.at_ + 1 : Nat) : Int) (by omega) (by omega) ?_
      refine store_mod hd.blk (by simp) (fun w3 hM3 hB3 => ?_)
      exact ⟨rfl, hd.set hM3 rfl (by simp only; omega) hB3⟩
    · refine wif_df (fun h => e (strOf_inj ht8 hs h)) ?_
      have hc : ¬ (s.at_ < D.toks.length ∧ (D.toks.drop s.at_).head? = some sym) := fun hh => e (by rw [head_eq hgs] at hh; exact Option.some.inj hh.2)
      rw [if_neg hc, decide_eq_false hc]
      exact ⟨rfl, hd⟩
  · have hc : ¬ (s.at_ < D.toks.length ∧ (D.toks.drop s.at_).head? = some sym) := fun hh => h1 (by have := hh.1; omega)
    rw [if_neg hc, decide_eq_false hc]
    exact ⟨rfl, hd⟩

theorem rput_fn (w0 : World) (base r : Nat) (D : RD) (A : Option Addr) (c : Nat) (s : Rs) (x : Fz) (w : World) (hD : RDok w0 D) (h : Rq w0 w base r D A c s) (hl : s.f.length + 1 ≤ s.at_) :
    Fn Tryz.prog 175 [.pointer (some ⟨r, 0, none⟩), .agg x.cells.toArray] w (fun v w' => v = .int .i64 (s.f.length : Nat) ∧ RTo w0 base r D { s with f := s.f ++ [x] } w') := by
  have hlim := hD.lim
  have hle := h.le
  refine fn_of_exec (c := c175) gx_ok Tryz.func175 rfl rfl rfl ?_
  refine new (fun w1 hE1 hz1 hB1 => ?_)
  have h1 := h.ext hE1
  have hrows := h.own.rows
  have hC0 : Mod (rowS A) w1 w1.drew := Mod.of_ext _ (Ext.drew w1)
  refine draw_plan gx_ok (Mod (rowS A) w1) 8 [(true, 0), (true, 1), (true, 2), (true, 3), (true, 4), (true, 5), (false, 6), (false, 7)] (by kernel_rfl) hC0 ?_
  refine qload (v := .slice A s.f.length c) (fun w' hw' => by rw [(h1.blk.mod hw' h.nrow).cell]; rfl) ?_
  have hn1 : ¬ rowS A w.heap.size := fun hr => by have := (hrows _ hr).2; omega
  refine qloadN (vs := x.cells) rfl (fun w' hw' j v hj => by rw [(hB1.mod hw' hn1).cell]; exact hj) ?_
  refine at_buildN gx_ok [x.cells] rfl rfl rfl rfl rfl ⟨rfl, rfl, ⟨⟩⟩ rfl (fun cs h => by simp only [List.mem_singleton] at h; subst h; rfl) rfl (by decide) (by decide) ?_
  intro w2 hE2 hz2 hB2
  have hE12 := (Ext.drew w1).trans hE2
  have h2 := h1.ext hE12
  refine ⟨Mod.of_ext _ hE12, ?_⟩
  have hs2 : Sl w2 4 (some ⟨w1.drew.heap.size, 0, none⟩) 1 1 x.cells := Sl.own (sz := 4) (n := 1) hB2 (Nat.le_refl _) (by decide) (by simp [Fz.cells])
  refine at_app gx_ok rfl rfl rfl rfl rfl (by decide) rfl rfl ⟨_, rfl⟩ rfl rfl h2.own hs2 (by intro u hu; simp [Fz.cells] at hu; rcases hu with rfl | rfl | rfl | rfl <;> rfl) (by unfold maxLen; omega) (by show _ * 32 ≤ _; omega) h2.top ?_
  intro A' c' w3 hm3 hown3 hmv3
  have hM13 : Mod (rowS A) w1 w3 := (Mod.of_ext (rowS A) hE12).trans hm3 (fun i hi => .inl hi)
  refine ⟨hM13, ?_⟩
  have hB3 := h1.blk.mod hM13 h.nrow
  refine store_mod hB3 (by simp) (fun w4 hm4 hB4 => ?_)
  refine load_blk hB4 rfl ?_
  refine norm_i64_to ((s.f.length : Nat) : Int) (by omega) (by omega) ?_
  have hE3 : Ext w0 w3 := hM13.ext h1.e0 (fun i hi => by have := (hrows i hi).1; have := h.lt; have := h.r0; omega)
  have el : (s.f ++ [x]).length = s.f.length + 1 := by simp
  refine ⟨rfl, A', c', ⟨hm4.ext hE3 (fun i hi => by have := h.r0; omega), h.r0, h.lt, ?_, ?_, ?_, h.le⟩⟩
  · have := hM13.size; have := hm4.size; have := h1.top; omega
  · simp only; rw [el]; exact hB4
  · simp only; rw [el, fzV_snoc]
    exact hown3.mod hm4 (fun k hk e => by have := (hown3.rows k hk).1; have := h.lt; omega)
end

section
open Go Go.RowKit

def RAdv (s s' : Rs) : Prop := s.at_ ≤ s'.at_ ∧ s'.f.length + s.at_ ≤ s.f.length + s'.at_
theorem RAdv.refl (s : Rs) : RAdv s s := ⟨Nat.le_refl _, Nat.le_refl _⟩
theorem RAdv.trans {a b c : Rs} (h : RAdv a b) (k : RAdv b c) : RAdv a c := ⟨Nat.le_trans h.1 k.1, by have := h.2; have := k.2; omega⟩
/-- What has been read. -/
def ROut (D : RD) (s : Rs) (o : Option (Fm × Bool × List (List Nat))) (a : Int) (s' : Rs) : Prop := RAdv s s' ∧ match o with
  | none => s'.bad = true
  | some (t, u, ts) => a = ((s.f.length + szF t - 1 : Nat) : Int) ∧ s'.f = s.f ++ postF t s.f.length ∧ s'.bad = false ∧ s'.unk = (s.unk || u) ∧ D.toks.drop s'.at_ = ts
/-- What a function of the parser does. -/
def RdFn (w0 : World) (base r : Nat) (D : RD) (F : Nat) (k : Nat) (opt : List (List Nat) → Option (Fm × Bool × List (List Nat))) : Prop := ∀ (A : Option Addr) (c : Nat) (s : Rs) (w : World), Rq w0 w base r D A c s → s.bad = false → s.f.length ≤ s.at_ → D.toks.length - s.at_ < k →
  Fn Tryz.prog F [.pointer (some ⟨r, 0, none⟩)] w (fun v w' => ∃ (a : Int) (s' : Rs), v = .int .i64 a ∧ RTo w0 base r D s' w' ∧ ROut D s (opt (D.toks.drop s.at_)) a s')
def LoI (D : RD) (op : List Nat) (mk : Fm → Fm → Fm) (opt : List (List Nat) → Option (Fm × Bool × List (List Nat))) (s : Rs) (o : Option (Fm × Bool × List (List Nat))) (a : Int) (s1 : Rs) : Prop := RAdv s s1 ∧ ((s1.bad = true ∧ o = none) ∨ (s1.bad = false ∧ ∃ t u, a = ((s.f.length + szF t - 1 : Nat) : Int) ∧ s1.f = s.f ++ postF t s.f.length ∧ s1.unk = (s.unk || u) ∧ o = loopT op mk opt ((D.toks.drop s1.at_).length + 1) t u (D.toks.drop s1.at_)))
theorem drop_head {l : List (List Nat)} {i : Nat} {t : List Nat} (h : (l.drop i).head? = some t) : l.drop i = t :: l.drop (i + 1) := by
  rw [List.head?_drop] at h
  have hi := (List.getElem?_eq_some_iff.1 h).1
  rw [List.drop_eq_getElem_cons hi]
  rw [List.getElem?_eq_getElem hi] at h
  rw [Option.some.inj h]
theorem LoI.first {D : RD} {op : List Nat} {mk : Fm → Fm → Fm} {opt : List (List Nat) → Option (Fm × Bool × List (List Nat))} {s s1 : Rs} {a : Int} (h : ROut D s (opt (D.toks.drop s.at_)) a s1) : LoI D op mk opt s (chainT op mk opt (D.toks.drop s.at_)) a s1 := by
  obtain ⟨h1, h2⟩ := h
  refine ⟨h1, ?_⟩
  unfold chainT
  cases ho : opt (D.toks.drop s.at_) with
  | none => rw [ho] at h2; exact .inl ⟨h2, rfl⟩
  | some q =>
    obtain ⟨t, u, ts⟩ := q
    rw [ho] at h2
    obtain ⟨e1, e2, e3, e4, e5⟩ := h2
    exact .inr ⟨e3, t, u, e1, e2, e4, by rw [e5]⟩
/-- One more operand. -/
theorem LoI.step {D : RD} {op : List Nat} {mk : Fm → Fm → Fm} {opt : List (List Nat) → Option (Fm × Bool × List (List Nat))} {s s1 s3 : Rs} {o : Option (Fm × Bool × List (List Nat))} {a b : Int} {k : Int} (hl : LimT opt)
    (hmk : ∀ a b k', postF (mk a b) k' = postF a k' ++ postF b (k' + szF a) ++ [⟨k, 0, ((k' + szF a - 1 : Nat) : Int), ((k' + szF a + szF b - 1 : Nat) : Int)⟩]) (hsz : ∀ a b, szF (mk a b) = szF a + szF b + 1)
    (h : LoI D op mk opt s o a s1) (hb : s1.bad = false) (hh : (D.toks.drop s1.at_).head? = some op) (hr : ROut D { s1 with at_ := s1.at_ + 1 } (opt (D.toks.drop (s1.at_ + 1))) b s3) (_ : s1.f.length ≤ s1.at_) :
    LoI D op mk opt s o ((s3.f.length : Nat) : Int) { s3 with f := s3.f ++ [⟨k, 0, a, b⟩] } := by
  obtain ⟨h1, h2⟩ := h
  obtain ⟨r1, r2⟩ := hr
  have q1 := r1.1
  have q2 := r1.2
  simp only at q1 q2
  have p1 := h1.1
  have p2 := h1.2
  refine ⟨⟨by simp only; omega, by simp only [List.length_append, List.length_cons, List.length_nil]; omega⟩, ?_⟩
  rcases h2 with ⟨h2, _⟩ | ⟨_, t, u, e1, e2, e3, e4⟩
  · rw [hb] at h2; cases h2
  rw [drop_head hh] at e4
  cases ho : opt (D.toks.drop (s1.at_ + 1)) with
  | none =>
    rw [ho] at r2
    refine .inl ⟨r2, ?_⟩
    rw [e4, List.length_cons]
    show loopT op mk opt ((D.toks.drop (s1.at_ + 1)).length + 1 + 1) t u _ = none
    rw [loopT, List.head?_cons, if_pos rfl, List.tail_cons, ho]
  | some q =>
    obtain ⟨t2, v, ts⟩ := q
    rw [ho] at r2
    obtain ⟨g1, g2, g3, g4, g5⟩ := r2
    simp only at g1 g2 g4
    have pt := szF_pos t
    have pt2 := szF_pos t2
    have hf1 : s1.f.length = s.f.length + szF t := by rw [e2, List.length_append, postF_len]
    refine .inr ⟨g3, mk t t2, u || v, ?_, ?_, ?_, ?_⟩
    · rw [g2, List.length_append, postF_len, hf1, hsz]; congr 1; omega
    · simp only
      rw [g2, e2, hmk, e1, g1, hf1, List.length_append, postF_len]
      simp
    · simp only; rw [g4, e3, Bool.or_assoc]
    · simp only
      rw [e4, g5]
      exact loopT_op hl (m := 1) ho
theorem LoI.done {D : RD} {op : List Nat} {mk : Fm → Fm → Fm} {opt : List (List Nat) → Option (Fm × Bool × List (List Nat))} {s s1 : Rs} {o : Option (Fm × Bool × List (List Nat))} {a : Int} (h : LoI D op mk opt s o a s1) (hs : s1.bad = true ∨ (D.toks.drop s1.at_).head? ≠ some op) : ROut D s o a s1 := by
  obtain ⟨h1, h2⟩ := h
  refine ⟨h1, ?_⟩
  rcases h2 with ⟨h2, rfl⟩ | ⟨hb, t, u, e1, e2, e3, e4⟩
  · exact h2
  · have hh := hs.resolve_left (by rw [hb]; decide)
    rw [loopT_stop hh] at e4
    subst e4
    exact ⟨e1, e2, hb, e3, rfl⟩

theorem rconj_fn (w0 : World) (base r : Nat) (D : RD) (k : Nat) (opt : List (List Nat) → Option (Fm × Bool × List (List Nat))) (hD : RDok w0 D) (hlim : LimT opt) (H : RdFn w0 base r D 186 k opt) :
    RdFn w0 base r D 173 k (chainT [38, 38] .and opt) := by
  intro A c s w h hb hle hk
  refine fn_of_exec (c := { c173 with cuts := [] }) gx_ok Tryz.func173 rfl rfl rfl ?_
  refine call (H A c s w h hb hle hk) ?_
  rintro _ w1 ⟨a1, s1, rfl, hT1, hR1⟩
  refine loop gx_ok [3] (fun σ : Int × Rs => [.int .i64 σ.1]) (fun σ w' => RTo w0 base r D σ.2 w' ∧ LoI D [38, 38] .and opt s (chainT [38, 38] .and opt (D.toks.drop s.at_)) σ.1 σ.2) (fun σ _ => D.toks.length - σ.2.at_) (a1, s1) rfl ⟨hT1, LoI.first hR1⟩ ?_
  rintro ⟨a, s1⟩ w1 ⟨⟨A1, c1, h1⟩, hI⟩
  simp only at h1 hI
  have hadv := hI.1
  have hle1 : s1.f.length ≤ s1.at_ := by have := hadv.1; have := hadv.2; omega
  refine load_blk h1.blk rfl ?_
  cases hb1 : s1.bad with
  | true =>
    refine wif_f rfl ?_
    exact ⟨a, s1, rfl, ⟨A1, c1, h1⟩, hI.done (.inl hb1)⟩
  | false =>
    refine wif_t rfl ?_
    refine call (rnext_fn w0 base r D A1 c1 s1 [38, 38] w1 hD h1 (by decide)) ?_
    by_cases hc : s1.at_ < D.toks.length ∧ (D.toks.drop s1.at_).head? = some [38, 38]
    · rw [if_pos hc, decide_eq_true hc]
      rintro _ w2 ⟨rfl, h2⟩
      refine wif_t rfl ?_
      refine call (H A1 c1 _ w2 h2 hb1 (by simp only; omega) (by simp only; have := hadv.1; omega)) ?_
      rintro _ w3 ⟨b, s3, rfl, ⟨A3, c3, h3⟩, hR3⟩
      have hI3 := hI.step (k := 4) hlim (fun _ _ _ => rfl) (fun _ _ => rfl) hb1 hc.2 hR3 hle1
      have q1 := hR3.1.1
      have q2 := hR3.1.2
      simp only at q1 q2
      refine call (rput_fn w0 base r D A3 c3 s3 ⟨4, 0, a, b⟩ w3 hD h3 (by omega)) ?_
      rintro _ w4 ⟨rfl, hT4⟩
      exact ⟨(((s3.f.length : Nat) : Int), _), rfl, ⟨hT4, hI3⟩, by show D.toks.length - s3.at_ < D.toks.length - s1.at_; omega⟩
    · rw [if_neg hc, decide_eq_false hc]
      rintro _ w2 ⟨rfl, h2⟩
      refine wif_f rfl ?_
      refine ⟨a, s1, rfl, ⟨A1, c1, h2⟩, hI.done (.inr (fun hh => hc ⟨?_, hh⟩))⟩
      rw [List.head?_drop] at hh
      exact (List.getElem?_eq_some_iff.1 hh).1

theorem rexpr_fn (w0 : World) (base r : Nat) (D : RD) (k : Nat) (opt : List (List Nat) → Option (Fm × Bool × List (List Nat))) (hD : RDok w0 D) (hlim : LimT opt) (H : RdFn w0 base r D 173 k opt) :
    RdFn w0 base r D 155 k (chainT [124, 124] .or opt) := by
  intro A c s w h hb hle hk
  refine fn_of_exec (c := { c155 with cuts := [] }) gx_ok Tryz.func155 rfl rfl rfl ?_
  refine call (H A c s w h hb hle hk) ?_
  rintro _ w1 ⟨a1, s1, rfl, hT1, hR1⟩
  refine loop gx_ok [3] (fun σ : Int × Rs => [.int .i64 σ.1]) (fun σ w' => RTo w0 base r D σ.2 w' ∧ LoI D [124, 124] .or opt s (chainT [124, 124] .or opt (D.toks.drop s.at_)) σ.1 σ.2) (fun σ _ => D.toks.length - σ.2.at_) (a1, s1) rfl ⟨hT1, LoI.first hR1⟩ ?_
  rintro ⟨a, s1⟩ w1 ⟨⟨A1, c1, h1⟩, hI⟩
  simp only at h1 hI
  have hadv := hI.1
  have hle1 : s1.f.length ≤ s1.at_ := by have := hadv.1; have := hadv.2; omega
  refine load_blk h1.blk rfl ?_
  cases hb1 : s1.bad with
  | true =>
    refine wif_f rfl ?_
    exact ⟨a, s1, rfl, ⟨A1, c1, h1⟩, hI.done (.inl hb1)⟩
  | false =>
    refine wif_t rfl ?_
    refine call (rnext_fn w0 base r D A1 c1 s1 [124, 124] w1 hD h1 (by decide)) ?_
    by_cases hc : s1.at_ < D.toks.length ∧ (D.toks.drop s1.at_).head? = some [124, 124]
    · rw [if_pos hc, decide_eq_true hc]
      rintro _ w2 ⟨rfl, h2⟩
      refine wif_t rfl ?_
      refine call (H A1 c1 _ w2 h2 hb1 (by simp only; omega) (by simp only; have := hadv.1; omega)) ?_
      rintro _ w3 ⟨b, s3, rfl, ⟨A3, c3, h3⟩, hR3⟩
      have hI3 := hI.step (k := 5) hlim (fun _ _ _ => rfl) (fun _ _ => rfl) hb1 hc.2 hR3 hle1
      have q1 := hR3.1.1
      have q2 := hR3.1.2
      simp only at q1 q2
      refine call (rput_fn w0 base r D A3 c3 s3 ⟨5, 0, a, b⟩ w3 hD h3 (by omega)) ?_
      rintro _ w4 ⟨rfl, hT4⟩
      exact ⟨(((s3.f.length : Nat) : Int), _), rfl, ⟨hT4, hI3⟩, by show D.toks.length - s3.at_ < D.toks.length - s1.at_; omega⟩
    · rw [if_neg hc, decide_eq_false hc]
      rintro _ w2 ⟨rfl, h2⟩
      refine wif_f rfl ?_
      refine ⟨a, s1, rfl, ⟨A1, c1, h2⟩, hI.done (.inr (fun hh => hc ⟨?_, hh⟩))⟩
      rw [List.head?_drop] at hh
      exact (List.getElem?_eq_some_iff.1 hh).1
end

section
open Go Go.RowKit

/-- A node for a token. -/
theorem rword_out {D : RD} {s : Rs} {t : List Nat} {ix : List Nat → Option Nat} {n : Nat} (hr : D.toks.drop s.at_ = t :: D.toks.drop (s.at_ + 1)) (hb : s.bad = false) (h33 : t ≠ [33]) (h40 : t ≠ [40]) (hw : isWord t = true) {f : Fm} {u : Bool} (hx : wordT ix t = (f, u)) (hf : szF f = 1) (uk : Bool) (hu : uk = (s.unk || u)) :
    ROut D s (facT ix (n + 1) (D.toks.drop s.at_)) ((s.f.length : Nat) : Int) ⟨s.at_ + 1, s.f ++ postF f s.f.length, s.bad, uk⟩ := by
  refine ⟨⟨by simp only; omega, by simp only [List.length_append, postF_len]; omega⟩, ?_⟩
  rw [hr]
  unfold facT
  rw [if_neg h33, if_neg h40, if_pos hw, hx]
  exact ⟨by rw [hf]; rfl, rfl, hb, hu, rfl⟩

theorem rfactor_fn (w0 : World) (base r : Nat) (D : RD) (hD : RDok w0 D) (ix : List Nat → Option Nat) (hix : ∀ l, ix l = ixF l D.names) : ∀ n, RdFn w0 base r D 186 n (facT ix n)
  | 0 => fun A c s w h hb hle hk => by omega
  | n + 1 => fun A c s w h hb hle hk => by
    have ih := rfactor_fn w0 base r D hD ix hix n
    have hE := rexpr_fn w0 base r D n _ hD (andT_lim ix n) (rconj_fn w0 base r D n _ hD (facT_lim ix n) ih)
    have hlim := hD.lim
    have hln := hD.ln
    refine fn_of_exec (c := { c186 with cuts := [] }) gx_ok Tryz.func186 rfl rfl rfl ?_
    refine call (rnext_fn w0 base r D A c s [33] w hD h (by decide)) ?_
    by_cases c1 : s.at_ < D.toks.length ∧ (D.toks.drop s.at_).head? = some [33]
    · rw [if_pos c1, decide_eq_true c1]
      rintro _ w1 ⟨rfl, h1⟩
      refine wif_t rfl ?_
      refine call (ih A c _ w1 h1 hb (by simp only; omega) (by simp only; omega)) ?_
      rintro _ w2 ⟨a, s2, rfl, ⟨A2, c2, h2⟩, hR2⟩
      have q1 := hR2.1.1
      have q2 := hR2.1.2
      simp only at q1 q2
      refine call (rput_fn w0 base r D A2 c2 s2 ⟨3, 0, a, 0⟩ w2 hD h2 (by omega)) ?_
      rintro _ w3 ⟨rfl, hT3⟩
      refine ⟨_, _, rfl, hT3, ⟨by simp only; omega, by simp only [List.length_append, List.length_cons, List.length_nil]; omega⟩, ?_⟩
      have hr2 := hR2.2
      simp only at hr2
      rw [drop_head c1.2]
      unfold facT
      rw [if_pos rfl]
      cases ho : facT ix n (D.toks.drop (s.at_ + 1)) with
      | none => rw [ho] at hr2; exact hr2
      | some q =>
        obtain ⟨t, u, ts⟩ := q
        rw [ho] at hr2
        obtain ⟨g1, g2, g3, g4, g5⟩ := hr2
        have pt := szF_pos t
        refine ⟨?_, ?_, g3, g4, g5⟩
        · rw [g2, List.length_append, postF_len]; rfl
        · simp only; rw [g2, g1]; simp [postF]
    rw [if_neg c1, decide_eq_false c1]
    rintro _ w1 ⟨rfl, h1⟩
    refine wif_f rfl ?_
    refine call (rnext_fn w0 base r D A c s trueL w1 hD h1 (by decide)) ?_
    by_cases c2 : s.at_ < D.toks.length ∧ (D.toks.drop s.at_).head? = some trueL
    · rw [if_pos c2, decide_eq_true c2]
      rintro _ w2 ⟨rfl, h2⟩
      refine wif_t rfl ?_
      refine call (rput_fn w0 base r D A c _ ⟨1, 0, 0, 0⟩ w2 hD h2 (by simp only; omega)) ?_
      rintro _ w3 ⟨rfl, hT3⟩
      exact ⟨_, _, rfl, hT3, rword_out (f := .c true) (u := false) (drop_head c2.2) hb (by decide) (by decide) (by decide) rfl rfl s.unk (by simp)⟩
    rw [if_neg c2, decide_eq_false c2]
    rintro _ w2 ⟨rfl, h2⟩
    refine wif_f rfl ?_
    refine call (rnext_fn w0 base r D A c s falseL w2 hD h2 (by decide)) ?_
    by_cases c3 : s.at_ < D.toks.length ∧ (D.toks.drop s.at_).head? = some falseL
    · rw [if_pos c3, decide_eq_true c3]
      rintro _ w3 ⟨rfl, h3⟩
      refine wif_t rfl ?_
      refine call (rput_fn w0 base r D A c _ ⟨0, 0, 0, 0⟩ w3 hD h3 (by simp only; omega)) ?_
      rintro _ w4 ⟨rfl, hT4⟩
      exact ⟨_, _, rfl, hT4, rword_out (f := .c false) (u := false) (drop_head c3.2) hb (by decide) (by decide) (by decide) rfl rfl s.unk (by simp)⟩
    rw [if_neg c3, decide_eq_false c3]
    rintro _ w3 ⟨rfl, h3⟩
    refine wif_f rfl ?_
    refine call (rnext_fn w0 base r D A c s [40] w3 hD h3 (by decide)) ?_
    by_cases c4 : s.at_ < D.toks.length ∧ (D.toks.drop s.at_).head? = some [40]
    · rw [if_pos c4, decide_eq_true c4]
      rintro _ w4 ⟨rfl, h4⟩
      refine wif_t rfl ?_
      refine call (hE A c _ w4 h4 hb (by simp only; omega) (by simp only; omega)) ?_
      rintro _ w5 ⟨a, s5, rfl, ⟨A5, c5, h5⟩, hR5⟩
      have q1 := hR5.1.1
      have q2 := hR5.1.2
      have hr5 := hR5.2
      simp only at q1 q2 hr5
      refine call (rnext_fn w0 base r D A5 c5 s5 [41] w5 hD h5 (by decide)) ?_
      by_cases c5' : s5.at_ < D.toks.length ∧ (D.toks.drop s5.at_).head? = some [41]
      · rw [if_pos c5', decide_eq_true c5']
        rintro _ w6 ⟨rfl, h6⟩
        refine wif_f rfl ?_
        refine ⟨a, _, rfl, ⟨A5, c5, h6⟩, ⟨by simp only; omega, by simp only; omega⟩, ?_⟩
        rw [drop_head c4.2]
        unfold facT
        rw [if_neg (by decide), if_pos rfl]
        cases ho : chainT [124, 124] Fm.or (chainT [38, 38] Fm.and (facT ix n)) (D.toks.drop (s.at_ + 1)) with
        | none => rw [ho] at hr5; exact hr5
        | some q =>
          obtain ⟨t, u, ts⟩ := q
          rw [ho] at hr5
          obtain ⟨g1, g2, g3, g4, g5⟩ := hr5
          simp only
          rw [← g5, if_pos c5'.2, drop_head c5'.2]
          exact ⟨g1, g2, g3, g4, rfl⟩
      · rw [if_neg c5', decide_eq_false c5']
        rintro _ w6 ⟨rfl, h6⟩
        refine wif_t rfl ?_
        refine store_mod h6.blk (by simp) (fun w7 hM7 hB7 => ?_)
        refine ⟨a, _, rfl, ⟨A5, c5, h6.set (s' := { s5 with bad := true }) hM7 rfl h6.le hB7⟩, ⟨by simp only; omega, by simp only; omega⟩, ?_⟩
        rw [drop_head c4.2]
        unfold facT
        rw [if_neg (by decide), if_pos rfl]
        cases ho : chainT [124, 124] Fm.or (chainT [38, 38] Fm.and (facT ix n)) (D.toks.drop (s.at_ + 1)) with
        | none => rfl
        | some q =>
          obtain ⟨t, u, ts⟩ := q
          rw [ho] at hr5
          obtain ⟨g1, g2, g3, g4, g5⟩ := hr5
          simp only
          rw [← g5, if_neg (fun hh => c5' ⟨by rw [List.head?_drop] at hh; exact (List.getElem?_eq_some_iff.1 hh).1, hh⟩)]
          trivial
    rw [if_neg c4, decide_eq_false c4]
    rintro _ w4 ⟨rfl, h4⟩
    refine wif_f rfl ?_
    have fail : facT ix (n + 1) (D.toks.drop s.at_) = none → ∀ (A c) (w w' : World), Rq w0 w base r D A c s → Mod (· = r) w w' → Blk w' r 218 [.slice D.NA D.nn D.nc, .slice D.LA D.ln D.lc, .int .i64 s.at_, .slice A s.f.length c, .bool true, .bool s.unk] →
        ∃ (a : Int) (s' : Rs), (Value.int .i64 0) = .int .i64 a ∧ RTo w0 base r D s' w' ∧ ROut D s (facT ix (n + 1) (D.toks.drop s.at_)) a s' := fun hn A c w w' h hM hB => by
      rw [hn]
      exact ⟨0, { s with bad := true }, rfl, ⟨A, c, h.set hM rfl h.le hB⟩, RAdv.refl s, rfl⟩
    have q : ∀ (j : Nat) (v : Value), [Value.slice D.NA D.nn D.nc, .slice D.LA D.ln D.lc, .int .i64 s.at_, .slice A s.f.length c, .bool s.bad, .bool s.unk][j]? = some v → ∀ w', Ext w4 w' → w'.cell? ((⟨r, 0, none⟩ : Addr).add j) = some v := fun j v hj w' hw' => by rw [(h4.blk.ext hw').cell]; exact hj
    have hd := h4.ext (Ext.drew w4)
    refine draw_plan gx_ok (Ext w4) 24 [(true, 0), (true, 1), (true, 2), (true, 3), (true, 4), (true, 5), (true, 6), (true, 7), (true, 8), (true, 9), (true, 10), (true, 11), (true, 12), (true, 13), (true, 14), (true, 15), (true, 16), (true, 17), (true, 18), (true, 19), (true, 20), (false, 21), (true, 22), (true, 23)] (by kernel_rfl) (Ext.drew w4) ?_
    refine qload (q 2 _ rfl) ?_
    refine qload (q 1 _ rfl) ?_
    refine wif_d (fun hlt => ?_) (fun hlt => ?_)
    · have hgs : D.toks[s.at_]? = some D.toks[s.at_] := List.getElem?_eq_getElem (by omega)
      generalize D.toks[s.at_] = t at hgs
      obtain ⟨ht8, htl⟩ := hD.tb t (List.mem_of_getElem? hgs)
      have hhd := head_eq hgs
      have hrest := drop_head hhd
      have n33 : t ≠ [33] := fun e => c1 ⟨by omega, by rw [hhd, e]⟩
      have n40 : t ≠ [40] := fun e => c4 ⟨by omega, by rw [hhd, e]⟩
      have nt : t ≠ trueL := fun e => c2 ⟨by omega, by rw [hhd, e]⟩
      have nf : t ≠ falseL := fun e => c3 ⟨by omega, by rw [hhd, e]⟩
      have hwf := hD.wf t (List.mem_of_getElem? hgs)
      refine qload (q 1 _ rfl) ?_
      refine qload (q 2 _ rfl) ?_
      refine index_sl (hD.tks.ext h4.e0) (by omega) (fun ad u hA hu hcell => ?_)
      rw [strsV_get hgs] at hu
      cases hu
      refine qload (fun w' hw' => hw'.cell hcell) ?_
      refine call (ident_fn t _ ht8 (by omega)) ?_
      rintro _ _ ⟨rfl, rfl⟩
      refine ⟨Ext.drew w4, ?_⟩
      cases hid : identB t with
      | false =>
        refine wif_f rfl ?_
        rw [hwf] at hid
        refine store_mod hd.blk (by simp) (fun w7 hM7 hB7 => ?_)
        refine fail ?_ A c _ w7 hd hM7 hB7
        rw [hrest]
        unfold facT
        rw [if_neg n33, if_neg n40, if_neg (by rw [hid]; decide)]
      | true =>
        refine wif_t rfl ?_
        rw [hwf] at hid
        have q' : ∀ (j : Nat) (v : Value), [Value.slice D.NA D.nn D.nc, .slice D.LA D.ln D.lc, .int .i64 s.at_, .slice A s.f.length c, .bool s.bad, .bool s.unk][j]? = some v → ∀ w', Ext w4.drew w' → w'.cell? ((⟨r, 0, none⟩ : Addr).add j) = some v := fun j v hj w' hw' => by rw [(hd.blk.ext hw').cell]; exact hj
        refine draw_plan gx_ok (Ext w4.drew) 16 [(true, 0), (true, 1), (true, 2), (true, 3), (true, 4), (true, 5), (true, 6), (true, 7), (true, 8), (true, 9), (true, 10), (true, 11), (true, 12), (true, 13), (false, 14), (true, 15)] (by kernel_rfl) (Ext.drew w4.drew) ?_
        refine qload (q' 0 _ rfl) ?_
        refine qload (q' 1 _ rfl) ?_
        refine qload (q' 2 _ rfl) ?_
        refine index_sl (hD.tks.ext hd.e0) (by omega) (fun ad u hA hu hcell => ?_)
        rw [strsV_get hgs] at hu
        cases hu
        refine qload (fun w' hw' => hw'.cell hcell) ?_
        have hdd := hd.ext (Ext.drew w4.drew)
        refine call (rindex_fn D.names D.NA D.nn D.nc t _ (hD.nms.ext hdd.e0) (fun u hu => (hD.nb u hu).1) ht8) ?_
        rintro _ _ ⟨rfl, rfl⟩
        refine ⟨Ext.drew w4.drew, ?_⟩
        refine load_blk hdd.blk rfl ?_
        refine norm_i64_to ((s.at_ + 1 : Nat) : Int) (by omega) (by omega) ?_
        refine store_mod hdd.blk (by simp) (fun w7 hM7 hB7 => ?_)
        have h7 : Rq w0 w7 base r D A c { s with at_ := s.at_ + 1 } := hdd.set hM7 rfl (by simp only; omega) hB7
        have hixt := hix t
        unfold ixI
        cases hi : ixF t D.names with
        | none =>
          rw [hi] at hixt
          refine wif_dt (by decide) ?_
          refine store_mod h7.blk (by simp) (fun w8 hM8 hB8 => ?_)
          have h8 : Rq w0 w8 base r D A c { s with at_ := s.at_ + 1, unk := true } := h7.set hM8 rfl h7.le hB8
          refine call (rput_fn w0 base r D A c _ ⟨2, 0, 0, 0⟩ w8 hD h8 (by simp only; omega)) ?_
          rintro _ w9 ⟨rfl, hT9⟩
          exact ⟨_, _, rfl, hT9, rword_out (f := .v 0) (u := true) hrest hb n33 n40 hid (by unfold wordT; rw [if_neg nt, if_neg nf, hixt]; rfl) rfl true (by simp)⟩
        | some i =>
          rw [hi] at hixt
          refine wif_df (by simp only; omega) ?_
          refine call (rput_fn w0 base r D A c _ ⟨2, (i : Int), 0, 0⟩ w7 hD h7 (by simp only; omega)) ?_
          rintro _ w9 ⟨rfl, hT9⟩
          exact ⟨_, _, rfl, hT9, rword_out (f := .v i) (u := false) hrest hb n33 n40 hid (by unfold wordT; rw [if_neg nt, if_neg nf, hixt]; rfl) rfl s.unk (by simp)⟩
    · refine store_mod hd.blk (by simp) (fun w7 hM7 hB7 => ?_)
      refine fail ?_ A c _ w7 hd hM7 hB7
      rw [List.drop_of_length_le (by omega)]
      rfl
end

section
open Go Go.RowKit

theorem lex_mem : ∀ (n : Nat) (l : List Nat), ∀ t ∈ (lexF n l).1, (∀ x ∈ t, x ∈ l) ∧ t.length ≤ l.length ∧ identB t = isWord t
  | 0, l, t, h => by cases h
  | n + 1, [], t, h => by cases h
  | n + 1, b :: l, t, h => by
    have up : ∀ l' : List Nat, (∀ x ∈ l', x ∈ b :: l) → l'.length ≤ (b :: l).length → (∀ x ∈ t, x ∈ l') ∧ t.length ≤ l'.length ∧ identB t = isWord t → (∀ x ∈ t, x ∈ b :: l) ∧ t.length ≤ (b :: l).length ∧ identB t = isWord t := fun l' h1 h2 h3 => ⟨fun x hx => h1 x (h3.1 x hx), Nat.le_trans h3.2.1 h2, h3.2.2⟩
    have tl : ∀ x ∈ l, x ∈ b :: l := fun x hx => List.mem_cons_of_mem _ hx
    simp only [lexF] at h
    split at h
    · exact up l tl (by simp) (lex_mem n l t h)
    · split at h
      · rename_i hb
        simp only [List.mem_cons] at h
        rcases h with rfl | h
        · refine ⟨by simp, by simp, ?_⟩
          rcases hb with rfl | rfl | rfl <;> rfl
        · exact up l tl (by simp) (lex_mem n l t h)
      · split at h
        · rename_i hb
          simp only [List.mem_cons] at h
          rcases h with rfl | h
          · refine ⟨by simp, ?_, ?_⟩
            · cases l with
              | nil => simp at hb
              | cons y l => simp
            · rcases hb.1 with rfl | rfl <;> rfl
          · exact up l.tail (fun x hx => tl x (List.mem_of_mem_tail hx)) (by simp [List.length_tail]; omega) (lex_mem n l.tail t h)
        · split at h
          · rename_i hb
            simp only [List.mem_cons] at h
            rcases h with rfl | h
            · refine ⟨fun x hx => (List.takeWhile_prefix isId).subset hx, (List.takeWhile_prefix isId).length_le, ?_⟩
              unfold identB
              rw [List.all_takeWhile, Bool.and_true]
            · exact up _ (fun x hx => (List.dropWhile_suffix isId).subset hx) (dropWhile_len _ _) (lex_mem n _ t h)
          · cases h

theorem rparse_fn (names : List (List Nat)) (A : Option Addr) (n c : Nat) (s : List Nat) (w : World) (h : Sl w 1 A n c (strsV names)) (hb : NamesOk names) (hs : ∀ x ∈ s, x < 256) (hl : s.length ≤ 1000000000000) :
    Fn Tryz.prog 123 [.slice A n c, .string (strOf s)] w (FzRes w (parseP names s)) := by
  rw [parse_tok]
  unfold parseK
  refine fn_of_exec (c := { c123 with cuts := [] }) gx_ok Tryz.func123 rfl rfl rfl ?_
  refine call (rnames_fn names A n c w h hb) ?_
  rintro _ w1 ⟨rfl, hE1⟩
  cases hn : numsOk names with
  | false =>
    refine wif_t rfl ?_
    exact ⟨none, 0, 0, rfl, hE1, SlS.nil _⟩
  | true =>
    refine wif_f rfl ?_
    refine call (tokens_fn s w1 hs hl) ?_
    rintro _ w2 ⟨LA, ln, lc, rfl, hE2, hL⟩
    have hE02 := hE1.trans hE2
    cases hf : (lexA s).2 with
    | false =>
      refine wif_t rfl ?_
      exact ⟨none, 0, 0, rfl, hE02, SlS.nil _⟩
    | true =>
      refine wif_f rfl ?_
      rw [hf] at hL
      have hmem := lex_mem s.length s
      let D : RD := ⟨A, n, c, names, LA, ln, lc, (lexA s).1⟩
      have hD : RDok w2 D := ⟨h.ext hE02, hL, hb, fun t ht => ⟨fun x hx => hs x ((hmem t ht).1 x hx), by have := (hmem t ht).2.1; omega⟩, fun t ht => (hmem t ht).2.2, by have := tok_le s.length s; show (lexF s.length s).1.length ≤ _; omega⟩
      refine new (fun w4 hE24 hz4 hB4 => ?_)
      have hq : Rq w2 w4 (w2.heap.size + 1) w2.heap.size D none 0 ⟨0, [], false, false⟩ := ⟨hE24, Nat.le_refl _, Nat.lt_succ_self _, by omega, hB4, Own.nil _ _ _ _, Nat.zero_le _⟩
      have hix : ∀ l, ixN names l = ixF l D.names := fun l => (ixF_ixN ((numsOk_iff hb).1 hn).2.1 l).symm
      have hE := rexpr_fn w2 (w2.heap.size + 1) w2.heap.size D (s.length + 1) _ hD (andT_lim (ixN names) (s.length + 1)) (rconj_fn w2 (w2.heap.size + 1) w2.heap.size D (s.length + 1) _ hD (facT_lim (ixN names) (s.length + 1)) (rfactor_fn w2 (w2.heap.size + 1) w2.heap.size D hD (ixN names) hix (s.length + 1)))
      refine call (hE none 0 _ w4 hq rfl (Nat.le_refl _) (by have := tok_le s.length s; show (lexF s.length s).1.length - 0 < _; omega)) ?_
      rintro _ w5 ⟨a, s5, rfl, ⟨A5, c5, h5⟩, hR5⟩
      have hE05 := hE02.trans h5.e0
      have hr := hR5.2
      have e0 : wholeT (ixN names) (s.length + 1) (lexA s).1 = chainT [124, 124] Fm.or (andT (ixN names) (s.length + 1)) (List.drop 0 D.toks) := rfl
      rw [e0]
      have q : ∀ (j : Nat) (v : Value), [Value.slice D.NA D.nn D.nc, .slice D.LA D.ln D.lc, .int .i64 s5.at_, .slice A5 s5.f.length c5, .bool s5.bad, .bool s5.unk][j]? = some v → ∀ w', Ext w5 w' → w'.cell? ((⟨w2.heap.size, 0, none⟩ : Addr).add j) = some v := fun j v hj w' hw' => by rw [(h5.blk.ext hw').cell]; exact hj
      have hd := h5.ext (Ext.drew w5)
      have hE0d := hE05.trans (Ext.drew w5)
      refine draw_plan gx_ok (Ext w5) 17 [(true, 0), (true, 1), (true, 2), (true, 3), (true, 4), (true, 5), (true, 6), (true, 7), (true, 8), (true, 9), (true, 10), (true, 11), (true, 12), (true, 13), (true, 14), (true, 15), (true, 16)] (by kernel_rfl) (Ext.drew w5) ?_
      refine qload (q 4 _ rfl) ?_
      cases hbd : s5.bad with
      | true =>
        refine wif_t rfl ?_
        refine ⟨none, 0, 0, ?_, hE0d, ?_⟩
        all_goals
          cases ho : chainT [124, 124] Fm.or (andT (ixN names) (s.length + 1)) (List.drop 0 D.toks) with
          | some q => obtain ⟨t, u, ts⟩ := q; rw [ho] at hr; have := hr.2.2.1; rw [hbd] at this; cases this
          | none => first | rfl | exact SlS.nil _
      | false =>
        refine wif_f rfl ?_
        refine qload (q 2 _ rfl) ?_
        refine qload (q 1 _ rfl) ?_
        cases ho : chainT [124, 124] Fm.or (andT (ixN names) (s.length + 1)) (List.drop 0 D.toks) with
        | none => rw [ho] at hr; have : s5.bad = true := hr; rw [hbd] at this; cases this
        | some q =>
          obtain ⟨t, u, ts⟩ := q
          rw [ho] at hr
          obtain ⟨g1, g2, g3, g4, g5⟩ := hr
          have hln := hD.ln
          have hle := h5.le
          simp only
          refine wif_d (fun hlt => ?_) (fun hlt => ?_)
          · have hne : ts ≠ [] := fun e => by
              rw [e] at g5
              have := congrArg List.length g5
              rw [List.length_drop] at this
              simp at this; omega
            rw [if_pos trivial, if_pos trivial, if_pos hne]
            exact ⟨none, 0, 0, rfl, hE0d, SlS.nil _⟩
          · have hne : ts = [] := by rw [← g5]; exact List.drop_of_length_le (by omega)
            refine load_blk hd.blk rfl ?_
            simp only [List.nil_append, List.length_nil, Bool.false_or] at g2 g4
            rw [if_pos trivial, if_pos trivial, if_neg (fun h => h hne), ← g4]
            have hlen : s5.f.length = szF t := by rw [g2, postF_len]
            cases hu : s5.unk with
            | true =>
              refine wif_t rfl ?_
              exact ⟨none, 0, 0, rfl, hE0d, SlS.nil _⟩
            | false =>
              refine wif_f rfl ?_
              refine load_blk hd.blk rfl ?_
              rw [if_neg (by decide)]
              refine wif_d (fun hc => ?_) (fun hc => ?_)
              · rw [if_pos (by omega)]
                exact ⟨none, 0, 0, rfl, hE0d, SlS.nil _⟩
              · refine load_blk hd.blk rfl ?_
                rw [if_neg (by omega)]
                exact ⟨A5, s5.f.length, c5, rfl, hE0d, by rw [← g2]; exact ⟨hd.own.sl, rfl⟩⟩
end
end Go.Proofs.YtedopgkbajhanaaGreatDoor
