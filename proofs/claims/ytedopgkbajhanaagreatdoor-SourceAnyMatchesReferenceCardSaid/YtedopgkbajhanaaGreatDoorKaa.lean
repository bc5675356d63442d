/-
  formula: identifier, numbers.
  formula: numbers.
  Conditions: none.
-/
import Derived.Test.YtedopgkbajhanaaGreatDoorKa
import Derived.Test.YtedopgkbajhanaaGreatDoorMap
namespace Go.Proofs.YtedopgkbajhanaaGreatDoor
section
open Go Go.RowKit

theorem takeWhile_all {p : Nat → Bool} {l : List Nat} (h : l.all p = true) : l.takeWhile p = l := by
  induction l with
  | nil => rfl
  | cons x l ih =>
    simp only [List.all_cons, Bool.and_eq_true] at h
    rw [List.takeWhile_cons, if_pos h.1, ih h.2]
theorem idLen_cons (b : Nat) (l : List Nat) : idLen (b :: l) = if isDig b then 0 else ((b :: l).takeWhile isId).length := rfl
theorem idLen_le (l : List Nat) : idLen l ≤ l.length := by
  cases l with
  | nil => exact Nat.le_refl _
  | cons b l =>
    rw [idLen_cons]
    split
    · exact Nat.zero_le _
    · exact (List.takeWhile_sublist _).length_le

theorem identifier_fn (l : List Nat) (w : World) (hl : ∀ x ∈ l, x < 256) (hlen : l.length ≤ 9223372036854775807) :
    Fn Tryz.prog 107 [.string (strOf l)] w (fun v w' => v = .int .i64 (idLen l : Nat) ∧ Ext w w') := by
  refine fn_of_exec (c := { c107 with cuts := [2] }) gx_ok Tryz.func107 rfl rfl rfl ?_
  refine call (indexf_fn l w hl) ?_
  rintro v w1 ⟨rfl, hE1⟩
  have hT : (l.takeWhile isId).length ≤ l.length := (List.takeWhile_sublist _).length_le
  refine cutIn [] gx_ok [3] (fun n : Nat => [.int .i64 n]) (fun n w' => w1 = w' ∧ n = (l.takeWhile isId).length) ?_ ?_
  · cases ha : l.all isId with
    | true =>
      rw [if_pos rfl]
      refine wif_dt (by omega) ?_
      exact ⟨(strOf l).size, rfl, rfl, by rw [strOf_size, takeWhile_all ha]⟩
    | false =>
      rw [if_neg (by simp)]
      refine wif_df (by omega) ?_
      exact ⟨(l.takeWhile isId).length, rfl, rfl, rfl⟩
  rintro n _ ⟨rfl, hn⟩
  cases l with
  | nil =>
    have : n = 0 := by simpa using hn
    subst this
    refine wif_df (by omega) ?_
    exact ⟨rfl, hE1⟩
  | cons b l =>
    have hb8 := hl b (by simp)
    have hS : (strOf (b :: l)).size = l.length + 1 := by rw [strOf_size]; rfl
    by_cases hd : isDig b = true
    · have hid : isId b = true := by unfold isId; rw [hd, Bool.or_true]
      have hdb : 48 ≤ b ∧ b ≤ 57 := by unfold isDig at hd; simpa using hd
      have hn0 : 0 < n := by rw [hn, List.takeWhile_cons, if_pos hid]; simp
      refine wif_dt (by omega) ?_
      refine sindex' (s := strOf (b :: l)) (j := 0) (by rw [hS]; omega) (fun x hx hx8 => ?_)
      have hxb : x = b := by rw [bytesOf_strOf hl] at hx; simpa using hx.symm
      subst hxb
      refine wif_dt (by omega) ?_
      refine sindex' (s := strOf (x :: l)) (j := 0) (by rw [hS]; omega) (fun y hy hy8 => ?_)
      have hyb : y = x := by rw [bytesOf_strOf hl] at hy; simpa using hy.symm
      subst hyb
      refine wif_dt (by omega) ?_
      exact ⟨by rw [idLen_cons, if_pos hd]; rfl, hE1⟩
    · have hid : idLen (b :: l) = n := by rw [idLen_cons, if_neg hd, hn]
      rw [hid]
      by_cases hn0 : 0 < n
      · have hdb : ¬ (48 ≤ b ∧ b ≤ 57) := fun h => hd (by unfold isDig; simpa using h)
        refine wif_dt (by omega) ?_
        refine sindex' (s := strOf (b :: l)) (j := 0) (by rw [hS]; omega) (fun x hx hx8 => ?_)
        have hxb : x = b := by rw [bytesOf_strOf hl] at hx; simpa using hx.symm
        subst hxb
        refine wif_d (fun h1 => ?_) (fun h1 => ?_)
        · refine sindex' (s := strOf (x :: l)) (j := 0) (by rw [hS]; omega) (fun y hy hy8 => ?_)
          have hyb : y = x := by rw [bytesOf_strOf hl] at hy; simpa using hy.symm
          subst hyb
          refine wif_df (by omega) ?_
          exact ⟨rfl, hE1⟩
        · exact ⟨rfl, hE1⟩
      · refine wif_df (by omega) ?_
        exact ⟨rfl, hE1⟩

/-! ### Names -/
/-- A list of strings in memory. -/
def strsV (l : List (List Nat)) : List Value := l.map fun s => .string (strOf s)
theorem strsV_get {l : List (List Nat)} {j : Nat} {s : List Nat} (h : l[j]? = some s) : (strsV l)[j]? = some (.string (strOf s)) := by simp [strsV, h]
theorem strsV_length (l : List (List Nat)) : (strsV l).length = l.length := by simp [strsV]

def trueL : List Nat := [116, 114, 117, 101]
def falseL : List Nat := [102, 97, 108, 115, 101]
/-- A name. -/
def nameOk (s : List Nat) : Bool := decide (s ≠ [] ∧ idLen s = s.length ∧ s ≠ trueL ∧ s ≠ falseL)
/-- The map of the names so far. -/
def nameM : List (List Nat) → Nat → List (ByteArray × Value) → List (ByteArray × Value)
  | [], _, m => m
  | s :: l, i, m => nameM l (i + 1) (assocSet (strOf s) (.int .i64 (i : Nat)) m)
theorem nameM_app : ∀ (l : List (List Nat)) (s : List Nat) (i : Nat) (m : List (ByteArray × Value)), nameM (l ++ [s]) i m = assocSet (strOf s) (.int .i64 ((i + l.length : Nat) : Int)) (nameM l i m)
  | [], s, i, m => rfl
  | t :: l, s, i, m => by
    simp only [List.cons_append, nameM]
    rw [nameM_app l s (i + 1)]
    congr 3
    simp only [List.length_cons]
    omega
end

section
open Go Go.RowKit

theorem at_maplen {α : Type} {kv : α → Value} {c : Cx} (hg : c.g.Ok) {o : Oper} {S : Env} {w : World} {K : Env → World → Prop} {Q : Post} {t q ke e : Nat} {x : Operand} {m : List (α × Value)} {r : TyRow}
    (ho : o.op = .call ⟨.builtin .len, #[x], #[t]⟩) (hr : rowOf c.g.tys t = some r) (hd : r.d = .map ke e) (hx : S.ev x = some (.map (some q))) (hm : MapAt kv w q m)
    (k : putK c S o.dst (.v (.int .i64 m.length)) (fun S => K S w)) : AtOp c o S w K Q := by
  have hr' := (hg.row hr).1
  rw [hd] at hr'
  obtain ⟨bs, ck, hl, hb⟩ := hm.ex
  refine at_run (w' := w) (v := .int .i64 m.length) (fun a hf => ?_) k
  have e1 := hf.ev hx
  have hgo : (getObj q).run c.g.P w = .ok (.map (entsOf kv m bs).toArray ck) w := by simp [getObj, Sem.run, hb]
  have hle : (entsOf kv m bs).length = m.length := by simp [entsOf, hl]
  simp only [execOp, ho, resolve, invoke]
  simp [builtin, e1, Builtin.len_, run_underlying hr', hgo, goInt, hle]

abbrev strK : ByteArray → Value := fun s => .string s

/-- Is this list of names valid? -/
def numsOk (names : List (List Nat)) : Bool := decide (names.all nameOk = true ∧ (nameM names 0 []).length = names.length ∧ names.length ≤ 64)

theorem all_take {names : List (List Nat)} {j : Nat} {s : List Nat} (h : (names.take j).all nameOk = true) (hj : names[j]? = some s) (hs : nameOk s = true) : (names.take (j + 1)).all nameOk = true := by
  rw [List.take_add_one, hj]; simp [List.all_append, h, hs]
theorem not_all {names : List (List Nat)} {j : Nat} {s : List Nat} (hj : names[j]? = some s) (hs : nameOk s ≠ true) : numsOk names = false := by
  unfold numsOk
  refine decide_eq_false (fun h => hs ?_)
  exact List.all_eq_true.1 h.1 s (List.mem_of_getElem? hj)
theorem nameM_take {names : List (List Nat)} {j : Nat} {s : List Nat} (hj : names[j]? = some s) : nameM (names.take (j + 1)) 0 [] = assocSet (strOf s) (.int .i64 (j : Nat)) (nameM (names.take j) 0 []) := by
  have hlt : j < names.length := (List.getElem?_eq_some_iff.1 hj).1
  rw [List.take_add_one, hj]
  show nameM (names.take j ++ [s]) 0 [] = _
  rw [nameM_app, List.length_take, Nat.min_eq_left (by omega), Nat.zero_add]
theorem trueL_str : (⟨#[116, 114, 117, 101]⟩ : ByteArray) = strOf trueL := rfl
theorem falseL_str : (⟨#[102, 97, 108, 115, 101]⟩ : ByteArray) = strOf falseL := rfl

def NamesOk (names : List (List Nat)) : Prop := ∀ s ∈ names, (∀ x ∈ s, x < 256) ∧ s.length ≤ 9223372036854775807

theorem numbers_fn (names : List (List Nat)) (A : Option Addr) (n c : Nat) (w : World) (h : Sl w 1 A n c (strsV names)) (hb : NamesOk names) :
    Fn Tryz.prog 68 [.slice A n c] w (fun v w' => ∃ v1, v = .tuple #[v1, .bool (numsOk names)] ∧ Ext w w' ∧ (numsOk names = true → ∃ r, v1 = .map (some r) ∧ w.heap.size ≤ r ∧ MapAt strK w' r (nameM names 0 []))) := by
  have hn : names.length = n := by have := h.len; rw [strsV_length] at this; omega
  have hn9 : n ≤ 9223372036854775807 := by have := h.le; have := h.cap; simp only [maxLen] at this; omega
  refine fn_of_exec (c := { c68 with cuts := [] }) gx_ok Tryz.func68 rfl rfl rfl ?_
  refine at_makeMap gx_ok strK rfl ?_
  intro w1 hE1 hz1 hm1
  refine loop gx_ok [10] (fun s : Nat => [.int .i64 s]) (fun s w' => Ext w w' ∧ s ≤ n ∧ (names.take s).all nameOk = true ∧ MapAt strK w' w.heap.size (nameM (names.take s) 0 [])) (fun s _ => n - s) 0 rfl ⟨hE1, Nat.zero_le _, rfl, hm1⟩ ?_
  rintro s w3 ⟨hE3, hsn, hall, hm3⟩
  refine wif_d (fun h3 => ?_) (fun h3 => ?_)
  · have hgs : names[s]? = some names[s] := List.getElem?_eq_getElem (by omega)
    generalize names[s] = t at hgs
    obtain ⟨ht8, htl⟩ := hb t (List.mem_of_getElem? hgs)
    refine index_sl (h.ext hE3) (by omega) (fun ad u hA hu hcell => ?_)
    rw [strsV_get hgs] at hu
    cases hu
    refine load hcell ?_
    have hE3' := hE3
    have bad : nameOk t ≠ true → ∀ w', Ext w w' → ∃ v1, (.tuple #[.map none, .bool false] : Value) = .tuple #[v1, .bool (numsOk names)] ∧ Ext w w' ∧ (numsOk names = true → ∃ r, v1 = .map (some r) ∧ w.heap.size ≤ r ∧ MapAt strK w' r (nameM names 0 [])) := fun hb w' hE => by
      refine ⟨.map none, ?_, hE, fun h => ?_⟩
      · rw [not_all hgs hb]
      · rw [not_all hgs hb] at h; cases h
    have e0 : ((strOf t = (⟨#[]⟩ : ByteArray)) ↔ t = []) := ⟨fun h => strOf_inj ht8 (by simp) h, fun h => by rw [h]; rfl⟩
    have e1 : ((strOf t = (⟨#[116, 114, 117, 101]⟩ : ByteArray)) ↔ t = trueL) := ⟨fun h => strOf_inj ht8 (by decide) h, fun h => by rw [h]; rfl⟩
    have e2 : ((strOf t = (⟨#[102, 97, 108, 115, 101]⟩ : ByteArray)) ↔ t = falseL) := ⟨fun h => strOf_inj ht8 (by decide) h, fun h => by rw [h]; rfl⟩
    by_cases h4 : t = []
    · refine wif_dt (e0.2 h4) ?_
      exact bad (by unfold nameOk; simp [h4]) _ hE3
    refine wif_df (fun h => h4 (e0.1 h)) ?_
    refine call (identifier_fn t w3 ht8 htl) ?_
    rintro v w4 ⟨rfl, hE4⟩
    have hs4 : ((strOf t).size : Int) = (t.length : Nat) := by rw [strOf_size]
    by_cases h5 : ¬ idLen t = t.length
    · refine wif_net (fun h => h5 (by omega)) ?_
      exact bad (by unfold nameOk; simp [h5]) _ (hE3.trans hE4)
    replace h5 := Decidable.not_not.1 h5
    refine wif_nef (by omega) ?_
    by_cases h6 : t = trueL
    · refine wif_dt (e1.2 h6) ?_
      exact bad (by unfold nameOk; simp [h6]) _ (hE3.trans hE4)
    refine wif_df (fun h => h6 (e1.1 h)) ?_
    by_cases h7 : t = falseL
    · refine wif_dt (e2.2 h7) ?_
      exact bad (by unfold nameOk; simp [h7]) _ (hE3.trans hE4)
    refine wif_df (fun h => h7 (e2.1 h)) ?_
    have hok : nameOk t = true := by unfold nameOk; simp [h4, h5, h6, h7]
    refine at_mapUpdate (kv := strK) (a := strOf t) gx_ok rfl rfl rfl rfl rfl KeyV.str rfl rfl rfl (hm3.ext hE4) (fun w5 hg5 _ hm5 => ?_)
    refine norm_i64_to ((s + 1 : Nat) : Int) (by omega) (by omega) ?_
    refine ⟨s + 1, rfl, ⟨(hE3.trans hE4).own hg5 (Nat.le_refl _), by omega, all_take hall hgs hok, by rw [nameM_take hgs]; exact hm5⟩, by show n - (s + 1) < n - s; omega⟩
  · have : s = n := by omega
    subst this
    have ht : names.take s = names := List.take_of_length_le (by omega)
    rw [ht] at hall hm3
    refine at_maplen (kv := strK) gx_ok rfl rfl rfl rfl hm3 ?_
    refine wif_eq (fun h4 => ?_) (fun h4 => ?_)
    · refine ⟨.map (some w.heap.size), ?_, hE3, fun _ => ⟨_, rfl, Nat.le_refl _, hm3⟩⟩
      have : decide ((names.length : Int) ≤ 64) = numsOk names := by unfold numsOk; exact decide_eq_decide.2 ⟨fun h => ⟨hall, by omega, by omega⟩, fun h => by omega⟩
      rw [← this, hn]
    · refine ⟨.map (some w.heap.size), ?_, hE3, fun _ => ⟨_, rfl, Nat.le_refl _, hm3⟩⟩
      have : numsOk names = false := by unfold numsOk; exact decide_eq_false (fun h => by omega)
      rw [this]
end
end Go.Proofs.YtedopgkbajhanaaGreatDoor
