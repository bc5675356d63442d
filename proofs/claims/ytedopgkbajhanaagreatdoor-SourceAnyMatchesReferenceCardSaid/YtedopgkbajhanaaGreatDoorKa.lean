/-
  Expressions: what the parser computes, over lists of bytes.
  Strings: prefixes, leading blanks.
  formula: identifiers.
  Conditions: none.
-/
import Derived.Test.YtedopgkbajhanaaGreatDoorMod
import Derived.Test.YtedopgkbajhanaaGreatDoorFacts
import Derived.Test.YtedopgkbajhanaaGreatDoorShelf
namespace Go.Proofs.YtedopgkbajhanaaGreatDoor
section
open Go Go.RowKit

/-- A node of a formula. -/
structure Fz where
  o : Int
  v : Int
  a : Int
  b : Int
deriving DecidableEq
def Fz.cells (x : Fz) : List Value := [.int .i64 x.o, .int .i64 x.v, .int .i64 x.a, .int .i64 x.b]
theorem fz_len (x : Fz) : x.cells.length = 4 := rfl

def isDig (b : Nat) : Bool := decide (48 ≤ b) && decide (b ≤ 57)
def isLet (b : Nat) : Bool := b == 95 || (decide (97 ≤ b) && decide (b ≤ 122)) || (decide (65 ≤ b) && decide (b ≤ 90))
def isId (b : Nat) : Bool := isLet b || isDig b
/-- The length of the identifier at the beginning. -/
def idLen : List Nat → Nat
  | [] => 0
  | b :: l => if isDig b then 0 else ((b :: l).takeWhile isId).length
def trimB (l : List Nat) : List Nat := l.dropWhile fun b => b == 32 || b == 9

/-- A parser's state: what is still to come, the nodes so far, whether a condition was unknown. -/
structure Ps where
  r : List Nat
  f : List Fz
  u : Bool
/-- Spaces, and then a symbol. -/
def skipP (sym : List Nat) (p : Ps) : Bool × Ps := if sym.isPrefixOf (trimB p.r) then (true, { p with r := (trimB p.r).drop sym.length }) else (false, { p with r := trimB p.r })
def putP (x : Fz) (p : Ps) : Nat × Ps := (p.f.length, { p with f := p.f ++ [x] })

def loopP (sym : List Nat) (op : Int) (opd : Ps → Option (Nat × Ps)) : Nat → Nat → Ps → Option (Nat × Ps)
  | 0, _, _ => none
  | m + 1, a, p => match skipP sym p with
    | (true, p1) => match opd p1 with
      | none => none
      | some (b, p2) => loopP sym op opd m p2.f.length { p2 with f := p2.f ++ [⟨op, 0, a, b⟩] }
    | (false, p1) => some (a, p1)
def chainP (sym : List Nat) (op : Int) (opd : Ps → Option (Nat × Ps)) (p : Ps) : Option (Nat × Ps) := match opd p with
  | none => none
  | some (a, p1) => loopP sym op opd (p1.r.length + 1) a p1
/-- A factor; ix: the conditions' numbers. -/
def facP (ix : List Nat → Option Nat) : Nat → Ps → Option (Nat × Ps)
  | 0, _ => none
  | n + 1, p => match skipP [33] p with
    | (true, p1) => match facP ix n p1 with
      | none => none
      | some (a, p2) => some (putP ⟨3, 0, a, 0⟩ p2)
    | (false, p1) => match skipP [40] p1 with
      | (true, p2) => match chainP [124, 124] 5 (chainP [38, 38] 4 (facP ix n)) p2 with
        | none => none
        | some (a, p3) => match skipP [41] p3 with
          | (true, p4) => some (a, p4)
          | (false, _) => none
      | (false, p2) => if idLen p2.r = 0 then none else
          let word := p2.r.take (idLen p2.r)
          let p3 : Ps := { p2 with r := p2.r.drop (idLen p2.r) }
          if word = [116, 114, 117, 101] then some (putP ⟨1, 0, 0, 0⟩ p3) else if word = [102, 97, 108, 115, 101] then some (putP ⟨0, 0, 0, 0⟩ p3) else
            some (putP ⟨2, ((ix word).getD 0 : Nat), 0, 0⟩ { p3 with u := p3.u || (ix word).isNone })
def wholeP (ix : List Nat → Option Nat) (n : Nat) (p : Ps) : Option (Nat × Ps) := chainP [124, 124] 5 (chainP [38, 38] 4 (facP ix n)) p
end

section
open Go Go.RowKit

theorem strOf_extract (l : List Nat) (a b : Nat) : (strOf l).extract a b = strOf ((l.take b).drop a) := by
  apply ByteArray.ext
  apply Array.ext'
  simp [strOf, List.drop_take]
theorem strOf_eq {l m : List Nat} (hl : ∀ x ∈ l, x < 256) (hm : ∀ x ∈ m, x < 256) : decide (strOf l = strOf m) = decide (l = m) := by
  by_cases h : l = m
  · subst h; simp
  · rw [decide_eq_false h, decide_eq_false (fun e => h (strOf_inj hl hm e))]
theorem B8.drop {l : List Nat} (h : ∀ x ∈ l, x < 256) (k : Nat) : ∀ x ∈ l.drop k, x < 256 := fun x hx => h x (List.mem_of_mem_drop hx)
theorem B8.take {l : List Nat} (h : ∀ x ∈ l, x < 256) (k : Nat) : ∀ x ∈ l.take k, x < 256 := fun x hx => h x (List.mem_of_mem_take hx)
theorem pre_take (p l : List Nat) : p.isPrefixOf l = decide (p.length ≤ l.length ∧ l.take p.length = p) := by
  rw [Bool.eq_iff_iff, List.isPrefixOf_iff_prefix, decide_eq_true_eq]
  constructor
  · rintro ⟨t, rfl⟩
    exact ⟨by simp, by simp⟩
  · rintro ⟨h1, h2⟩
    refine ⟨l.drop p.length, ?_⟩
    have := List.take_append_drop p.length l
    rw [h2] at this
    exact this

theorem hasprefix_fn (l p : List Nat) (w : World) (hl : ∀ x ∈ l, x < 256) (hp : ∀ x ∈ p, x < 256) :
    Fn Tryz.prog 168 [.string (strOf l), .string (strOf p)] w (fun v w' => v = .bool (p.isPrefixOf l) ∧ w = w') := by
  refine fn_of_exec (c := c168) gx_ok Tryz.func168 rfl rfl rfl ?_
  refine wif_d (fun h1 => ?_) (fun h1 => ?_)
  · rw [strOf_size, strOf_size] at h1
    refine need ⟨by omega, by omega, by rw [strOf_size, strOf_size]; omega⟩ ?_
    refine ⟨?_, rfl⟩
    rw [pre_take]
    congr 1
    refine decide_eq_decide.2 ?_
    simp only [Int.toNat_natCast, Int.toNat_zero]
    rw [strOf_extract, List.drop_zero, strOf_size]
    exact ⟨fun h => ⟨by omega, strOf_inj (B8.take hl _) hp h⟩, fun h => by rw [h.2]⟩
  · rw [strOf_size, strOf_size] at h1
    exact ⟨by rw [pre_take, decide_eq_false (fun h => h1 (by omega))], rfl⟩

/-- What CutPrefix hands back. -/
def cutV (l p : List Nat) : Value := if p.isPrefixOf l then .tuple #[.string (strOf (l.drop p.length)), .bool true] else .tuple #[.string (strOf l), .bool false]
theorem cutprefix1_fn (l p : List Nat) (w : World) (hl : ∀ x ∈ l, x < 256) (hp : ∀ x ∈ p, x < 256) :
    Fn Tryz.prog 144 [.string (strOf l), .string (strOf p)] w (fun v w' => v = cutV l p ∧ w = w') := by
  refine fn_of_exec (c := c144) gx_ok Tryz.func144 rfl rfl rfl ?_
  refine call (hasprefix_fn l p w hl hp) ?_
  rintro v w1 ⟨rfl, rfl⟩
  unfold cutV
  cases hpre : p.isPrefixOf l with
  | false =>
    refine wif_t rfl ?_
    exact ⟨rfl, rfl⟩
  | true =>
    refine wif_f rfl ?_
    have hle : p.length ≤ l.length := by rw [pre_take] at hpre; exact (of_decide_eq_true hpre).1
    refine need ⟨by omega, by rw [strOf_size, strOf_size]; omega, by omega⟩ ?_
    refine ⟨?_, rfl⟩
    simp only [Int.toNat_natCast, strOf_size]
    rw [strOf_extract, List.take_of_length_le (Nat.le_refl _)]
    rfl
theorem cutprefix_fn (l p : List Nat) (w : World) (hl : ∀ x ∈ l, x < 256) (hp : ∀ x ∈ p, x < 256) :
    Fn Tryz.prog 112 [.string (strOf l), .string (strOf p)] w (fun v w' => v = cutV l p ∧ w = w') := by
  refine fn_of_exec (c := c112) gx_ok Tryz.func112 rfl rfl rfl ?_
  refine call (cutprefix1_fn l p w hl hp) ?_
  rintro v w1 ⟨rfl, rfl⟩
  unfold cutV
  split
  · exact ⟨rfl, rfl⟩
  · exact ⟨rfl, rfl⟩

/-! ### Leading blanks -/
/-- The set of the bytes 32 and 9. -/
def asV (k : Nat) : List Value := (List.range 256).map fun j => .bool (decide (0 < k ∧ j = 32) || decide (1 < k ∧ j = 9))
theorem asV_len (k : Nat) : (asV k).length = 256 := by simp [asV]
theorem asV_get {k j : Nat} (h : j < 256) : (asV k)[j]? = some (.bool (decide (0 < k ∧ j = 32) || decide (1 < k ∧ j = 9))) := by
  unfold asV; rw [List.getElem?_map, List.getElem?_range h]; rfl
theorem asV_scalar (k : Nat) : ∀ u ∈ asV k, scalar u = true := fun u hu => by
  unfold asV at hu
  simp only [List.mem_map] at hu
  obtain ⟨j, _, rfl⟩ := hu
  rfl
theorem asV_next {k x : Nat} (hk : k < 2) (hx : [32, 9][k]? = some x) : (asV k).set x (.bool true) = asV (k + 1) := by
  apply List.ext_getElem?
  intro j
  by_cases hj : j < 256
  · rw [List.getElem?_set, asV_get hj, asV_get hj, asV_len]
    have hk2 : k = 0 ∨ k = 1 := by omega
    rcases hk2 with rfl | rfl
    · simp at hx
      subst hx
      split
      · rename_i e; subst e; simp
      · rename_i e
        have : ¬ j = 32 := fun h => e h.symm
        simp [this]
    · simp at hx
      subst hx
      split
      · rename_i e; subst e; simp
      · rename_i e
        have : ¬ j = 9 := fun h => e h.symm
        simp [this]
  · rw [List.getElem?_eq_none (by rw [List.length_set, asV_len]; omega), List.getElem?_eq_none (by rw [asV_len]; omega)]

set_option maxRecDepth 20000 in
theorem asciiset_fn (w : World) : Fn Tryz.prog 141 [.string (strOf [32, 9])] w (fun v w' => v = .tuple #[.agg (asV 2).toArray, .bool true] ∧ Ext w w') := by
  refine fn_of_exec (c := c141) gx_ok Tryz.func141 rfl rfl rfl ?_
  refine new (fun w1 hE1 hz1 hB1 => ?_)
  have hB1' : Blk w1 w.heap.size 208 (asV 0) := hB1
  clear hB1
  refine loop gx_ok [4] (fun k : Nat => [.int .i64 k]) (fun k w' => k ≤ 2 ∧ Ext w w' ∧ Blk w' w.heap.size 208 (asV k)) (fun k _ => 2 - k) 0 rfl ⟨by omega, hE1, hB1'⟩ ?_
  rintro k w2 ⟨hk, hE2, hB2⟩
  refine wif_d (fun h1 => ?_) (fun h1 => ?_)
  · have hk2 : k < 2 := by
      have : ((strOf [32, 9]).size : Int) = 2 := rfl
      omega
    refine sindex' (s := strOf [32, 9]) (by show k < 2; exact hk2) (fun x hx hx8 => ?_)
    have hx' : [32, 9][k]? = some x := by rw [bytesOf_strOf (by decide)] at hx; exact hx
    have hxl : x < 128 := by
      have : k = 0 ∨ k = 1 := by omega
      rcases this with rfl | rfl
      · simp at hx'; omega
      · simp at hx'; omega
    refine wif_df (by omega) ?_
    refine index_i (j := x) rfl (by omega) ?_
    refine store_mod hB2 (by rw [asV_len]; omega) (fun w3 hm3 hB3 => ?_)
    rw [asV_next hk2 hx'] at hB3
    refine norm_i64_to ((k + 1 : Nat) : Int) (by omega) (by omega) ?_
    exact ⟨k + 1, rfl, ⟨by omega, hm3.ext hE2 (fun i hi => by omega), hB3⟩, by show 2 - (k + 1) < 2 - k; omega⟩
  · have hk2 : k = 2 := by
      have : ((strOf [32, 9]).size : Int) = 2 := rfl
      omega
    subst hk2
    refine loadN_blk0 hB2 (asV_len 2) ?_
    refine storeN_blk0 hB2 rfl (asV_scalar 2) (fun w3 hg3 _ hB3 => ?_)
    refine loadN_blk0 hB3 (asV_len 2) ?_
    exact ⟨rfl, hE2.own hg3 (Nat.le_refl _)⟩

theorem ascontains_fn (g x : Nat) (w : World) (hB : Blk w g 208 (asV 2)) (hx : x < 256) :
    Fn Tryz.prog 165 [.pointer (some ⟨g, 0, none⟩), .int .u8 x] w (fun v w' => v = .bool (x == 32 || x == 9) ∧ w = w') := by
  refine fn_of_exec (c := c165) gx_ok Tryz.func165 rfl rfl rfl ?_
  refine index_i (j := x) rfl (by omega) ?_
  refine load_blk hB (asV_get hx) ?_
  refine ⟨?_, rfl⟩
  have e : ∀ y : Nat, (x == y) = decide (x = y) := fun y => rfl
  simp [e]

theorem trimascii_fn (g : Nat) (l : List Nat) (w : World) (hB : Blk w g 208 (asV 2)) (hl : ∀ x ∈ l, x < 256) (_ : l.length ≤ 9223372036854775807) :
    Fn Tryz.prog 142 [.string (strOf l), .pointer (some ⟨g, 0, none⟩)] w (fun v w' => v = .string (strOf (trimB l)) ∧ Ext w w') := by
  refine fn_of_exec (c := c142) gx_ok Tryz.func142 rfl rfl rfl ?_
  refine loop gx_ok [0] (fun m : List Nat => [.string (strOf m)]) (fun m w' => Ext w w' ∧ trimB m = trimB l ∧ (∀ x ∈ m, x < 256)) (fun m _ => m.length) l rfl ⟨Ext.refl _, rfl, hl⟩ ?_
  rintro m w1 ⟨hE1, hm, hm8⟩
  refine wif_d (fun h1 => ?_) (fun h1 => ?_)
  · cases m with
    | nil => simp [strOf_size] at h1
    | cons x m =>
      refine sindex' (s := strOf (x :: m)) (by rw [strOf_size]; simp) (fun y hy hy8 => ?_)
      have hyx : y = x := by rw [bytesOf_strOf hm8] at hy; simpa using hy.symm
      subst hyx
      refine call (ascontains_fn g y w1 (hB.ext hE1) hy8) ?_
      rintro v w2 ⟨rfl, rfl⟩
      cases hb : (y == 32 || y == 9) with
      | false =>
        refine wif_t rfl ?_
        refine ⟨?_, hE1⟩
        rw [← hm]
        unfold trimB
        rw [List.dropWhile_cons, hb]
        rfl
      | true =>
        refine wif_f rfl ?_
        refine need ⟨by omega, by omega, by omega⟩ ?_
        refine ⟨m, ?_, ⟨hE1, ?_, fun z hz => hm8 z (by simp [hz])⟩, by simp⟩
        · have e : (strOf (y :: m)).extract (Int.toNat 1) (((strOf (y :: m)).size : Int)).toNat = strOf m := by
            rw [strOf_extract, strOf_size, Int.toNat_natCast, List.take_of_length_le (Nat.le_refl _)]
            rfl
          rw [e]
          rfl
        · rw [← hm]
          unfold trimB
          rw [List.dropWhile_cons, hb]
          rfl
  · cases m with
    | nil => exact ⟨by rw [← hm]; rfl, hE1⟩
    | cons x m => rw [strOf_size] at h1; simp at h1

set_option maxRecDepth 20000 in
theorem trimleft_fn (l : List Nat) (w : World) (hl : ∀ x ∈ l, x < 256) (hlen : l.length ≤ 9223372036854775807) :
    Fn Tryz.prog 111 [.string (strOf l), .string (strOf [32, 9])] w (fun v w' => v = .string (strOf (trimB l)) ∧ Ext w w') := by
  refine fn_of_exec (c := c111) gx_ok Tryz.func111 rfl rfl rfl ?_
  refine wif_d (fun h1 => ?_) (fun h1 => ?_)
  · have : l = [] := strOf_inj hl (by simp) (h1.trans rfl)
    subst this
    exact ⟨rfl, Ext.refl _⟩
  refine wif_df (by decide) ?_
  refine wif_eqf (by decide) ?_
  refine call (asciiset_fn w) ?_
  rintro v w1 ⟨rfl, hE1⟩
  refine new (fun w2 hE2 hz2 hB2 => ?_)
  refine storeN_blk0 hB2 (asV_len 2) (asV_scalar 2) (fun w3 hg3 _ hB3 => ?_)
  have hE13 := newBox hE2 hB2 hg3
  refine wif_t rfl ?_
  refine call (trimascii_fn w1.heap.size l w3 hB3 hl hlen) ?_
  rintro v w4 ⟨rfl, hE4⟩
  exact ⟨rfl, hE1.trans (hE13.trans hE4)⟩
end

section
open Go Go.RowKit

theorem fn_of_calls {P : Program} {f : FuncId} {l : List Value} {w : World} {v : Value} {R : World → Prop} (h : Calls P f l.toArray w fun e w' => e = .returned v ∧ R w') : Fn P f l w (fun u w' => u = v ∧ R w') := by
  unfold Fn
  exact h.mono fun e w' he => by obtain ⟨rfl, h⟩ := he; exact ⟨rfl, h⟩
theorem Ext.of_below {w w' : World} (h : Below w.heap.size w w') : Ext w w' := ⟨h.os, h.tape, h.output, h.size, fun k hk _ => h.block k hk⟩
theorem isId_iff (r : Nat) : isId r = true ↔ (r = 95 ∨ (97 ≤ r ∧ r ≤ 122) ∨ (65 ≤ r ∧ r ≤ 90) ∨ (48 ≤ r ∧ r ≤ 57)) := by
  unfold isId isLet isDig
  simp
  omega
theorem isid_fn (r : Nat) (w : World) : Fn Tryz.prog 138 [.int .i32 r] w (fun v w' => v = .bool (!isId r) ∧ w = w') := by
  have hb : isId r = decide (r = 95 ∨ (97 ≤ r ∧ r ≤ 122) ∨ (65 ≤ r ∧ r ≤ 90) ∨ (48 ≤ r ∧ r ≤ 57)) := by rw [Bool.eq_iff_iff, isId_iff, decide_eq_true_eq]
  rw [hb]
  refine fn_of_exec (c := c138) gx_ok Tryz.func138 rfl rfl rfl ?_
  have hcase : r = 95 ∨ (97 ≤ r ∧ r ≤ 122) ∨ (65 ≤ r ∧ r ≤ 90) ∨ (48 ≤ r ∧ r ≤ 57) ∨ r < 48 ∨ (57 < r ∧ r < 65) ∨ (90 < r ∧ r < 95) ∨ r = 96 ∨ 122 < r := by omega
  rcases hcase with h | h | h | h | h | h | h | h | h <;>
    repeat (first | refine wif_net (by omega) ?_ | refine wif_nef (by omega) ?_ | refine wif_dt (by omega) ?_ | refine wif_df (by omega) ?_ | refine wif_t rfl ?_ | refine wif_f rfl ?_)
  all_goals refine ⟨?_, rfl⟩
  all_goals congr 1
  all_goals first
    | (have hP : (r = 95 ∨ (97 ≤ r ∧ r ≤ 122) ∨ (65 ≤ r ∧ r ≤ 90) ∨ (48 ≤ r ∧ r ≤ 57)) := by omega
       rw [decide_eq_true hP]
       first | rfl | exact decide_eq_false (by omega) | exact decide_eq_true (by omega))
    | (have hP : ¬ (r = 95 ∨ (97 ≤ r ∧ r ≤ 122) ∨ (65 ≤ r ∧ r ≤ 90) ∨ (48 ≤ r ∧ r ≤ 57)) := by omega
       rw [decide_eq_false hP]
       first | rfl | exact decide_eq_true (by omega) | exact decide_eq_false (by omega))

theorem get_bang {s : ByteArray} {pos : Nat} (h : pos < s.size) : s.get! pos = s[pos] := by
  simp [ByteArray.get!, ByteArray.getElem_eq_getElem_data, getElem!_pos s.data pos h]
theorem decode_lo {s : ByteArray} {pos : Nat} (h : pos < s.size) (ha : s[pos].toNat < 128) : Utf8.decode s pos = (s[pos].toNat, 1) := by
  unfold Utf8.decode
  simp only [Nat.add_zero, get_bang h]
  rw [if_pos ha]
theorem decode_hi {s : ByteArray} {pos : Nat} (h : pos < s.size) (ha : ¬ s[pos].toNat < 128) : 128 ≤ (Utf8.decode s pos).1 := by
  unfold Utf8.decode
  simp only [Nat.add_zero, get_bang h]
  rw [if_neg ha]
  have he : 128 ≤ Utf8.runeError := by decide
  split
  · split
    · assumption
    · exact he
  split
  · split
    · rename_i h1
      simp at h1
      exact Nat.le_trans (by decide) h1.1
    · exact he
  split
  · split
    · rename_i h1
      simp at h1
      exact Nat.le_trans (by decide) h1.1
    · exact he
  · exact he

/-- The first byte that belongs to no identifier. -/
theorem idx_id (s : ByteArray) : ∀ (f pos : Nat), s.size ≤ pos + f → pos ≤ s.size →
    Lib.idxFuncFrom (fun r => !isId r) true s f pos = if ((bytesOf s).drop pos).all isId then -1 else ((pos + (((bytesOf s).drop pos).takeWhile isId).length : Nat) : Int)
  | 0, pos, h, hp => by
    rw [List.drop_of_length_le (by rw [bytesOf_length]; omega)]
    rfl
  | f + 1, pos, h, hp => by
    unfold Lib.idxFuncFrom
    by_cases hps : pos < s.size
    · rw [if_pos hps]
      have hg : (bytesOf s).drop pos = s[pos].toNat :: (bytesOf s).drop (pos + 1) := by
        rw [List.drop_eq_getElem_cons (by rw [bytesOf_length]; exact hps)]
        congr 1
        have := bytesOf_get hps
        exact (List.getElem?_eq_some_iff.1 this).2
      rw [hg]
      by_cases ha : s[pos].toNat < 128
      · have hd := decode_lo hps ha
        rw [hd]
        dsimp only
        cases hi : isId s[pos].toNat with
        | true =>
          rw [if_neg (by simp), idx_id s f (pos + 1) (by omega) (by omega)]
          simp only [List.all_cons, hi, Bool.true_and, List.takeWhile_cons, if_true, List.length_cons]
          split
          · rfl
          · congr 1; omega
        | false =>
          rw [if_pos (by simp)]
          simp [hi]
      · have hi : isId s[pos].toNat = false := by
          cases e : isId s[pos].toNat with
          | false => rfl
          | true => have := (isId_iff _).1 e; omega
        have hd : isId (Utf8.decode s pos).1 = false := by
          have h128 := decode_hi hps ha
          cases e : isId (Utf8.decode s pos).1 with
          | false => rfl
          | true => have := (isId_iff _).1 e; omega
        rw [if_pos (by rw [hd]; rfl)]
        simp [hi]
    · rw [if_neg hps, List.drop_of_length_le (by rw [bytesOf_length]; omega)]
      rfl

theorem indexf_fn (l : List Nat) (w : World) (hl : ∀ x ∈ l, x < 256) : Fn Tryz.prog 137 [.string (strOf l), .func (.func 138) #[] #[]] w (fun v w' => v = .int .i64 (if l.all isId then -1 else ((l.takeWhile isId).length : Nat)) ∧ Ext w w') := by
  refine fn_of_exec (c := c137) gx_ok Tryz.func137 rfl rfl rfl ?_
  have hp : Go.Proofs.PredAt Tryz.prog 138 #[] Go.Proofs.encR (fun r => !isId r) w := fun W r _ => by
    have h := isid_fn r W
    unfold Fn at h
    exact h.mono fun e w' he => by
      cases e with
      | returned v => obtain ⟨rfl, rfl⟩ := he; exact ⟨rfl, 0, rfl⟩
      | panicked ch => exact he.elim
      | outgrown => exact he.elim
  have hc := Tryz.strings_indexFunc 138 #[] (Go.Proofs.enters_of Tryz.func138 rfl rfl) (fun r => !isId r) true (strOf l) w hp
  refine call (fn_of_calls hc) ?_
  rintro v w1 ⟨rfl, hb⟩
  refine ⟨?_, Ext.of_below hb⟩
  unfold Lib.idxFunc
  rw [idx_id (strOf l) _ 0 (by omega) (Nat.zero_le _), bytesOf_strOf hl, List.drop_zero, Nat.zero_add]
end
end Go.Proofs.YtedopgkbajhanaaGreatDoor
