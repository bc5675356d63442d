/-
  Documents as lists of nodes: which are valid; and the contracts of the small functions on nodes.
  Conditions: none.
-/
import Derived.Test.YtbkadgdhmfolaaaFacts
import Derived.Test.YtbkadgdhmfolaaaShelf
namespace Go.Proofs.Ytbkadgdhmfolaaa
open Go Go.RowKit

theorem fn_of_calls {P : Program} {f : FuncId} {l : List Value} {w : World} {v : Value} {R : World → Prop} (h : Calls P f l.toArray w fun e w' => e = .returned v ∧ R w') : Fn P f l w (fun u w' => u = v ∧ R w') := by
  unfold Fn
  refine h.mono fun e w' he => ?_
  obtain ⟨rfl, hr⟩ := he
  exact ⟨rfl, hr⟩
theorem Ext.of_below {w w' : World} (h : Below w.heap.size w w') : Ext w w' := ⟨h.os, h.tape, h.output, h.size, fun k hk _ => h.block k hk⟩

/-- A node of a document. -/
structure Nd where
  k : Int
  t : ByteArray
  n : Int
  a : Int
  b : Int

def Nd.cells (x : Nd) : List Value := [.int .i64 x.k, .string x.t, .int .i64 x.n, .int .i64 x.a, .int .i64 x.b]
theorem nd_len (x : Nd) : x.cells.length = 5 := rfl
abbrev SD (w : World) (A : Option Addr) (n c : Nat) (d : List Nd) : Prop := SlS Nd.cells 5 w A n c d

def arI (k : Int) : Int := if k = 0 ∨ k = 1 ∨ k = 2 then 0 else if k = 4 ∨ k = 5 ∨ k = 6 then 1 else if k = 3 then 2 else -1
theorem arI_cases (k : Int) : arI k = 0 ∨ arI k = 1 ∨ arI k = 2 ∨ arI k = -1 := by
  unfold arI; split
  · simp
  · split
    · simp
    · split <;> simp
theorem arI_le (k : Int) : -1 ≤ arI k ∧ arI k ≤ 2 := by rcases arI_cases k with h | h | h | h <;> omega

def fldP (x : Nd) : Prop := (x.t = ⟨#[]⟩ ∨ x.k = 0 ∨ x.k = 1) ∧ 10 ∉ bytesOf x.t ∧ (x.n = 0 ∨ x.k = 4) ∧ 0 ≤ x.n ∧ x.n ≤ 1000
def ndP (x : Nd) (i : Nat) : Prop := 0 ≤ arI x.k ∧ fldP x ∧ (if 0 < arI x.k then 0 ≤ x.a ∧ x.a < i else x.a = 0) ∧ (if 1 < arI x.k then 0 ≤ x.b ∧ x.b < i else x.b = 0)
def kidsOf (x : Nd) : List Nat := if arI x.k = 2 then [x.a.toNat, x.b.toNat] else if arI x.k = 1 then [x.a.toNat] else []
def kids (d : List Nd) : List Nat := d.flatMap kidsOf
def Valid (d : List Nd) : Prop := d.length ≤ 65536 ∧ 0 < d.length ∧ (∀ i x, d[i]? = some x → ndP x i) ∧ ∀ i, i + 1 < d.length → (kids d).count i = 1
open Classical in
noncomputable def chk (d : List Nd) : Int := if 65536 < d.length then 2 else if Valid d then 0 else 250
theorem chk_large {d : List Nd} (h : 65536 < d.length) : chk d = 2 := if_pos h
theorem chk_ok {d : List Nd} (h : Valid d) : chk d = 0 := (if_neg (by have := h.1; omega)).trans (if_pos h)
theorem chk_no {d : List Nd} (h : ¬ 65536 < d.length) (k : ¬ Valid d) : chk d = 250 := (if_neg h).trans (if_neg k)
theorem chk_zero {d : List Nd} : chk d = 0 ↔ Valid d := by
  constructor
  · intro h
    unfold chk at h
    split at h
    · cases h
    · split at h
      · assumption
      · cases h
  · exact chk_ok

theorem arity_fn (k : Int) (w : World) : Fn Try.prog 48 [.int .i64 k] w (fun v w' => v = .int .i64 (arI k) ∧ w = w') := by
  refine fn_of_exec (c := c48) gx_ok Try.func48 rfl rfl rfl ?_
  refine wif_eq (fun h => ?_) (fun h => ?_)
  · exact ⟨by simp [arI, h], rfl⟩
  refine wif_eq (fun h1 => ?_) (fun h1 => ?_)
  · exact ⟨by simp [arI, h1], rfl⟩
  refine wif_eq (fun h2 => ?_) (fun h2 => ?_)
  · exact ⟨by simp [arI, h2], rfl⟩
  refine wif_eq (fun h3 => ?_) (fun h3 => ?_)
  · exact ⟨by simp [arI, h3], rfl⟩
  refine wif_eq (fun h4 => ?_) (fun h4 => ?_)
  · exact ⟨by simp [arI, h4], rfl⟩
  refine wif_eq (fun h5 => ?_) (fun h5 => ?_)
  · exact ⟨by simp [arI, h5], rfl⟩
  refine wif_eq (fun h6 => ?_) (fun h6 => ?_)
  · exact ⟨by simp [arI, h6], rfl⟩
  · exact ⟨by simp [arI, h, h1, h2, h3, h4, h5, h6], rfl⟩

theorem operands_fn (k : Int) (w : World) : Fn Try.prog 33 [.int .i64 k] w (fun v w' => v = .int .i64 (arI k) ∧ w = w') := by
  refine fn_of_exec (c := c33) gx_ok Try.func33 rfl rfl rfl ?_
  refine wif_eq (fun h => ?_) (fun h => ?_)
  · exact ⟨by simp [arI, h], rfl⟩
  refine wif_eq (fun h1 => ?_) (fun h1 => ?_)
  · exact ⟨by simp [arI, h1], rfl⟩
  refine wif_eq (fun h2 => ?_) (fun h2 => ?_)
  · exact ⟨by simp [arI, h2], rfl⟩
  refine wif_eq (fun h3 => ?_) (fun h3 => ?_)
  · exact ⟨by simp [arI, h3], rfl⟩
  refine wif_eq (fun h4 => ?_) (fun h4 => ?_)
  · exact ⟨by simp [arI, h4], rfl⟩
  refine wif_eq (fun h5 => ?_) (fun h5 => ?_)
  · exact ⟨by simp [arI, h5], rfl⟩
  refine wif_eq (fun h6 => ?_) (fun h6 => ?_)
  · exact ⟨by simp [arI, h6], rfl⟩
  · exact ⟨by simp [arI, h, h1, h2, h3, h4, h5, h6], rfl⟩

/-! ### A byte 10 in a text -/
theorem indexByte_mem (c : UInt8) : ∀ (l : List UInt8), 0 ≤ Lib.indexByte l c ↔ c ∈ l
  | [] => by simp [Lib.indexByte]
  | b :: l => by
    have ih := indexByte_mem c l
    have hge := Lib.indexByte_ge l c
    simp only [Lib.indexByte]
    split
    · rename_i h
      have : b = c := by simpa using h
      simp [this]
    · rename_i h
      have hne : c ≠ b := fun e => h (by simp [e])
      simp only [List.mem_cons, hne, false_or]
      split
      · rename_i h2
        have : Lib.indexByte l c = -1 := by simpa using h2
        rw [this] at ih; rw [← ih]
      · rename_i h2
        have : Lib.indexByte l c ≠ -1 := by simpa using h2
        rw [← ih]; omega

theorem mem_bytesOf (s : ByteArray) (c : UInt8) : c ∈ s.data.toList ↔ c.toNat ∈ bytesOf s := by
  simp only [bytesOf, List.mem_map]
  constructor
  · exact fun h => ⟨c, h, rfl⟩
  · rintro ⟨b, hb, he⟩
    rwa [← UInt8.toNat_inj.1 he]

theorem contains_fn (s : ByteArray) (w : World) : Fn Try.prog 68 [.string s, .string ⟨#[10]⟩] w (fun v w' => v = .bool (decide (10 ∈ bytesOf s)) ∧ w' = w) := by
  refine (fn_of_calls (Try.strings_Contains_one s 10 w)).mono ?_
  rintro v w' ⟨rfl, rfl⟩
  refine ⟨?_, rfl⟩
  congr 1
  rw [decide_eq_decide, indexByte_mem, mem_bytesOf]
  rfl

theorem fields_fn (x : Nd) (w : World) : Fn Try.prog 59 [.agg x.cells.toArray] w (fun v w' => ∃ b, v = .bool b ∧ (b = true ↔ fldP x) ∧ Ext w w') := by
  refine fn_of_exec (c := c59) gx_ok Try.func59 rfl rfl rfl ?_
  refine new (fun w1 hE _ hB => ?_)
  repeat' first
    | refine load_blk hB rfl ?_
    | refine wif_eq (fun _ => ?_) (fun _ => ?_)
    | refine wif_ne (fun _ => ?_) (fun _ => ?_)
    | refine wif_not ?_
    | refine wif_d (fun _ => ?_) (fun _ => ?_)
    | (refine call (contains_fn _ _) ?_; rintro v w' ⟨rfl, rfl⟩)
  all_goals refine ⟨_, rfl, ?_, hE⟩
  all_goals simp only [fldP, Bool.false_eq_true, true_iff, false_iff]
  all_goals first
    | (simp_all; done)
    | (simp_all; omega)

theorem rvalid_fn (A : Option Addr) (n c : Nat) (d : List Nd) (i : Nat) (x : Nd) (w : World) (h : SD w A n c d) (hx : d[i]? = some x) (hs : x.t.size ≤ maxLen) :
    Fn Try.prog 32 [.slice A n c, .int .i64 i] w (fun v w' => ∃ b, v = .bool b ∧ (b = true ↔ ndP x i) ∧ Ext w w') := by
  have hi : i < n := by have := (List.getElem?_eq_some_iff.1 hx).1; have := h.2; omega
  refine fn_of_exec (c := { c32 with cuts := [3, 5, 10, 12] }) gx_ok Try.func32 rfl rfl rfl ?_
  refine index_sls nd_len h rfl hi (fun p y hy hc => ?_)
  have hyx : y = x := Option.some.inj (hy.symm.trans hx)
  subst hyx
  refine loadN_at (vs := y.cells) rfl hc ?_
  refine new (fun w1 hE _ hB => ?_)
  refine storeN_blk0 hB rfl (by simp [Nd.cells, scalar]) (fun w2 hg2 _ hB2 => ?_)
  have hE2 : Ext w w2 := hE.own hg2 (Nat.le_refl _)
  clear hB hE hg2
  refine load_blk hB2 rfl ?_
  refine call (operands_fn _ _) ?_
  rintro v w' ⟨rfl, rfl⟩
  refine cut0 gx_ok (fun w' => w2 = w' ∧ 0 ≤ arI y.k ∧ (y.t = ⟨#[]⟩ ∨ y.k = 0 ∨ y.k = 1)) ?_ ?_
  · repeat' first
      | refine load_blk hB2 rfl ?_
      | refine wif_ne (fun _ => ?_) (fun _ => ?_)
      | refine wif_not ?_
      | refine wif_d (fun _ => ?_) (fun _ => ?_)
    all_goals first
      | exact ⟨_, rfl, by simp_all [ndP, fldP] <;> omega, hE2⟩
      | exact ⟨rfl, rfl, by omega, by simp_all⟩
  rintro w' ⟨rfl, h0, h1⟩
  refine cut0 gx_ok (fun w' => w2 = w' ∧ 10 ∉ bytesOf y.t) ?_ ?_
  · refine loop gx_ok [7] (fun s : Nat => [.int .i64 s]) (fun s w' => w2 = w' ∧ s ≤ y.t.size ∧ 10 ∉ (bytesOf y.t).take s) (fun s _ => y.t.size - s) 0 rfl ⟨rfl, Nat.zero_le _, by simp⟩ ?_
    rintro k w' ⟨rfl, hk, hno⟩
    refine load_blk hB2 rfl ?_
    refine wif_d (fun h2 => ?_) (fun h2 => ?_)
    · refine load_blk hB2 rfl ?_
      refine sindex' (by omega) (fun b hb _ => ?_)
      refine wif_eq (fun h3 => ?_) (fun h3 => ?_)
      · exact ⟨_, rfl, by
          simp only [Bool.false_eq_true, false_iff]
          intro hn; apply hn.2.1.2.1
          have : b = 10 := by omega
          rw [← this]; exact List.mem_of_getElem? hb, hE2⟩
      · refine norm_i64_to ((k + 1 : Nat) : Int) (by omega) (by unfold maxLen at hs; omega) ?_
        refine ⟨k + 1, rfl, ⟨rfl, by omega, ?_⟩, by show y.t.size - (k + 1) < y.t.size - k; omega⟩
        rw [List.take_add_one, hb]
        simp only [Option.toList_some, List.mem_append, List.mem_singleton, not_or]
        exact ⟨hno, fun e => h3 (by omega)⟩
    · refine ⟨rfl, rfl, ?_⟩
      rwa [List.take_of_length_le (by rw [bytesOf_length]; omega)] at hno
  rintro w' ⟨rfl, hno⟩
  refine cut0 gx_ok (fun w' => w2 = w' ∧ (y.n = 0 ∨ y.k = 4) ∧ 0 ≤ y.n ∧ y.n ≤ 1000) ?_ ?_
  · repeat' first
      | refine load_blk hB2 rfl ?_
      | refine wif_ne (fun _ => ?_) (fun _ => ?_)
      | refine wif_not ?_
      | refine wif_d (fun _ => ?_) (fun _ => ?_)
    all_goals first
      | exact ⟨_, rfl, by simp only [Bool.false_eq_true, false_iff, ndP, fldP]; omega, hE2⟩
      | exact ⟨rfl, rfl, by omega⟩
  rintro w' ⟨rfl, h2⟩
  have hr := arI_le y.k
  refine cut0 gx_ok (fun w' => w2 = w' ∧ (arI y.k < 1 → y.a = 0) ∧ (arI y.k < 2 → y.b = 0)) ?_ ?_
  · repeat' first
      | refine load_blk hB2 rfl ?_
      | refine wif_ne (fun _ => ?_) (fun _ => ?_)
      | refine wif_not ?_
      | refine wif_d (fun _ => ?_) (fun _ => ?_)
    all_goals first
      | exact ⟨_, rfl, by
          simp only [Bool.false_eq_true, false_iff, ndP]
          intro hn
          have h5 := hn.2.2.1
          have h6 := hn.2.2.2
          split at h5 <;> split at h6 <;> omega, hE2⟩
      | exact ⟨rfl, rfl, by omega⟩
  rintro w' ⟨rfl, h3⟩
  have hf : fldP y := ⟨h1, hno, h2⟩
  repeat' first
    | refine load_blk hB2 rfl ?_
    | refine wif_d (fun _ => ?_) (fun _ => ?_)
  all_goals refine ⟨_, rfl, ?_, hE2⟩
  all_goals
    simp only [Bool.false_eq_true, true_iff, false_iff, ndP, decide_eq_true_eq]
    first
      | (refine ⟨h0, hf, ?_, ?_⟩ <;> split <;> omega)
      | (intro hn
         have h5 := hn.2.2.1
         have h6 := hn.2.2.2
         split at h5 <;> split at h6 <;> omega)
      | (constructor
         · intro hlt
           refine ⟨h0, hf, ?_, ?_⟩ <;> split <;> omega
         · intro hn
           have h5 := hn.2.2.1
           have h6 := hn.2.2.2
           split at h5 <;> split at h6 <;> omega)
end Go.Proofs.Ytbkadgdhmfolaaa
