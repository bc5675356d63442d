/-
  The writer of documents: the contracts of its methods and of the parts' write.
  Conditions: none.
-/
import Derived.Test.YtbkadgdhmfolaaaBld
import Derived.Test.YtbkadgdhmfolaaaTree
namespace Go.Proofs.Ytbkadgdhmfolaaa
open Go Go.RowKit

structure Ws where
  out : List Nat
  col : Nat
  pend : Nat
  wrong : Bool

/-- The indentation, if nothing is on the line yet. -/
def wind (st : Ws) : Ws := if st.col = 0 then { st with out := st.out ++ List.replicate st.pend 32, col := st.pend } else st
def wput (s : List Nat) (st : Ws) : Ws := { st with out := st.out ++ s, col := st.col + s.length }
def wadd (s : List Nat) (st : Ws) : Ws := if s = [] then st else wput s (wind st)
def wfeed (ind : Nat) (st : Ws) : Ws := { st with out := st.out ++ [10], col := 0, pend := ind }

def WrRest (st : Ws) : List Value := [.int .i64 st.col, .int .i64 st.pend, .bool st.wrong]
abbrev WrW (w : World) (base g : Nat) (A : Option Addr) (c : Nat) (st : Ws) : Prop := Bld w base g 74 (WrRest st) A c st.out

theorem liesW : LiesB 74 5 := by unfold LiesB; kernel_rfl

def WrPost (w : World) (base g : Nat) (A : Option Addr) (st : Ws) (_ : Value) (w' : World) : Prop := ∃ A' c', WrW w' base g A' c' st ∧ Mod (BldS g A) w w' ∧ Moved w A A'

theorem bytesOf_nil {s : ByteArray} (h : s = ⟨#[]⟩) : bytesOf s = [] := by subst h; rfl
theorem bytesOf_ne {s : ByteArray} (h : ¬ s = ⟨#[]⟩) : bytesOf s ≠ [] := fun e => h (bytesOf_inj (by rw [e]; rfl))

theorem repeat_space (n : Nat) (w : World) (hn : n ≤ 140737488355328) : Fn Try.prog 63 [.string ⟨#[32]⟩, .int .i64 n] w (fun v w' => v = .string (strOf (List.replicate n 32)) ∧ Ext w w') := by
  refine (fn_of_calls (Try.strings_Repeat ⟨#[32]⟩ n w (by omega) (by show 1 * n ≤ _; omega))).mono ?_
  rintro v w' ⟨rfl, hb⟩
  refine ⟨?_, Ext.of_below hb⟩
  congr 1
  apply ByteArray.ext
  apply Array.ext'
  have : ∀ n, Lib.repeatL ([32] : List UInt8) n = (List.replicate n 32).map UInt8.ofNat := by
    intro n
    induction n with
    | zero => rfl
    | succ n ih => simp [Lib.repeatL, List.replicate_succ] at ih ⊢; exact ih
  simpa [strOf] using this n

theorem add_fn (base g : Nat) (A : Option Addr) (c : Nat) (st : Ws) (s : ByteArray) (w : World) (hb : WrW w base g A c st) (hs : st.out.length + st.pend + st.col + s.size ≤ 140737488355328) :
    Fn Try.prog 106 [.pointer (some ⟨g, 0, none⟩), .string s] w (WrPost w base g A (wadd (bytesOf s) st)) := by
  refine fn_of_exec (c := { c106 with cuts := [1] }) gx_ok Try.func106 rfl rfl rfl ?_
  refine wif_d (fun h0 => ?_) (fun h0 => ?_)
  · exact ⟨A, c, by rw [wadd, if_pos (bytesOf_nil h0)]; exact hb, Mod.refl _ _, Moved.refl _ _⟩
  have hne := bytesOf_ne h0
  have hg1 := hb.g1
  have hrows := hb.own.rows
  have hn : ¬ rowS A g := fun h => by have := (hrows g h).1; omega
  refine cut0 gx_ok (fun w' => ∃ A' c', WrW w' base g A' c' (wind st) ∧ Mod (BldS g A) w w' ∧ Moved w A A') ?_ ?_
  · obtain ⟨pa, hpa, hB⟩ := hb.blk
    refine load_blk hB rfl ?_
    refine wif_eq (fun h1 => ?_) (fun h1 => ?_)
    · have h1' : st.col = 0 := by omega
      refine draw_plan gx_ok (Ext w) 8 [(true, 0), (true, 1), (true, 2), (true, 3), (true, 4), (true, 5), (true, 6), (false, 7)] (by kernel_rfl) (Ext.drew w) ?_
      refine qload (v := .int .i64 st.pend) (fun w' hw' => by rw [(hB.ext hw').cell]; rfl) ?_
      refine call (repeat_space st.pend _ (by omega)) ?_
      rintro v w2 ⟨rfl, hE2⟩
      refine ⟨(Ext.drew w).trans hE2, ?_⟩
      have hb2 := hb.grow ((Ext.drew w).trans hE2)
      refine call (writeString_fn base g _ (WrRest st) A c st.out _ w2 liesW hb2 (by rw [strOf_size]; simp; omega)) ?_
      rintro v w3 ⟨A', c', hb3, hm3, hmv3⟩
      rw [bytesOf_strOf (by intro x hx; have := List.eq_of_mem_replicate hx; omega)] at hb3
      obtain ⟨pa3, hpa3, hB3⟩ := hb3.blk
      refine load_blk hB3 rfl ?_
      refine store_mod hB3 (by simp [WrRest]) (fun w4 hm4 hB4 => ?_)
      have hrows3 := hb3.own.rows
      have hm : Mod (BldS g A) w w4 := ((Mod.of_ext (BldS g A) ((Ext.drew w).trans hE2)).trans hm3 (fun i hi => .inl hi)).trans hm4 (fun i hi => .inl (.inl hi))
      refine ⟨rfl, A', c', ⟨hg1, by have := hm4.size; have := hb3.top; omega, ⟨pa3, hpa3, ?_⟩, ?_⟩, hm, hmv3.back ((Ext.drew w).trans hE2).size⟩
      · rw [wind, if_pos h1']; exact hB4
      · rw [wind, if_pos h1']; exact hb3.own.mod hm4 (fun k hk e => by have := (hrows3 k hk).1; omega)
    · have h1' : ¬ st.col = 0 := by omega
      exact ⟨rfl, A, c, by rw [wind, if_neg h1']; exact hb, Mod.refl _ _, Moved.refl _ _⟩
  rintro w1 ⟨A1, c1, hb1, hm1, hmv1⟩
  have hlen1 : (wind st).out.length ≤ st.out.length + st.pend := by unfold wind; split <;> simp
  have hcol1 : (wind st).col ≤ st.pend + st.col := by unfold wind; split <;> simp
  have hwa : wadd (bytesOf s) st = wput (bytesOf s) (wind st) := by rw [wadd, if_neg hne]
  rw [hwa]
  generalize wind st = st1 at *
  refine call (writeString_fn base g _ (WrRest st1) A1 c1 st1.out s w1 liesW hb1 (by omega)) ?_
  rintro v w2 ⟨A2, c2, hb2, hm2, hmv2⟩
  obtain ⟨pa2, hpa2, hB2⟩ := hb2.blk
  refine load_blk hB2 rfl ?_
  refine norm_i64_to ((st1.col + (bytesOf s).length : Nat) : Int) (by rw [bytesOf_length]; omega) (by rw [bytesOf_length]; omega) ?_
  refine store_mod hB2 (by simp [WrRest]) (fun w3 hm3 hB3 => ?_)
  have hrows2 := hb2.own.rows
  refine ⟨A2, c2, ⟨hg1, by have := hm3.size; have := hb2.top; omega, ⟨pa2, hpa2, ?_⟩, ?_⟩, ?_, hmv1.trans hmv2 hm1.size⟩
  · exact hB3
  · exact hb2.own.mod hm3 (fun k hk e => by have := (hrows2 k hk).1; omega)
  · exact (hm1.trans hm2 (BldS.moved hmv1)).trans hm3 (fun i hi => .inl (.inl hi))

theorem feed_fn (base g : Nat) (A : Option Addr) (c : Nat) (st : Ws) (ind : Nat) (w : World) (hb : WrW w base g A c st) (hs : st.out.length + 1 ≤ 140737488355328) :
    Fn Try.prog 108 [.pointer (some ⟨g, 0, none⟩), .int .i64 ind] w (WrPost w base g A (wfeed ind st)) := by
  refine fn_of_exec (c := c108) gx_ok Try.func108 rfl rfl rfl ?_
  have hg1 := hb.g1
  refine call (writeByte_fn base g _ (WrRest st) A c st.out 10 w liesW hb hs) ?_
  rintro v w2 ⟨A2, c2, hb2, hm2, hmv2⟩
  obtain ⟨pa2, hpa2, hB2⟩ := hb2.blk
  refine store_mod hB2 (by simp [WrRest]) (fun w3 hm3 hB3 => ?_)
  refine store_mod hB3 (by simp [WrRest]) (fun w4 hm4 hB4 => ?_)
  have hrows2 := hb2.own.rows
  have hm34 := hm3.trans hm4 (fun i hi => .inl hi)
  refine ⟨A2, c2, ⟨hg1, by have := hm34.size; have := hb2.top; omega, ⟨pa2, hpa2, ?_⟩, ?_⟩, ?_, hmv2⟩
  · exact hB4
  · exact hb2.own.mod hm34 (fun k hk e => by have := (hrows2 k hk).1; omega)
  · exact hm2.trans hm34 (fun i hi => .inl (.inl hi))
end Go.Proofs.Ytbkadgdhmfolaaa
