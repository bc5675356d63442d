/-
  Slices of structs that are made and filled.
  Conditions: none.
-/
import Derived.Test.YtedopgkbajhanaaGreatDoorKd
namespace Go.Proofs.YtedopgkbajhanaaGreatDoor
open Go Go.RowKit

section
variable {α : Type} {f : α → List Value} {sz : Nat}
theorem take_flat (hf : ∀ x, (f x).length = sz) : ∀ (l : List α) (j : Nat), (l.flatMap f).take (j * sz) = (l.take j).flatMap f
  | [], j => by simp
  | x :: l, 0 => by simp
  | x :: l, j + 1 => by
    rw [List.flatMap_cons, List.take_succ_cons, List.flatMap_cons, ← take_flat hf l j, List.take_append]
    rw [List.take_of_length_le (by rw [hf, Nat.succ_mul]; omega), hf, show (j + 1) * sz - sz = j * sz by rw [Nat.succ_mul]; omega]
theorem drop_flat (hf : ∀ x, (f x).length = sz) : ∀ (l : List α) (j : Nat), (l.flatMap f).drop (j * sz) = (l.drop j).flatMap f
  | [], j => by simp
  | x :: l, 0 => by simp
  | x :: l, j + 1 => by
    rw [List.flatMap_cons, List.drop_succ_cons, ← drop_flat hf l j, List.drop_append]
    rw [List.drop_of_length_le (by rw [hf, Nat.succ_mul]; omega), hf, show (j + 1) * sz - sz = j * sz by rw [Nat.succ_mul]; omega]
    rfl
theorem putL_flat (hf : ∀ x, (f x).length = sz) (l : List α) {j : Nat} (x : α) (hj : j < l.length) : putL (j * sz) (f x) (l.flatMap f) = (l.set j x).flatMap f := by
  have hle : (j + 1) * sz ≤ l.length * sz := Nat.mul_le_mul_right _ hj
  rw [Nat.succ_mul] at hle
  rw [putL_spec _ _ _ (by rw [hf, flat_length hf]; exact hle), hf, take_flat hf, ← Nat.succ_mul, drop_flat hf, List.set_eq_take_append_cons_drop, if_pos hj]
  simp
theorem madeCells_flat (hf : ∀ x, (f x).length = sz) (h0 : 0 < sz) {z : α} {zc : Array Value} (hz : zc.toList = f z) (n : Nat) : (madeCells zc (n * sz)).toList = (List.replicate n z).flatMap f := by
  have hzs : zc.size = sz := by rw [← Array.length_toList, hz, hf]
  apply List.ext_getElem?
  intro i
  by_cases hi : i < n * sz
  · have hd : i / sz < n := Nat.div_lt_of_lt_mul (by rw [Nat.mul_comm]; exact hi)
    have hr : i % sz < sz := Nat.mod_lt _ h0
    have hdm : i / sz * sz + i % sz = i := by rw [Nat.mul_comm]; exact Nat.div_add_mod i sz
    have g1 : (List.replicate n z)[i / sz]? = some z := by rw [List.getElem?_replicate, if_pos hd]
    have g2 := List.getElem?_eq_getElem (l := f z) (i := i % sz) (by rw [hf]; exact hr)
    have g3 := flat_get hf _ _ _ _ _ g1 g2
    rw [hdm] at g3
    rw [g3]
    have e : zc[i % zc.size]! = (f z)[i % sz]'(by rw [hf]; exact hr) := by
      have h1 : zc[i % sz]? = some ((f z)[i % sz]'(by rw [hf]; exact hr)) := by rw [← Array.getElem?_toList, hz]; exact g2
      rw [hzs, Array.getElem!_eq_getD, Array.getD_eq_getD_getElem?, h1]; rfl
    simp [madeCells, hi, e]
  · rw [List.getElem?_eq_none (by simp [madeCells]; omega), List.getElem?_eq_none (by rw [flat_length hf]; simp; omega)]

theorem at_makeN (hf : ∀ x, (f x).length = sz) (h0 : 0 < sz) (z : α) {c : Cx} (hg : c.g.Ok) {o : Oper} {S : Env} {w : World} {K : Env → World → Prop} {Q : Post} {t e : Nat} {x y : Operand} {n : Nat} {r re : TyRow} (ho : o.op = .makeSlice t x y) (hr : rowOf c.g.tys t = some r) (hd : r.d = .slice e) (hre : rowOf c.g.tys e = some re) (hz : re.z.cells.toList = f z)
    (hs : re.sz = sz) (hx : S.ev x = some (.int .i64 n)) (hy : S.ev y = some (.int .i64 n)) (hb : re.by_ * n ≤ 281474976710656) (hn : n ≤ maxLen)
    (k : ∀ w1, Ext w w1 → w1.heap.size = w.heap.size + 1 → Blk w1 w.heap.size e ((List.replicate n z).flatMap f) → putK c S o.dst (.v (.slice (some ⟨w.heap.size, 0, none⟩) n n)) (fun S => K S w1)) : AtOp c o S w K Q := by
  obtain ⟨_, i, hi, hsz, hby, hiz⟩ := hg.row hre
  have hr' := (hg.row hr).1
  rw [hd] at hr'
  have hr1 := run_make (P := c.g.P) w t e i re.z hr' hi hiz .i64 .i64 n n (by omega) (by omega) (by rw [hby]; omega) (by unfold maxLen at hn; omega)
  have hm := madeCells_flat hf h0 hz n
  rw [hsz, hs] at hr1
  simp only [Int.toNat_natCast] at hr1
  refine at_run (w' := w.alloc (.cells (madeCells re.z.cells (n * sz)) e)) (v := .slice (some ⟨w.heap.size, 0, none⟩) n n) (fun a hf => ?_) (k _ (Ext.alloc w _) (by simp) ?_)
  · have e1 := hf.ev hx
    have e2 := hf.ev hy
    simp only [execOp, ho, e1, e2]
    simp at hr1 ⊢
    rw [hr1]; rfl
  · rw [← hm]
    simpa using Blk.new w e (madeCells re.z.cells (n * sz)).toList
end
end Go.Proofs.YtedopgkbajhanaaGreatDoor
