/-
  Worlds that differ in some blocks alone.
  Conditions: none.
-/
import Derived.Test.YtedopgkbajhanaaGreatDoorMem2
namespace Go.Proofs.YtedopgkbajhanaaGreatDoor
open Go Go.RowKit

structure Mod (S : Nat → Prop) (w w' : World) : Prop where
  os : w'.os = w.os
  tape : w'.tape = w.tape
  output : w'.output = w.output
  size : w.heap.size ≤ w'.heap.size
  block : ∀ k, k < w.heap.size → ¬ S k → w'.heap[k]? = w.heap[k]?

theorem Mod.refl (S : Nat → Prop) (w : World) : Mod S w w := ⟨rfl, rfl, rfl, Nat.le_refl _, fun _ _ _ => rfl⟩
theorem Mod.of_ext {w w' : World} (S : Nat → Prop) (h : Ext w w') : Mod S w w' := ⟨h.os, h.tape, h.output, h.size, fun k hk _ => h.block k hk (by simp)⟩
theorem Mod.of_grown {w w' : World} {S : Nat → Prop} {g : Nat} (h : w.grownBy w' (some g)) (hS : S g) : Mod S w w' := ⟨h.os, h.tape, h.output, h.size, fun k hk hn => h.block k hk (fun e => by cases e; exact hn hS)⟩
theorem Mod.trans {S S' : Nat → Prop} {a b c : World} (h : Mod S a b) (k : Mod S' b c) (hs : ∀ i, S' i → S i ∨ a.heap.size ≤ i) : Mod S a c :=
  ⟨k.os.trans h.os, k.tape.trans h.tape, k.output.trans h.output, Nat.le_trans h.size k.size, fun i hi hn => (k.block i (Nat.lt_of_lt_of_le hi h.size) (fun hS => by rcases hs i hS with h | h; exact hn h; omega)).trans (h.block i hi hn)⟩
theorem Mod.mono {S S' : Nat → Prop} {a b : World} (h : Mod S a b) (hs : ∀ i, S i → S' i ∨ a.heap.size ≤ i) : Mod S' a b :=
  ⟨h.os, h.tape, h.output, h.size, fun i hi hn => h.block i hi (fun hS => by rcases hs i hS with h | h; exact hn h; omega)⟩
theorem Mod.ext {S : Nat → Prop} {w0 w w' : World} (h : Mod S w w') (k : Ext w0 w) (hs : ∀ i, S i → w0.heap.size ≤ i) : Ext w0 w' :=
  ⟨h.os.trans k.os, h.tape.trans k.tape, h.output.trans k.output, Nat.le_trans k.size h.size, fun i hi _ => (h.block i (Nat.lt_of_lt_of_le hi k.size) (fun hS => by have := hs i hS; omega)).trans (k.block i hi (by simp))⟩
theorem Blk.mod {S : Nat → Prop} {w w' : World} {g t : Nat} {cs : List Value} (h : Blk w g t cs) (k : Mod S w w') (hn : ¬ S g) : Blk w' g t cs := (k.block g h.lt hn).trans h
theorem Mod.grown {S : Nat → Prop} {w w' : World} (h : Mod S w w') {row : Option Nat} (hs : ∀ i, S i → row = some i) : w.grownBy w' row := ⟨h.os, h.tape, h.output, h.size, fun k hk hn => h.block k hk (fun hS => hn (hs k hS).symm)⟩

/-- The block of a slice's row. -/
def rowS (A : Option Addr) : Nat → Prop := fun k => ∃ ad, A = some ad ∧ ad.block = k
theorem rowS_own {A : Option Addr} {n c k : Nat} (h : (Value.slice A n c).ownBlock = some k) : rowS A k := by
  cases A with
  | none => simp [Value.ownBlock] at h
  | some ad => exact ⟨ad, rfl, by simpa [Value.ownBlock] using h⟩
theorem Mod.of_row {w w' : World} {A : Option Addr} {n c : Nat} (h : w.grownBy w' (Value.slice A n c).ownBlock) : Mod (rowS A) w w' :=
  ⟨h.os, h.tape, h.output, h.size, fun k hk hn => h.block k hk (fun e => hn (rowS_own e.symm))⟩
theorem Own.rows {w : World} {base e sz n c : Nat} {A : Option Addr} {cs : List Value} (h : Own w base e sz A n c cs) : ∀ k, rowS A k → base ≤ k ∧ k < w.heap.size := by
  rintro k ⟨ad, rfl, rfl⟩
  have h := h.row
  rcases h.2 with ⟨hv, _⟩ | ⟨g, cap, cur, hv, hb, hg, _⟩
  · cases hv
  · cases hv; exact ⟨hb, (Array.getElem?_eq_some_iff.1 hg).1⟩
theorem Own.mod {S : Nat → Prop} {w w' : World} {base e sz n c : Nat} {A : Option Addr} {cs : List Value} (h : Own w base e sz A n c cs) (k : Mod S w w') (hn : ∀ i, rowS A i → ¬ S i) : Own w' base e sz A n c cs := by
  have hr := h.row
  refine ⟨⟨hr.1, ?_⟩⟩
  rcases hr.2 with ⟨hv, hx⟩ | ⟨g, cap, cur, hv, hb, hg, hrest⟩
  · exact .inl ⟨hv, hx⟩
  · refine .inr ⟨g, cap, cur, hv, hb, (k.block g (Array.getElem?_eq_some_iff.1 hg).1 (hn g ?_)).trans hg, hrest⟩
    cases hv; exact ⟨_, rfl, rfl⟩
theorem Own.up {w : World} {base base' e sz n c : Nat} {A : Option Addr} {cs : List Value} (h : Own w base e sz A n c cs) (hb : base' ≤ base) : Own w base' e sz A n c cs := by
  have hr := h.row
  refine ⟨⟨hr.1, ?_⟩⟩
  rcases hr.2 with hv | ⟨g, cap, cur, hv, hb', hrest⟩
  · exact .inl hv
  · exact .inr ⟨g, cap, cur, hv, Nat.le_trans hb hb', hrest⟩
/-- Where a row has gone: it stayed, or lies in new memory. -/
def Moved (w : World) (A A' : Option Addr) : Prop := ∀ ad, A' = some ad → A = some ad ∨ w.heap.size ≤ ad.block
theorem Moved.refl (w : World) (A : Option Addr) : Moved w A A := fun _ h => .inl h
theorem Moved.rows {w : World} {A A' : Option Addr} (h : Moved w A A') : ∀ k, rowS A' k → rowS A k ∨ w.heap.size ≤ k := by
  rintro k ⟨ad, rfl, rfl⟩
  rcases h ad rfl with h | h
  · exact .inl ⟨ad, h, rfl⟩
  · exact .inr h
theorem Moved.trans {w w1 : World} {A B C : Option Addr} (h : Moved w A B) (k : Moved w1 B C) (hs : w.heap.size ≤ w1.heap.size) : Moved w A C := fun ad e => by
  rcases k ad e with h1 | h1
  · exact h ad h1
  · exact .inr (by omega)
theorem Moved.back {w w1 : World} {A B : Option Addr} (h : Moved w1 A B) (hs : w.heap.size ≤ w1.heap.size) : Moved w A B := (Moved.refl w A).trans h hs

theorem at_app {c : Cx} (hg : c.g.Ok) {o : Oper} {S : Env} {w : World} {K : Env → World → Prop} {Q : Post} {t t2 e sz : Nat} {x y : Operand} {A B : Option Addr} {n cp : Nat} {m c2 : Nat} {xs ys : List Value} {base : Nat} {r re r2 : TyRow}
    (ho : o.op = .call ⟨.builtin .append, #[x, y], #[t, t2]⟩) (hr : rowOf c.g.tys t = some r) (hd : r.d = .slice e) (hre : rowOf c.g.tys e = some re) (hs : re.sz = sz) (hsz0 : 0 < sz) (hzc : re.z.cells.size = sz) (hr2 : rowOf c.g.tys t2 = some r2) (hd2 : ∃ e2, r2.d = .slice e2)
    (hx : S.ev x = some (.slice A n cp)) (hy : S.ev y = some (.slice B m c2)) (hown : Own w base e sz A n cp xs) (hys : Sl w sz B m c2 ys) (hsc : ∀ u ∈ ys, scalar u = true)
    (h63 : n + m ≤ maxLen) (hby : (n + m) * re.by_ ≤ 140737488355328) (hbase : base ≤ w.heap.size)
    (k : ∀ A' c' w1, Mod (rowS A) w w1 → Own w1 base e sz A' (n + m) c' (xs ++ ys) → Moved w A A' → putK c S o.dst (.v (.slice A' (n + m) c')) (fun S => K S w1)) : AtOp c o S w K Q :=
  at_appendN hg ho hr hd hre hs hsz0 hzc hr2 hd2 hx hy hown hys hsc h63 hby hbase (fun A' c' w1 h1 h2 h3 => k A' c' w1 (Mod.of_row h1) h2 h3)

theorem at_app_str {c : Cx} (hg : c.g.Ok) {o : Oper} {S : Env} {w : World} {K : Env → World → Prop} {Q : Post} {t t2 e : Nat} {x y : Operand} {A : Option Addr} {n cp : Nat} {s : ByteArray} {xs : List Value} {base : Nat} {r re r2 : TyRow}
    (ho : o.op = .call ⟨.builtin .append, #[x, y], #[t, t2]⟩) (hr : rowOf c.g.tys t = some r) (hd : r.d = .slice e) (hre : rowOf c.g.tys e = some re) (hs : re.sz = 1) (hzc : re.z = .int .u8 0) (hbt : re.by_ = 1) (hr2 : rowOf c.g.tys t2 = some r2) (hd2 : r2.d = .string)
    (hx : S.ev x = some (.slice A n cp)) (hy : S.ev y = some (.string s)) (hown : Own w base e 1 A n cp xs)
    (h63 : n + s.size ≤ 140737488355328) (hbase : base ≤ w.heap.size)
    (k : ∀ A' c' w1, Mod (rowS A) w w1 → Own w1 base e 1 A' (n + s.size) c' (xs ++ Lib.strCells s) → Moved w A A' → putK c S o.dst (.v (.slice A' (n + s.size) c')) (fun S => K S w1)) : AtOp c o S w K Q :=
  at_append_str hg ho hr hd hre hs hzc hbt hr2 hd2 hx hy hown h63 hbase (fun A' c' w1 h1 h2 h3 => k A' c' w1 (Mod.of_row h1) h2 h3)

theorem store_mod0 {w : World} {g t : Nat} {cs : List Value} {v : Value} {K : World → Prop} (h : Blk w g t cs) (hj : 0 < cs.length) (k : ∀ w1, Mod (· = g) w w1 → Blk w1 g t (cs.set 0 v) → K w1) : Store w ⟨g, 0, none⟩ v K :=
  store_blk0 h hj (fun w1 h1 h2 => k w1 (Mod.of_grown h1 rfl) h2)
theorem store_mod {w : World} {g t : Nat} {cs : List Value} {j : Nat} {v : Value} {K : World → Prop} (h : Blk w g t cs) (hj : j < cs.length) (k : ∀ w1, Mod (· = g) w w1 → Blk w1 g t (cs.set j v) → K w1) : Store w ((⟨g, 0, none⟩ : Addr).add j) v K :=
  store_blk h hj (fun w1 h1 h2 => k w1 (Mod.of_grown h1 rfl) h2)
theorem sc {vs : List Value} (h : vs.all scalar = true) : ∀ u ∈ vs, scalar u = true := by simpa using h
/-- A new variable that is stored into at once. -/
theorem newBox {w w5 w6 : World} {t : Nat} {cs : List Value} (hE5 : Ext w w5) (_ : Blk w5 w.heap.size t cs) (hg6 : w5.grownBy w6 (some w.heap.size)) : Ext w w6 :=
  (Ext.refl w).own (grown_trans (hE5.grown (some w.heap.size)) hg6) (Nat.le_refl _)
end Go.Proofs.YtedopgkbajhanaaGreatDoor
