/-
  The stack of documents that the reference's Made keeps.
  Conditions: none.
-/
import Derived.Test.YtbkadgdhmfolaaaMk3
namespace Go.Proofs.Ytbkadgdhmfolaaa
open Go Go.RowKit

theorem Own.take {w : World} {base e n m c : Nat} {A : Option Addr} {cs : List Value} (h : Own w base e 1 A n c cs) (hm : m ≤ n) : Own w base e 1 A m c (cs.take m) := by
  have h := h.row
  have h1 := h.1
  rw [Nat.mul_one] at h1
  refine ⟨⟨by rw [List.length_take]; omega, ?_⟩⟩
  rcases h.2 with ⟨hv, rfl⟩ | ⟨g, cap, cur, hv, hb, hg, hn, hmx, hs, ht⟩
  · cases hv
    have : m = 0 := by omega
    subst this
    exact .inl ⟨rfl, by simp⟩
  · cases hv
    refine .inr ⟨g, c, cur, rfl, hb, hg, by omega, hmx, hs, ?_⟩
    rw [Nat.mul_one] at ht ⊢
    rw [← ht, List.take_take, Nat.min_eq_left hm]

def u8V (l : List Nat) : List Value := l.map fun n : Nat => .int .u8 (n : Int)
theorem u8V_get {l : List Nat} {j n : Nat} (h : l[j]? = some n) : (u8V l)[j]? = some (.int .u8 n) := by simp [u8V, h]

/-- Texts without line feeds, line breaks that are spaces. -/
def okT : Dt → Prop
  | .text s => 10 ∉ s
  | .line s => ∀ x ∈ s, x = 32
  | .hard => True
  | .seq a b => okT a ∧ okT b
  | .nest _ a => okT a
  | .align a => okT a
  | .group a => okT a

def leafT (k : Int) (s : ByteArray) : Dt := if k = 0 then .text (bytesOf s) else if k = 1 then .line (bytesOf s) else .hard
theorem leaf_rep {k : Int} {s : ByteArray} (h : LeafOk k s) : Rep (leafD k s) (leafT k s) := Rep.leaf h.kind h.no10 h.size h.text rfl
theorem leaf_ok {k : Int} {s : ByteArray} (h : LeafOk k s) : okT (leafT k s) := by
  unfold leafT
  split
  · exact h.no10
  split
  · rename_i h1; exact h.line h1
  · trivial

structure SE where
  A : Option Addr
  c : Nat
  d : List Nd
  t : Dt
def SE.v (x : SE) : Value := .slice x.A x.d.length x.c
structure SEok (w0 w : World) (B : Option Addr) (x : SE) : Prop where
  rep : Rep x.d x.t
  ok : okT x.t
  own : Own w w0.heap.size 59 5 x.A x.d.length x.c (x.d.flatMap Nd.cells)
  off : ∀ k, rowS x.A k → ¬ rowS B k
theorem SEok.sd {w0 w : World} {B : Option Addr} {x : SE} (h : SEok w0 w B x) : SD w x.A x.d.length x.c x.d := ⟨h.own.sl, rfl⟩
theorem SEok.ext {w0 w w' : World} {B : Option Addr} {x : SE} (h : SEok w0 w B x) (k : Ext w w') : SEok w0 w' B x := ⟨h.rep, h.ok, h.own.ext k, h.off⟩
theorem SEok.mod {w0 w w' : World} {B B' : Option Addr} {x : SE} (h : SEok w0 w B x) (k : Mod (rowS B) w w') (hm : Moved w B B') : SEok w0 w' B' x :=
  ⟨h.rep, h.ok, h.own.mod k h.off, fun i hi hb => by
    rcases hm.rows i hb with h1 | h1
    · exact h.off i hi h1
    · have := (h.own.rows i hi).2; omega⟩

def wgt (l : List SE) : Nat := (l.map (fun x => x.d.length + 1)).sum
structure Stk (w0 w : World) (B : Option Addr) (c : Nat) (l : List SE) (size : Nat) : Prop where
  ext : Ext w0 w
  own : Own w w0.heap.size 23 1 B l.length c (l.map SE.v)
  all : ∀ x ∈ l, SEok w0 w B x
  wt : wgt l ≤ size

theorem SE_scalar (x : SE) : scalar x.v = true := rfl

theorem wgt_app (a b : List SE) : wgt (a ++ b) = wgt a + wgt b := by simp [wgt]
theorem wgt_len (l : List SE) : l.length ≤ wgt l := by
  induction l with
  | nil => simp [wgt]
  | cons x l ih => simp only [wgt, List.map_cons, List.sum_cons, List.length_cons] at *; omega
theorem wgt_get {l : List SE} {x : SE} (h : x ∈ l) : x.d.length + 1 ≤ wgt l := by
  induction l with
  | nil => simp at h
  | cons y l ih =>
    simp only [wgt, List.map_cons, List.sum_cons]
    rcases List.mem_cons.1 h with rfl | h
    · omega
    · have := ih h; unfold wgt at this; omega

/-- A document that has just been made. -/
theorem SEok.new {w0 w w' : World} {B : Option Addr} {A : Option Addr} {c : Nat} {d : List Nd} {t : Dt} (hr : Rep d t) (ht : okT t) (hO : Own w' w.heap.size 59 5 A d.length c (d.flatMap Nd.cells)) (h0 : w0.heap.size ≤ w.heap.size) (hB : ∀ k, rowS B k → k < w.heap.size) :
    SEok w0 w' B ⟨A, c, d, t⟩ := ⟨hr, ht, hO.up h0, fun k hk hb => by have := (hO.rows k hk).1; have := hB k hb; omega⟩

theorem wgt_set {l : List SE} {j : Nat} {x y : SE} (h : l[j]? = some x) : wgt (l.set j y) + x.d.length = wgt l + y.d.length := by
  induction l generalizing j with
  | nil => simp at h
  | cons z l ih =>
    cases j with
    | zero => simp at h; subst h; simp [wgt]; omega
    | succ j =>
      simp at h
      have := ih h
      simp only [List.set_cons_succ, wgt, List.map_cons, List.sum_cons] at *
      omega

theorem top_slice_h {c : Cx} (hg : c.g.Ok) {o : Oper} {S : Env} {C : World → Prop} {K : Env → Prop} {t e : Nat} {x y : Operand} {A : Option Addr} {n cp h : Nat} {r : TyRow} (ho : o.op = .slice t x none (some y) none) (hr : rowOf c.g.tys t = some r) (hd : r.d = .slice e) {re : TyRow} (hre : rowOf c.g.tys e = some re)
    (hx : S.ev x = some (.slice A n cp)) (hy : S.ev y = some (.int .i64 h)) (hh : h ≤ cp)
    (k : putK c S o.dst (.v (.slice A h cp)) K) : TOp c o S C K := by
  have hr' := (hg.row hr).1
  rw [hd] at hr'
  refine top_op (v := .slice A h cp) (fun a w hf _ => ?_) k
  have e1 := hf.ev hx
  have e2 := hf.ev hy
  simp [execOp, ho, e1, e2, Instr.sliceAt, Instr.slice, run_underlying hr', Instr.sliceBounds, Instr.sliceBound, asIntOf, hh, run_sizeOf hg hre]
  intro _
  cases A <;> simp [Addr.add]
end Go.Proofs.Ytbkadgdhmfolaaa
