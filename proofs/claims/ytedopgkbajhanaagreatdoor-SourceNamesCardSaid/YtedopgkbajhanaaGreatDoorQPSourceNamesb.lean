/-
  What PSourceNames rests on, part 2: the texts of this work, without what it does not use; printed by a program (wip/shake.py).
  Conditions: none.
-/
import Derived.Test.YtedopgkbajhanaaGreatDoorQPSourceNamesa
namespace Go.Proofs.YtedopgkbajhanaaGreatDoor
section
open Go Go.RowKit

theorem strCells_bytesV (s : ByteArray) : Lib.strCells s = bytesV (bytesOf s) := by
  simp only [Lib.strCells, bytesV, bytesOf, List.map_map]
  rfl

structure Bld (w : World) (base g t : Nat) (rest : List Value) (A : Option Addr) (c : Nat) (out : List Nat) : Prop where
  g1 : g < base
  top : base ≤ w.heap.size
  blk : ∃ pa, (pa = .pointer none ∨ pa = .pointer (some ⟨g, 0, none⟩)) ∧ Blk w g t (pa :: .slice A out.length c :: rest)
  own : Own w base 5 1 A out.length c (bytesV out)

theorem Bld.grow {w w' : World} {base g t : Nat} {rest : List Value} {A : Option Addr} {c : Nat} {out : List Nat} (h : Bld w base g t rest A c out) (k : Ext w w') : Bld w' base g t rest A c out :=
  ⟨h.g1, Nat.le_trans h.top k.size, let ⟨pa, h1, h2⟩ := h.blk; ⟨pa, h1, h2.ext k⟩, h.own.ext k⟩

/-- What a builder's methods may touch. -/
def BldS (g : Nat) (A : Option Addr) : Nat → Prop := fun k => k = g ∨ rowS A k
/-- A builder lies at the head of a variable of this type and size. -/
def LiesB (t m : Nat) : Prop := liesAt Tryz.prog Tryz.prog.depth t (m / Tryz.prog.cellsOf t) 0 86 1 = true

theorem Blk.shape {w : World} {g t : Nat} {cs : List Value} (h : Blk w g t cs) : w.shape? g = some (t, cs.length) := by
  unfold World.shape?; rw [h]; simp

theorem gxP : gx.P = Tryz.prog := rfl

theorem builder_info : ∃ j, Tryz.prog.info? 86 = some j ∧ j.size ≠ 0 := by
  obtain ⟨_, i, hi, hs, _⟩ := gx_ok.row (t := 86) rfl
  exact ⟨i, hi, by rw [hs]; decide⟩

theorem copyCheck_fn (g t : Nat) (pa sl : Value) (rest : List Value) (w : World) (hl : LiesB t (rest.length + 2)) (hp : pa = .pointer none ∨ pa = .pointer (some ⟨g, 0, none⟩)) (hB : Blk w g t (pa :: sl :: rest)) :
    Fn Tryz.prog 98 [.pointer (some ⟨g, 0, none⟩)] w (fun _ w' => Mod (· = g) w w' ∧ Blk w' g t (.pointer (some ⟨g, 0, none⟩) :: sl :: rest)) := by
  obtain ⟨j, hj, hj0⟩ := builder_info
  refine fn_of_exec (c := c98) gx_ok Tryz.func98 rfl rfl rfl ?_
  have hsh := hB.shape
  have ucs := Tryz.underlying84
  have uus := Tryz.underlying192
  rcases hp with rfl | rfl
  · refine load_blk hB rfl ?_
    refine wif_t rfl ?_
    refine at_run (w' := w) (v := .pointer (some ⟨g, 0, none⟩)) (fun a hf => ?_) ?_
    · have e1 := hf.ev (show Env.ev _ (.tmp 8) = some (.pointer (some ⟨g, 0, none⟩)) from rfl)
      have := Lib.run_to_unsafe (P := Tryz.prog) (src := 84) (dst := 192) w ⟨g, 0, none⟩ ucs uus hj hj0 hsh (by simp)
      simp only [execOp, e1]
      simp [gxP, this]
    refine at_run (w' := w) (v := .pointer (some ⟨g, 0, none⟩)) (fun a hf => ?_) ?_
    · have e1 := hf.ev (show Env.ev _ (.tmp 9) = some (.pointer (some ⟨g, 0, none⟩)) from rfl)
      have := run_callFunc_extern (P := Tryz.prog) (e := Extern.AbiNoEscape.same) Tryz.func131 (by kernel_rfl) (by kernel_rfl) (by kernel_rfl) (by kernel_rfl) #[.pointer (some ⟨g, 0, none⟩)] w
      rw [Lib.run_noEscape] at this
      simp only [execOp, resolve, invoke]
      simp [Deferred.ofValue, Act.eval] at e1 ⊢
      simp [e1, gxP, this]
    refine at_run (w' := w) (v := .pointer (some ⟨g, 0, none⟩)) (fun a hf => ?_) ?_
    · have e1 := hf.ev (show Env.ev _ (.tmp 10) = some (.pointer (some ⟨g, 0, none⟩)) from rfl)
      have := Lib.run_from_unsafe (P := Tryz.prog) (src := 192) (dst := 84) (u := 86) w ⟨g, 0, none⟩ uus ucs hj hsh (by simpa [LiesB] using hl)
      simp only [execOp, e1]
      simp [gxP, this]
    refine store_mod hB (by simp) (fun w1 hm hB1 => ?_)
    exact ⟨hm, hB1⟩
  · refine load_blk hB rfl ?_
    refine wif_f rfl ?_
    refine load_blk hB rfl ?_
    refine at_run (w' := w) (v := .bool false) (fun a hf => ?_) ?_
    · have e1 := hf.ev (show Env.ev _ (.tmp 17) = some (.pointer (some ⟨g, 0, none⟩)) from rfl)
      have e2 := hf.ev (show Env.ev _ (.tmp 18) = some (.pointer (some ⟨g, 0, none⟩)) from rfl)
      have := Lib.run_neq_ptr_same (P := Tryz.prog) (tp := 84) w ⟨g, 0, none⟩ ucs hj
      simp only [execOp, e1, e2, eqGuard]
      simp [gxP, this]
    refine wif_f rfl ?_
    exact ⟨Mod.refl _ _, hB⟩

theorem writeString_fn (base g t : Nat) (rest : List Value) (A : Option Addr) (c : Nat) (out : List Nat) (s : ByteArray) (w : World) (hl : LiesB t (rest.length + 2)) (hb : Bld w base g t rest A c out) (hs : out.length + s.size ≤ 140737488355328) :
    Fn Tryz.prog 57 [.pointer (some ⟨g, 0, none⟩), .string s] w (fun _ w' => ∃ A' c', Bld w' base g t rest A' c' (out ++ bytesOf s) ∧ Mod (BldS g A) w w' ∧ Moved w A A') := by
  refine fn_of_exec (c := c57) gx_ok Tryz.func57 rfl rfl rfl ?_
  obtain ⟨pa, hpa, hB⟩ := hb.blk
  refine call (copyCheck_fn g t pa _ rest w hl hpa hB) ?_
  rintro v w1 ⟨hm1, hB1⟩
  have hrows := hb.own.rows
  have hg1 := hb.g1
  have hn : ¬ rowS A g := fun h => by have := (hrows g h).1; omega
  have hown1 := hb.own.mod hm1 (fun k hk e => hn (e ▸ hk))
  refine load_blk hB1 rfl ?_
  refine at_app_str gx_ok rfl rfl rfl rfl rfl rfl rfl rfl rfl rfl rfl hown1 hs (by have := hm1.size; have := hb.top; omega) ?_
  intro A' c' w2 hm2 hown2 hmv2
  refine store_mod (hB1.mod hm2 hn) (by simp) (fun w3 hm3 hB3 => ?_)
  have hlen : (out ++ bytesOf s).length = out.length + s.size := by rw [List.length_append, bytesOf_length]
  have hrows2 := hown2.rows
  refine ⟨A', c', ⟨hg1, by have := hm1.size; have := hm2.size; have := hm3.size; have := hb.top; omega, ⟨_, .inr rfl, by rw [hlen]; exact hB3⟩, ?_⟩, ?_, hmv2.back hm1.size⟩
  · rw [hlen, bytesV_append, ← strCells_bytesV]
    exact hown2.mod hm3 (fun k hk e => by have := (hrows2 k hk).1; omega)
  · exact ((hm1.mono (S' := BldS g A) (fun i hi => .inl (.inl hi))).trans hm2 (fun i hi => .inl (.inr hi))).trans hm3 (fun i hi => .inl (.inl hi))

theorem freeze_mod (w : World) (g n : Nat) {S : Nat → Prop} (h : S g) : Mod S w (w.freeze ⟨g, 0, none⟩ n) := by
  unfold World.freeze
  split
  · exact Mod.refl _ _
  · refine ⟨rfl, rfl, rfl, by simp, fun k hk hn => ?_⟩
    simp only [Array.getElem?_modify]
    rw [if_neg (fun (e : g = k) => hn (e ▸ h))]

theorem string_fn (base g t : Nat) (rest : List Value) (A : Option Addr) (c : Nat) (out : List Nat) (w : World) (hb : Bld w base g t rest A c out) (h8 : ∀ x ∈ out, x < 256) (hs : out.length ≤ 140737488355328) :
    Fn Tryz.prog 47 [.pointer (some ⟨g, 0, none⟩)] w (fun v w' => v = .string (strOf out) ∧ Mod (rowS A) w w') := by
  obtain ⟨pa, hpa, hB⟩ := hb.blk
  refine fn_of_exec (c := c47) gx_ok Tryz.func47 rfl rfl rfl ?_
  have hlen : (bytesV out).length = out.length := bytesV_length out
  refine draw_plan gx_ok (Ext w) 10 [(true, 0), (true, 1), (true, 2), (true, 3), (true, 5), (true, 6), (true, 7), (true, 8), (true, 9), (false, 4)] (by kernel_rfl) (Ext.drew w) ?_
  refine qload (v := .slice A out.length c) (fun w' hw' => by rw [(hB.ext hw').cell]; rfl) ?_
  refine qload (v := .slice A out.length c) (fun w' hw' => by rw [(hB.ext hw').cell]; rfl) ?_
  have fin0 : out.length = 0 → Value.string ByteArray.empty = Value.string (strOf out) := fun h0 => by
    have : out = [] := List.eq_nil_of_length_eq_zero h0
    subst this; rfl
  by_cases h0 : out.length = 0
  · have key : ∃ p w1, (Builtin.unsafeSliceData_ #[74] 140 #[.slice A out.length c]).run Tryz.prog w.drew = .ok (.pointer p) w1 ∧ Ext w w1 := by
      rcases hb.own.row.2 with ⟨hv, _⟩ | ⟨g', cap, cur, hv, hb', hg', _⟩
      · simp only [Value.slice.injEq] at hv
        obtain ⟨rfl, _, rfl⟩ := hv
        exact ⟨none, w.drew, Lib.run_unsafeSliceData_nil _ _ _ _ _, Ext.drew w⟩
      · simp only [Value.slice.injEq] at hv
        obtain ⟨rfl, _, rfl⟩ := hv
        by_cases hc0 : c = 0
        · subst hc0
          have hsh : w.drew.shape? g' = some (5, cur.size) := by
            unfold World.shape?; rw [show w.drew.heap[g']? = _ from hg']
          exact ⟨_, _, Lib.run_unsafeSliceData_zero (P := Tryz.prog) w.drew _ _ 5 Tryz.underlying140 ⟨g', 0, none⟩ _ _ hsh, (Ext.drew w).trans (Ext.alloc _ _)⟩
        · exact ⟨_, w.drew, Lib.run_unsafeSliceData_row (P := Tryz.prog) w.drew _ _ ⟨g', 0, none⟩ _ _ hc0, Ext.drew w⟩
    obtain ⟨p, w1, hrun, hE1⟩ := key
    refine at_run (w' := w1) (v := .pointer p) (fun a hf => ?_) ⟨hE1, ?_⟩
    · have e1 := hf.ev (show Env.ev _ (.tmp 6) = some (.slice A out.length c) from rfl)
      simp only [execOp, resolve, invoke, builtin]
      simp [gxP, e1, hrun]
    refine at_run (w' := w1) (v := .string ByteArray.empty) (fun a hf => ?_) ?_
    · have e1 := hf.ev (show Env.ev _ (.tmp 7) = some (.pointer p) from rfl)
      have e2 := hf.ev (show Env.ev _ (.tmp 12) = some (.int .i64 out.length) from rfl)
      have := Lib.run_unsafeString_none (P := Tryz.prog) w1 140 3 9 p
      rw [h0] at e2
      simp only [execOp, resolve, invoke, builtin]
      simp [gxP, e1, e2]
      rw [this]; rfl
    exact ⟨fin0 h0, Mod.of_ext _ hE1⟩
  · obtain ⟨g', sp, rfl, hb', hB', hl'⟩ := hb.own.blk (by omega)
    have hle := hb.own.sl.le
    refine at_run (w' := w.drew) (v := .pointer (some ⟨g', 0, none⟩)) (fun a hf => ?_) ⟨Ext.drew w, ?_⟩
    · have e1 := hf.ev (show Env.ev _ (.tmp 6) = some (.slice (some ⟨g', 0, none⟩) out.length c) from rfl)
      have := Lib.run_unsafeSliceData_row (P := Tryz.prog) w.drew #[74] 140 ⟨g', 0, none⟩ out.length c (by omega)
      simp only [execOp, resolve, invoke, builtin]
      simp [gxP, e1, this]
    refine at_run (w' := w.drew.freeze ⟨g', 0, none⟩ out.length) (v := .string (strOf out)) (fun a hf => ?_) ?_
    · have e1 := hf.ev (show Env.ev _ (.tmp 7) = some (.pointer (some ⟨g', 0, none⟩)) from rfl)
      have e2 := hf.ev (show Env.ev _ (.tmp 12) = some (.int .i64 out.length) from rfl)
      have hsh : w.drew.shape? g' = some (5, (bytesV out ++ sp).length) := (hB'.ext (Ext.drew w)).shape
      have hl2 : (out.map UInt8.ofNat).length = out.length := by simp
      have := Lib.run_unsafeString_row (P := Tryz.prog) w.drew 140 3 9 5 Tryz.underlying140 (by kernel_rfl) g' _ hsh (out.map UInt8.ofNat) (by intro e; apply h0; rw [← hl2, e]; rfl) (by simp [bytesV_length]) (by rw [hl2]; omega) (fun j x hj => by
        rw [(hB'.ext (Ext.drew w)).cell]
        simp only [List.getElem?_map, Option.map_eq_some_iff] at hj
        obtain ⟨y, hy, rfl⟩ := hj
        have hjl : j < out.length := (List.getElem?_eq_some_iff.1 hy).1
        rw [List.getElem?_append_left (by rw [hlen]; exact hjl), bytesV_get' hy]
        have := h8 y (List.mem_of_getElem? hy)
        simp [Nat.mod_eq_of_lt this])
      rw [hl2] at this
      simp only [execOp, resolve, invoke, builtin]
      simp [gxP, e1, e2]
      rw [this]; rfl
    exact ⟨rfl, (Mod.of_ext (rowS _) (Ext.drew w)).trans (freeze_mod w.drew g' out.length (S := rowS (some ⟨g', 0, none⟩)) ⟨_, rfl, rfl⟩) (fun i hi => .inl hi)⟩
end
end Go.Proofs.YtedopgkbajhanaaGreatDoor

namespace Go.Proofs.YtedopgkbajhanaaGreatDoor
section
section
open Go Go.RowKit

/-- A node of a formula. -/
structure Fz where
  o : Int
  v : Int
  a : Int
  b : Int
deriving DecidableEq
def Fz.cells (x : Fz) : List Value := [.int .i64 x.o, .int .i64 x.v, .int .i64 x.a, .int .i64 x.b]
theorem fz_len (x : Fz) : x.cells.length = 4 := rfl

def isDig (b : Nat) : Bool := decide (48 ≤ b) && decide (b ≤ 57)
def isLet (b : Nat) : Bool := b == 95 || (decide (97 ≤ b) && decide (b ≤ 122)) || (decide (65 ≤ b) && decide (b ≤ 90))
def isId (b : Nat) : Bool := isLet b || isDig b
/-- The length of the identifier at the beginning. -/
def idLen : List Nat → Nat
  | [] => 0
  | b :: l => if isDig b then 0 else ((b :: l).takeWhile isId).length
def trimB (l : List Nat) : List Nat := l.dropWhile fun b => b == 32 || b == 9

/-- A parser's state: what is still to come, the nodes so far, whether a condition was unknown. -/
structure Ps where
  r : List Nat
  f : List Fz
  u : Bool
/-- Spaces, and then a symbol. -/
def skipP (sym : List Nat) (p : Ps) : Bool × Ps := if sym.isPrefixOf (trimB p.r) then (true, { p with r := (trimB p.r).drop sym.length }) else (false, { p with r := trimB p.r })
def putP (x : Fz) (p : Ps) : Nat × Ps := (p.f.length, { p with f := p.f ++ [x] })

def loopP (sym : List Nat) (op : Int) (opd : Ps → Option (Nat × Ps)) : Nat → Nat → Ps → Option (Nat × Ps)
  | 0, _, _ => none
  | m + 1, a, p => match skipP sym p with
    | (true, p1) => match opd p1 with
      | none => none
      | some (b, p2) => loopP sym op opd m p2.f.length { p2 with f := p2.f ++ [⟨op, 0, a, b⟩] }
    | (false, p1) => some (a, p1)
def chainP (sym : List Nat) (op : Int) (opd : Ps → Option (Nat × Ps)) (p : Ps) : Option (Nat × Ps) := match opd p with
  | none => none
  | some (a, p1) => loopP sym op opd (p1.r.length + 1) a p1
/-- A factor; ix: the conditions' numbers. -/
def facP (ix : List Nat → Option Nat) : Nat → Ps → Option (Nat × Ps)
  | 0, _ => none
  | n + 1, p => match skipP [33] p with
    | (true, p1) => match facP ix n p1 with
      | none => none
      | some (a, p2) => some (putP ⟨3, 0, a, 0⟩ p2)
    | (false, p1) => match skipP [40] p1 with
      | (true, p2) => match chainP [124, 124] 5 (chainP [38, 38] 4 (facP ix n)) p2 with
        | none => none
        | some (a, p3) => match skipP [41] p3 with
          | (true, p4) => some (a, p4)
          | (false, _) => none
      | (false, p2) => if idLen p2.r = 0 then none else
          let word := p2.r.take (idLen p2.r)
          let p3 : Ps := { p2 with r := p2.r.drop (idLen p2.r) }
          if word = [116, 114, 117, 101] then some (putP ⟨1, 0, 0, 0⟩ p3) else if word = [102, 97, 108, 115, 101] then some (putP ⟨0, 0, 0, 0⟩ p3) else
            some (putP ⟨2, ((ix word).getD 0 : Nat), 0, 0⟩ { p3 with u := p3.u || (ix word).isNone })
def wholeP (ix : List Nat → Option Nat) (n : Nat) (p : Ps) : Option (Nat × Ps) := chainP [124, 124] 5 (chainP [38, 38] 4 (facP ix n)) p
end

section
open Go Go.RowKit

theorem strOf_extract (l : List Nat) (a b : Nat) : (strOf l).extract a b = strOf ((l.take b).drop a) := by
  apply ByteArray.ext
  apply Array.ext'
  simp [strOf, List.drop_take]
theorem strOf_eq {l m : List Nat} (hl : ∀ x ∈ l, x < 256) (hm : ∀ x ∈ m, x < 256) : decide (strOf l = strOf m) = decide (l = m) := by
  by_cases h : l = m
  · subst h; simp
  · rw [decide_eq_false h, decide_eq_false (fun e => h (strOf_inj hl hm e))]
theorem B8.drop {l : List Nat} (h : ∀ x ∈ l, x < 256) (k : Nat) : ∀ x ∈ l.drop k, x < 256 := fun x hx => h x (List.mem_of_mem_drop hx)
theorem B8.take {l : List Nat} (h : ∀ x ∈ l, x < 256) (k : Nat) : ∀ x ∈ l.take k, x < 256 := fun x hx => h x (List.mem_of_mem_take hx)
theorem pre_take (p l : List Nat) : p.isPrefixOf l = decide (p.length ≤ l.length ∧ l.take p.length = p) := by
  rw [Bool.eq_iff_iff, List.isPrefixOf_iff_prefix, decide_eq_true_eq]
  constructor
  · rintro ⟨t, rfl⟩
    exact ⟨by simp, by simp⟩
  · rintro ⟨h1, h2⟩
    refine ⟨l.drop p.length, ?_⟩
    have := List.take_append_drop p.length l
    rw [h2] at this
    exact this

theorem hasprefix_fn (l p : List Nat) (w : World) (hl : ∀ x ∈ l, x < 256) (hp : ∀ x ∈ p, x < 256) :
    Fn Tryz.prog 168 [.string (strOf l), .string (strOf p)] w (fun v w' => v = .bool (p.isPrefixOf l) ∧ w = w') := by
  refine fn_of_exec (c := c168) gx_ok Tryz.func168 rfl rfl rfl ?_
  refine wif_d (fun h1 => ?_) (fun h1 => ?_)
  · rw [strOf_size, strOf_size] at h1
    refine need ⟨by omega, by omega, by rw [strOf_size, strOf_size]; omega⟩ ?_
    refine ⟨?_, rfl⟩
    rw [pre_take]
    congr 1
    refine decide_eq_decide.2 ?_
    simp only [Int.toNat_natCast, Int.toNat_zero]
    rw [strOf_extract, List.drop_zero, strOf_size]
    exact ⟨fun h => ⟨by omega, strOf_inj (B8.take hl _) hp h⟩, fun h => by rw [h.2]⟩
  · rw [strOf_size, strOf_size] at h1
    exact ⟨by rw [pre_take, decide_eq_false (fun h => h1 (by omega))], rfl⟩

/-- What CutPrefix hands back. -/
def cutV (l p : List Nat) : Value := if p.isPrefixOf l then .tuple #[.string (strOf (l.drop p.length)), .bool true] else .tuple #[.string (strOf l), .bool false]
theorem cutprefix1_fn (l p : List Nat) (w : World) (hl : ∀ x ∈ l, x < 256) (hp : ∀ x ∈ p, x < 256) :
    Fn Tryz.prog 144 [.string (strOf l), .string (strOf p)] w (fun v w' => v = cutV l p ∧ w = w') := by
  refine fn_of_exec (c := c144) gx_ok Tryz.func144 rfl rfl rfl ?_
  refine call (hasprefix_fn l p w hl hp) ?_
  rintro v w1 ⟨rfl, rfl⟩
  unfold cutV
  cases hpre : p.isPrefixOf l with
  | false =>
    refine wif_t rfl ?_
    exact ⟨rfl, rfl⟩
  | true =>
    refine wif_f rfl ?_
    have hle : p.length ≤ l.length := by rw [pre_take] at hpre; exact (of_decide_eq_true hpre).1
    refine need ⟨by omega, by rw [strOf_size, strOf_size]; omega, by omega⟩ ?_
    refine ⟨?_, rfl⟩
    simp only [Int.toNat_natCast, strOf_size]
    rw [strOf_extract, List.take_of_length_le (Nat.le_refl _)]
    rfl
theorem cutprefix_fn (l p : List Nat) (w : World) (hl : ∀ x ∈ l, x < 256) (hp : ∀ x ∈ p, x < 256) :
    Fn Tryz.prog 112 [.string (strOf l), .string (strOf p)] w (fun v w' => v = cutV l p ∧ w = w') := by
  refine fn_of_exec (c := c112) gx_ok Tryz.func112 rfl rfl rfl ?_
  refine call (cutprefix1_fn l p w hl hp) ?_
  rintro v w1 ⟨rfl, rfl⟩
  unfold cutV
  split
  · exact ⟨rfl, rfl⟩
  · exact ⟨rfl, rfl⟩

/-! ### Leading blanks -/
/-- The set of the bytes 32 and 9. -/
def asV (k : Nat) : List Value := (List.range 256).map fun j => .bool (decide (0 < k ∧ j = 32) || decide (1 < k ∧ j = 9))
theorem asV_len (k : Nat) : (asV k).length = 256 := by simp [asV]
theorem asV_get {k j : Nat} (h : j < 256) : (asV k)[j]? = some (.bool (decide (0 < k ∧ j = 32) || decide (1 < k ∧ j = 9))) := by
  unfold asV; rw [List.getElem?_map, List.getElem?_range h]; rfl
theorem asV_scalar (k : Nat) : ∀ u ∈ asV k, scalar u = true := fun u hu => by
  unfold asV at hu
  simp only [List.mem_map] at hu
  obtain ⟨j, _, rfl⟩ := hu
  rfl
theorem asV_next {k x : Nat} (hk : k < 2) (hx : [32, 9][k]? = some x) : (asV k).set x (.bool true) = asV (k + 1) := by
  apply List.ext_getElem?
  intro j
  by_cases hj : j < 256
  · rw [List.getElem?_set, asV_get hj, asV_get hj, asV_len]
    have hk2 : k = 0 ∨ k = 1 := by omega
    rcases hk2 with rfl | rfl
    · simp at hx
      subst hx
      split
      · rename_i e; subst e; simp
      · rename_i e
        have : ¬ j = 32 := fun h => e h.symm
        simp [this]
    · simp at hx
      subst hx
      split
      · rename_i e; subst e; simp
      · rename_i e
        have : ¬ j = 9 := fun h => e h.symm
        simp [this]
  · rw [List.getElem?_eq_none (by rw [List.length_set, asV_len]; omega), List.getElem?_eq_none (by rw [asV_len]; omega)]

set_option maxRecDepth 20000 in
theorem asciiset_fn (w : World) : Fn Tryz.prog 141 [.string (strOf [32, 9])] w (fun v w' => v = .tuple #[.agg (asV 2).toArray, .bool true] ∧ Ext w w') := by
  refine fn_of_exec (c := c141) gx_ok Tryz.func141 rfl rfl rfl ?_
  refine new (fun w1 hE1 hz1 hB1 => ?_)
  have hB1' : Blk w1 w.heap.size 208 (asV 0) := hB1
  clear hB1
  refine loop gx_ok [4] (fun k : Nat => [.int .i64 k]) (fun k w' => k ≤ 2 ∧ Ext w w' ∧ Blk w' w.heap.size 208 (asV k)) (fun k _ => 2 - k) 0 rfl ⟨by omega, hE1, hB1'⟩ ?_
  rintro k w2 ⟨hk, hE2, hB2⟩
  refine wif_d (fun h1 => ?_) (fun h1 => ?_)
  · have hk2 : k < 2 := by
      have : ((strOf [32, 9]).size : Int) = 2 := rfl
      omega
    refine sindex' (s := strOf [32, 9]) (by show k < 2; exact hk2) (fun x hx hx8 => ?_)
    have hx' : [32, 9][k]? = some x := by rw [bytesOf_strOf (by decide)] at hx; exact hx
    have hxl : x < 128 := by
      have : k = 0 ∨ k = 1 := by omega
      rcases this with rfl | rfl
      · simp at hx'; omega
      · simp at hx'; omega
    refine wif_df (by omega) ?_
    refine index_i (j := x) rfl (by omega) ?_
    refine store_mod hB2 (by rw [asV_len]; omega) (fun w3 hm3 hB3 => ?_)
    rw [asV_next hk2 hx'] at hB3
    refine norm_i64_to ((k + 1 : Nat) : Int) (by omega) (by omega) ?_
    exact ⟨k + 1, rfl, ⟨by omega, hm3.ext hE2 (fun i hi => by omega), hB3⟩, by show 2 - (k + 1) < 2 - k; omega⟩
  · have hk2 : k = 2 := by
      have : ((strOf [32, 9]).size : Int) = 2 := rfl
      omega
    subst hk2
    refine loadN_blk0 hB2 (asV_len 2) ?_
    refine storeN_blk0 hB2 rfl (asV_scalar 2) (fun w3 hg3 _ hB3 => ?_)
    refine loadN_blk0 hB3 (asV_len 2) ?_
    exact ⟨rfl, hE2.own hg3 (Nat.le_refl _)⟩

theorem ascontains_fn (g x : Nat) (w : World) (hB : Blk w g 208 (asV 2)) (hx : x < 256) :
    Fn Tryz.prog 165 [.pointer (some ⟨g, 0, none⟩), .int .u8 x] w (fun v w' => v = .bool (x == 32 || x == 9) ∧ w = w') := by
  refine fn_of_exec (c := c165) gx_ok Tryz.func165 rfl rfl rfl ?_
  refine index_i (j := x) rfl (by omega) ?_
  refine load_blk hB (asV_get hx) ?_
  refine ⟨?_, rfl⟩
  have e : ∀ y : Nat, (x == y) = decide (x = y) := fun y => rfl
  simp [e]

theorem trimascii_fn (g : Nat) (l : List Nat) (w : World) (hB : Blk w g 208 (asV 2)) (hl : ∀ x ∈ l, x < 256) (_ : l.length ≤ 9223372036854775807) :
    Fn Tryz.prog 142 [.string (strOf l), .pointer (some ⟨g, 0, none⟩)] w (fun v w' => v = .string (strOf (trimB l)) ∧ Ext w w') := by
  refine fn_of_exec (c := c142) gx_ok Tryz.func142 rfl rfl rfl ?_
  refine loop gx_ok [0] (fun m : List Nat => [.string (strOf m)]) (fun m w' => Ext w w' ∧ trimB m = trimB l ∧ (∀ x ∈ m, x < 256)) (fun m _ => m.length) l rfl ⟨Ext.refl _, rfl, hl⟩ ?_
  rintro m w1 ⟨hE1, hm, hm8⟩
  refine wif_d (fun h1 => ?_) (fun h1 => ?_)
  · cases m with
    | nil => simp [strOf_size] at h1
    | cons x m =>
      refine sindex' (s := strOf (x :: m)) (by rw [strOf_size]; simp) (fun y hy hy8 => ?_)
      have hyx : y = x := by rw [bytesOf_strOf hm8] at hy; simpa using hy.symm
      subst hyx
      refine call (ascontains_fn g y w1 (hB.ext hE1) hy8) ?_
      rintro v w2 ⟨rfl, rfl⟩
      cases hb : (y == 32 || y == 9) with
      | false =>
        refine wif_t rfl ?_
        refine ⟨?_, hE1⟩
        rw [← hm]
        unfold trimB
        rw [List.dropWhile_cons, hb]
        rfl
      | true =>
        refine wif_f rfl ?_
        refine need ⟨by omega, by omega, by omega⟩ ?_
        refine ⟨m, ?_, ⟨hE1, ?_, fun z hz => hm8 z (by simp [hz])⟩, by simp⟩
        · have e : (strOf (y :: m)).extract (Int.toNat 1) (((strOf (y :: m)).size : Int)).toNat = strOf m := by
            rw [strOf_extract, strOf_size, Int.toNat_natCast, List.take_of_length_le (Nat.le_refl _)]
            rfl
          rw [e]
          rfl
        · rw [← hm]
          unfold trimB
          rw [List.dropWhile_cons, hb]
          rfl
  · cases m with
    | nil => exact ⟨by rw [← hm]; rfl, hE1⟩
    | cons x m => rw [strOf_size] at h1; simp at h1

set_option maxRecDepth 20000 in
theorem trimleft_fn (l : List Nat) (w : World) (hl : ∀ x ∈ l, x < 256) (hlen : l.length ≤ 9223372036854775807) :
    Fn Tryz.prog 111 [.string (strOf l), .string (strOf [32, 9])] w (fun v w' => v = .string (strOf (trimB l)) ∧ Ext w w') := by
  refine fn_of_exec (c := c111) gx_ok Tryz.func111 rfl rfl rfl ?_
  refine wif_d (fun h1 => ?_) (fun h1 => ?_)
  · have : l = [] := strOf_inj hl (by simp) (h1.trans rfl)
    subst this
    exact ⟨rfl, Ext.refl _⟩
  refine wif_df (by decide) ?_
  refine wif_eqf (by decide) ?_
  refine call (asciiset_fn w) ?_
  rintro v w1 ⟨rfl, hE1⟩
  refine new (fun w2 hE2 hz2 hB2 => ?_)
  refine storeN_blk0 hB2 (asV_len 2) (asV_scalar 2) (fun w3 hg3 _ hB3 => ?_)
  have hE13 := newBox hE2 hB2 hg3
  refine wif_t rfl ?_
  refine call (trimascii_fn w1.heap.size l w3 hB3 hl hlen) ?_
  rintro v w4 ⟨rfl, hE4⟩
  exact ⟨rfl, hE1.trans (hE13.trans hE4)⟩
end

section
open Go Go.RowKit

theorem fn_of_calls {P : Program} {f : FuncId} {l : List Value} {w : World} {v : Value} {R : World → Prop} (h : Calls P f l.toArray w fun e w' => e = .returned v ∧ R w') : Fn P f l w (fun u w' => u = v ∧ R w') := by
  unfold Fn
  exact h.mono fun e w' he => by obtain ⟨rfl, h⟩ := he; exact ⟨rfl, h⟩
theorem Ext.of_below {w w' : World} (h : Below w.heap.size w w') : Ext w w' := ⟨h.os, h.tape, h.output, h.size, fun k hk _ => h.block k hk⟩
theorem isId_iff (r : Nat) : isId r = true ↔ (r = 95 ∨ (97 ≤ r ∧ r ≤ 122) ∨ (65 ≤ r ∧ r ≤ 90) ∨ (48 ≤ r ∧ r ≤ 57)) := by
  unfold isId isLet isDig
  simp
  omega
theorem isid_fn (r : Nat) (w : World) : Fn Tryz.prog 138 [.int .i32 r] w (fun v w' => v = .bool (!isId r) ∧ w = w') := by
  have hb : isId r = decide (r = 95 ∨ (97 ≤ r ∧ r ≤ 122) ∨ (65 ≤ r ∧ r ≤ 90) ∨ (48 ≤ r ∧ r ≤ 57)) := by rw [Bool.eq_iff_iff, isId_iff, decide_eq_true_eq]
  rw [hb]
  refine fn_of_exec (c := c138) gx_ok Tryz.func138 rfl rfl rfl ?_
  have hcase : r = 95 ∨ (97 ≤ r ∧ r ≤ 122) ∨ (65 ≤ r ∧ r ≤ 90) ∨ (48 ≤ r ∧ r ≤ 57) ∨ r < 48 ∨ (57 < r ∧ r < 65) ∨ (90 < r ∧ r < 95) ∨ r = 96 ∨ 122 < r := by omega
  rcases hcase with h | h | h | h | h | h | h | h | h <;>
    repeat (first | refine wif_net (by omega) ?_ | refine wif_nef (by omega) ?_ | refine wif_dt (by omega) ?_ | refine wif_df (by omega) ?_ | refine wif_t rfl ?_ | refine wif_f rfl ?_)
  all_goals refine ⟨?_, rfl⟩
  all_goals congr 1
  all_goals first
    | (have hP : (r = 95 ∨ (97 ≤ r ∧ r ≤ 122) ∨ (65 ≤ r ∧ r ≤ 90) ∨ (48 ≤ r ∧ r ≤ 57)) := by omega
       rw [decide_eq_true hP]
       first | rfl | exact decide_eq_false (by omega) | exact decide_eq_true (by omega))
    | (have hP : ¬ (r = 95 ∨ (97 ≤ r ∧ r ≤ 122) ∨ (65 ≤ r ∧ r ≤ 90) ∨ (48 ≤ r ∧ r ≤ 57)) := by omega
       rw [decide_eq_false hP]
       first | rfl | exact decide_eq_true (by omega) | exact decide_eq_false (by omega))

theorem get_bang {s : ByteArray} {pos : Nat} (h : pos < s.size) : s.get! pos = s[pos] := by
  simp [ByteArray.get!, ByteArray.getElem_eq_getElem_data, getElem!_pos s.data pos h]
theorem decode_lo {s : ByteArray} {pos : Nat} (h : pos < s.size) (ha : s[pos].toNat < 128) : Utf8.decode s pos = (s[pos].toNat, 1) := by
  unfold Utf8.decode
  simp only [Nat.add_zero, get_bang h]
  rw [if_pos ha]
theorem decode_hi {s : ByteArray} {pos : Nat} (h : pos < s.size) (ha : ¬ s[pos].toNat < 128) : 128 ≤ (Utf8.decode s pos).1 := by
  unfold Utf8.decode
  simp only [Nat.add_zero, get_bang h]
  rw [if_neg ha]
  have he : 128 ≤ Utf8.runeError := by decide
  split
  · split
    · assumption
    · exact he
  split
  · split
    · rename_i h1
      simp at h1
      exact Nat.le_trans (by decide) h1.1
    · exact he
  split
  · split
    · rename_i h1
      simp at h1
      exact Nat.le_trans (by decide) h1.1
    · exact he
  · exact he

/-- The first byte that belongs to no identifier. -/
theorem idx_id (s : ByteArray) : ∀ (f pos : Nat), s.size ≤ pos + f → pos ≤ s.size →
    Lib.idxFuncFrom (fun r => !isId r) true s f pos = if ((bytesOf s).drop pos).all isId then -1 else ((pos + (((bytesOf s).drop pos).takeWhile isId).length : Nat) : Int)
  | 0, pos, h, hp => by
    rw [List.drop_of_length_le (by rw [bytesOf_length]; omega)]
    rfl
  | f + 1, pos, h, hp => by
    unfold Lib.idxFuncFrom
    by_cases hps : pos < s.size
    · rw [if_pos hps]
      have hg : (bytesOf s).drop pos = s[pos].toNat :: (bytesOf s).drop (pos + 1) := by
        rw [List.drop_eq_getElem_cons (by rw [bytesOf_length]; exact hps)]
        congr 1
        have := bytesOf_get hps
        exact (List.getElem?_eq_some_iff.1 this).2
      rw [hg]
      by_cases ha : s[pos].toNat < 128
      · have hd := decode_lo hps ha
        rw [hd]
        dsimp only
        cases hi : isId s[pos].toNat with
        | true =>
          rw [if_neg (by simp), idx_id s f (pos + 1) (by omega) (by omega)]
          simp only [List.all_cons, hi, Bool.true_and, List.takeWhile_cons, if_true, List.length_cons]
          split
          · rfl
          · congr 1; omega
        | false =>
          rw [if_pos (by simp)]
          simp [hi]
      · have hi : isId s[pos].toNat = false := by
          cases e : isId s[pos].toNat with
          | false => rfl
          | true => have := (isId_iff _).1 e; omega
        have hd : isId (Utf8.decode s pos).1 = false := by
          have h128 := decode_hi hps ha
          cases e : isId (Utf8.decode s pos).1 with
          | false => rfl
          | true => have := (isId_iff _).1 e; omega
        rw [if_pos (by rw [hd]; rfl)]
        simp [hi]
    · rw [if_neg hps, List.drop_of_length_le (by rw [bytesOf_length]; omega)]
      rfl

theorem indexf_fn (l : List Nat) (w : World) (hl : ∀ x ∈ l, x < 256) : Fn Tryz.prog 137 [.string (strOf l), .func (.func 138) #[] #[]] w (fun v w' => v = .int .i64 (if l.all isId then -1 else ((l.takeWhile isId).length : Nat)) ∧ Ext w w') := by
  refine fn_of_exec (c := c137) gx_ok Tryz.func137 rfl rfl rfl ?_
  have hp : Go.Proofs.PredAt Tryz.prog 138 #[] Go.Proofs.encR (fun r => !isId r) w := fun W r _ => by
    have h := isid_fn r W
    unfold Fn at h
    exact h.mono fun e w' he => by
      cases e with
      | returned v => obtain ⟨rfl, rfl⟩ := he; exact ⟨rfl, 0, rfl⟩
      | panicked ch => exact he.elim
      | outgrown => exact he.elim
  have hc := Tryz.strings_indexFunc 138 #[] (Go.Proofs.enters_of Tryz.func138 rfl rfl) (fun r => !isId r) true (strOf l) w hp
  refine call (fn_of_calls hc) ?_
  rintro v w1 ⟨rfl, hb⟩
  refine ⟨?_, Ext.of_below hb⟩
  unfold Lib.idxFunc
  rw [idx_id (strOf l) _ 0 (by omega) (Nat.zero_le _), bytesOf_strOf hl, List.drop_zero, Nat.zero_add]
end
end
end Go.Proofs.YtedopgkbajhanaaGreatDoor

namespace Go.Proofs.YtedopgkbajhanaaGreatDoor
section
open Go Go.RowKit

/-! ### Keys -/
structure KeyQ {α : Type} [DecidableEq α] (P : Program) (ke : Nat) (kv : α → Value) : Prop where
  find : ∀ (a : α) (m : List (α × Value)) (bs : List Nat) (w : World), bs.length = m.length →
    ∃ r, (Instr.findKey ke (kv a) (entsOf kv m bs)).run P w = .ok r w ∧ r.map (·.2) = assoc a m ∧ (∀ j v, r = some (j, v) → ∀ v', entsOf kv (assocSet a v' m) bs = (entsOf kv m bs).modify j (fun e => { e with key := kv a, val := v' }) ∧ ((entsOf kv m bs)[j]?).map (·.key) = some (kv a)) ∧ (r = none → ∀ v', assocSet a v' m = m ++ [(a, v')])
  check : ∀ b a w, (Instr.checkKey b 10000 ke (kv a)).run P w = .ok () w
  bits : ∀ a, Instr.sameBits 10000 (kv a) (kv a) = true

theorem findAsking_ents {α : Type} [DecidableEq α] {P : Program} {ke : Nat} {kv : α → Value} (a : α) (w : World) (heq : ∀ b : α, (Op.equal ke (kv a) (kv b)).run P w = .ok (decide (a = b)) w) : ∀ (m : List (α × Value)) (bs : List Nat) (i : Nat), bs.length = m.length →
    ∃ r, (Instr.findAsking ke (kv a) (entsOf kv m bs) i).run P w = .ok r w ∧ r.map (·.2) = assoc a m ∧ (∀ j v, r = some (j, v) → i ≤ j ∧ ∀ v', entsOf kv (assocSet a v' m) bs = (entsOf kv m bs).modify (j - i) (fun e => { e with key := kv a, val := v' }) ∧ ((entsOf kv m bs)[j - i]?).map (·.key) = some (kv a)) ∧ (r = none → ∀ v', assocSet a v' m = m ++ [(a, v')])
  | [], bs, i, h => ⟨none, by simp [entsOf, Instr.findAsking], rfl, (fun j v h => by cases h), fun _ v' => rfl⟩
  | (b, u) :: m, [], i, h => by simp at h
  | (b, u) :: m, s :: bs, i, h => by
    have e : entsOf kv ((b, u) :: m) (s :: bs) = { key := kv b, val := u, born := s } :: entsOf kv m bs := rfl
    rw [e]
    unfold Instr.findAsking
    simp only [Sem.run_bind, heq, Result.andThen_ok]
    by_cases hab : a = b
    · subst hab
      simp only [decide_true, if_true]
      refine ⟨some (i, u), by simp, by simp [assoc], fun j v hj => ?_, fun h => by cases h⟩
      cases hj
      refine ⟨Nat.le_refl _, fun v' => ?_⟩
      simp [assocSet, entsOf]
    · simp only [hab, decide_false, Bool.false_eq_true, if_false]
      obtain ⟨r, h1, h2, h3, h4⟩ := findAsking_ents a w heq m bs (i + 1) (by simpa using h)
      refine ⟨r, h1, by simp [assoc, hab, h2], fun j v hj => ?_, fun hn v' => by simp [assocSet, hab, h4 hn v']⟩
      obtain ⟨h5, h7⟩ := h3 j v hj
      refine ⟨by omega, fun v' => ?_⟩
      obtain ⟨h8, h9⟩ := h7 v'
      rw [show j - i = (j - (i + 1)) + 1 by omega]
      refine ⟨?_, by simpa using h9⟩
      simp only [assocSet, hab, if_false]
      rw [show entsOf kv ((b, u) :: assocSet a v' m) (s :: bs) = { key := kv b, val := u, born := s } :: entsOf kv (assocSet a v' m) bs from rfl, h8]
      simp

theorem KeyQ.asking {α : Type} [DecidableEq α] {P : Program} {ke : Nat} {kv : α → Value} {fs : Array Field} (hu : P.underlying ke = some (.struct fs))
    (heq : ∀ (a b : α) (w : World), (Op.equal ke (kv a) (kv b)).run P w = .ok (decide (a = b)) w) (hc : ∀ b a w, (Instr.checkKey b 10000 ke (kv a)).run P w = .ok () w) (hb : ∀ a, Instr.sameBits 10000 (kv a) (kv a) = true) : KeyQ P ke kv := by
  refine ⟨fun a m bs w hl => ?_, hc, hb⟩
  have key := findAsking_ents (P := P) (ke := ke) (kv := kv) a w (fun b => heq a b w) m bs 0 hl
  obtain ⟨r, h1, h2, h3, h4⟩ := key
  refine ⟨r, ?_, h2, fun j v hj v' => by simpa using (h3 j v hj).2 v', h4⟩
  unfold Instr.findKey
  simp only [Sem.run_bind, run_underlying hu, Result.andThen_ok]
  cases m with
  | nil =>
    simp only [entsOf, List.zip_nil_left, List.map_nil, Instr.findNow, Sem.run_pure]
    simp [entsOf, Instr.findAsking] at h1
    rw [h1]
  | cons p m =>
    cases bs with
    | nil => simp at hl
    | cons s bs =>
      have e : entsOf kv (p :: m) (s :: bs) = { key := kv p.1, val := p.2, born := s } :: entsOf kv m bs := rfl
      rw [e] at h1 ⊢
      have hn : Instr.findNow (.struct fs) (kv a) ({ key := kv p.1, val := p.2, born := s } :: entsOf kv m bs) 0 = none := by
        simp [Instr.findNow, Instr.sameNow]
      rw [hn]
      exact h1

/-- A map in memory; stamps are not shown. -/
structure MapQ {α : Type} (kv : α → Value) (w : World) (r : Nat) (m : List (α × Value)) : Prop where
  ex : ∃ bs ck, bs.length = m.length ∧ bs.Nodup ∧ (∀ b ∈ bs, b < ck) ∧ w.heap[r]? = some (.map (entsOf kv m bs).toArray ck)
theorem MapQ.ext {α : Type} {kv : α → Value} {w w' : World} {r : Nat} {m : List (α × Value)} (h : MapQ kv w r m) (k : Ext w w') : MapQ kv w' r m := by
  obtain ⟨bs, ck, hl, h1, h2, hb⟩ := h.ex
  exact ⟨bs, ck, hl, h1, h2, (k.block r (Array.getElem?_eq_some_iff.1 hb).1 (by simp)).trans hb⟩
theorem MapQ.mod {α : Type} {kv : α → Value} {S : Nat → Prop} {w w' : World} {r : Nat} {m : List (α × Value)} (h : MapQ kv w r m) (k : Mod S w w') (hn : ¬ S r) : MapQ kv w' r m := by
  obtain ⟨bs, ck, hl, h1, h2, hb⟩ := h.ex
  exact ⟨bs, ck, hl, h1, h2, (k.block r (Array.getElem?_eq_some_iff.1 hb).1 hn).trans hb⟩

theorem at_makeMapQ {α : Type} {c : Cx} (_ : c.g.Ok) {o : Oper} {S : Env} {w : World} {K : Env → World → Prop} {Q : Post} {t : Nat} (kv : α → Value) (ho : o.op = .makeMap t none)
    (k : ∀ w1, Ext w w1 → w1.heap.size = w.heap.size + 1 → MapQ kv w1 w.heap.size [] → putK c S o.dst (.v (.map (some w.heap.size))) (fun S => K S w1)) : AtOp c o S w K Q := by
  refine at_run (w' := w.alloc (.map #[] 0)) (fun a hf => ?_) (k _ (Ext.alloc w _) (by simp) ⟨[], 0, rfl, List.nodup_nil, by simp, heap_alloc_new w _⟩)
  simp [execOp, ho, Instr.makeMap]

section
variable {α : Type} [DecidableEq α] {kv : α → Value} {c : Cx} {o : Oper} {S : Env} {w : World} {K : Env → World → Prop} {Q : Post} {t ke e : Nat} {r re : TyRow} {x y : Operand} {q : Nat} {m : List (α × Value)} {a : α}

theorem run_lookupQ (hg : c.g.Ok) (hr : rowOf c.g.tys t = some r) (hd : r.d = .map ke e) (hre : rowOf c.g.tys e = some re) (hk : KeyQ c.g.P ke kv) (hm : MapQ kv w q m) (ok : Bool) :
    (Instr.lookup t (.map (some q)) (kv a) ok).run c.g.P w = .ok (if ok then .tuple #[(assoc a m).getD re.z, .bool (assoc a m).isSome] else (assoc a m).getD re.z) w := by
  have hr' := (hg.row hr).1
  rw [hd] at hr'
  obtain ⟨_, i, hi, _, _, hiz⟩ := hg.row hre
  obtain ⟨bs, ck, hl, _, _, hb⟩ := hm.ex
  obtain ⟨res, h1, h2, _, _⟩ := hk.find a m bs w hl
  have hgo : (getObj q).run c.g.P w = .ok (.map (entsOf kv m bs).toArray ck) w := by simp [getObj, Sem.run, hb]
  have hz : (zeroValue e).run c.g.P w = .ok re.z w := by simp [zeroValue, typeInfo, hi, hiz]
  simp only [Instr.lookup, Sem.run_bind, run_underlying hr', Result.andThen_ok, hgo, Sem.run_pure, hk.check, h1]
  rw [← h2]
  cases res with
  | none => cases ok <;> simp [hz]
  | some p => cases ok <;> simp

theorem at_lookupQ_ok (hg : c.g.Ok) (ho : o.op = .lookup t x y true) (hr : rowOf c.g.tys t = some r) (hd : r.d = .map ke e) (hre : rowOf c.g.tys e = some re) (hk : KeyQ c.g.P ke kv)
    (hx : S.ev x = some (.map (some q))) (hy : S.ev y = some (kv a)) (hm : MapQ kv w q m)
    (k : putK c S o.dst (.v (.tuple #[(assoc a m).getD re.z, .bool (assoc a m).isSome])) (fun S => K S w)) : AtOp c o S w K Q := by
  refine at_run (w' := w) (fun b hf => ?_) k
  have e1 := hf.ev hx
  have e2 := hf.ev hy
  have := run_lookupQ (w := w) (a := a) hg hr hd hre hk hm true
  simp only [execOp, ho, e1, e2]
  simp only [Sem.run_bind, this, Result.andThen_ok]
  simp

theorem assocSet_len {α : Type} [DecidableEq α] (a : α) (v : Value) : ∀ (m : List (α × Value)), (assoc a m).isSome → (assocSet a v m).length = m.length
  | [], h => by simp [assoc] at h
  | (b, x) :: m, h => by
    simp only [assocSet]
    split
    · simp
    · rename_i hab; simp [assocSet_len a v m (by simpa [assoc, hab] using h)]

theorem at_mapUpdateQ {v : Value} {z : Operand} (hg : c.g.Ok) (ho : o.op = .mapUpdate t x y z) (hdst : o.dst = none) (hr : rowOf c.g.tys t = some r) (hd : r.d = .map ke e) (hk : KeyQ c.g.P ke kv)
    (hx : S.ev x = some (.map (some q))) (hy : S.ev y = some (kv a)) (hz : S.ev z = some v) (hm : MapQ kv w q m)
    (k : ∀ w1, Mod (· = q) w w1 → w1.heap.size = w.heap.size → MapQ kv w1 q (assocSet a v m) → K S w1) : AtOp c o S w K Q := by
  have hr' := (hg.row hr).1
  rw [hd] at hr'
  obtain ⟨bs, ck, hl, hnd, hck, hb⟩ := hm.ex
  have hlt : q < w.heap.size := (Array.getElem?_eq_some_iff.1 hb).1
  obtain ⟨res, h1, h2, h3, h4⟩ := hk.find a m bs w hl
  have hgo : (getObj q).run c.g.P w = .ok (.map (entsOf kv m bs).toArray ck) w := by simp [getObj, Sem.run, hb]
  have hset : ∀ ob, (setObj q ob).run c.g.P w = .ok () { w with heap := w.heap.setIfInBounds q ob } := fun ob => by simp [setObj, Sem.run, hb]
  have main : ∃ ob, (Instr.mapUpdate t (.map (some q)) (kv a) v).run c.g.P w = .ok () { w with heap := w.heap.setIfInBounds q ob } ∧ ∃ bs' ck', bs'.length = (assocSet a v m).length ∧ bs'.Nodup ∧ (∀ b ∈ bs', b < ck') ∧ ob = .map (entsOf kv (assocSet a v m) bs').toArray ck' := by
    cases res with
    | none =>
      refine ⟨_, ?_, bs ++ [ck], ck + 1, ?_, ?_, ?_, rfl⟩
      · simp only [Instr.mapUpdate, Sem.run_bind, run_underlying hr', Result.andThen_ok, hgo, hk.check, h1, hset]
        rw [h4 rfl v]
        congr 4
        simp only [entsOf]
        rw [List.zip_append hl.symm, List.map_append]
        simp
      · rw [h4 rfl v]; simp [hl]
      · rw [List.nodup_append]
        refine ⟨hnd, by simp, fun x hx y hy => ?_⟩
        simp at hy
        have := hck x hx
        omega
      · intro b hb'
        simp only [List.mem_append, List.mem_singleton] at hb'
        rcases hb' with hb' | rfl
        · have := hck b hb'; omega
        · omega
    | some p =>
      obtain ⟨j, u⟩ := p
      obtain ⟨h8, h9⟩ := h3 j u rfl v
      have hkey : (((entsOf kv m bs).toArray[j]?).map (·.key)).getD (kv a) = kv a := by
        rw [show (entsOf kv m bs).toArray[j]? = (entsOf kv m bs)[j]? from by simp, h9]; rfl
      refine ⟨_, ?_, bs, ck, ?_, hnd, hck, rfl⟩
      · simp only [Instr.mapUpdate, Sem.run_bind, run_underlying hr', Result.andThen_ok, hgo, hk.check, h1, hkey, Instr.keyThatStays, hk.bits, if_true, Sem.run_pure, hset]
        rw [h8]
        congr 4
        simp
      · rw [assocSet_len a v m (by rw [← h2]; rfl), hl]
  obtain ⟨ob, hrun, bs', ck', hl', hnd', hck', rfl⟩ := main
  unfold AtOp
  intro b hf
  have e1 := hf.ev hx
  have e2 := hf.ev hy
  have e3 := hf.ev hz
  unfold Oper.wp
  have : (execOp b.eval o).run c.g.P w = .ok .skip { w with heap := w.heap.setIfInBounds q (.map (entsOf kv (assocSet a v m) bs').toArray ck') } := by
    simp only [execOp, ho, e1, e2, e3]
    simp [hrun]
  rw [this]
  refine ⟨S, by rw [hdst]; simpa [Act.put] using hf, k _ ⟨rfl, rfl, rfl, by simp, fun i _ hi => ?_⟩ (by simp) ⟨bs', ck', hl', hnd', hck', ?_⟩⟩
  · simp only [Array.getElem?_setIfInBounds]
    rw [if_neg (fun e => hi e.symm)]
  · simp [hlt]

/-! ### Ranging over a map -/
end

section
variable {α : Type} {kv : α → Value} {c : Cx} {o : Oper} {S : Env} {w : World} {K : Env → World → Prop} {Q : Post} {t ke e : Nat} {r : TyRow} {x : Operand} {q it : Nat} {m L : List (α × Value)} {cur : Option (α × Value)}

end
end
end Go.Proofs.YtedopgkbajhanaaGreatDoor

namespace Go.Proofs.YtedopgkbajhanaaGreatDoor
section
section
open Go Go.RowKit

theorem takeWhile_all {p : Nat → Bool} {l : List Nat} (h : l.all p = true) : l.takeWhile p = l := by
  induction l with
  | nil => rfl
  | cons x l ih =>
    simp only [List.all_cons, Bool.and_eq_true] at h
    rw [List.takeWhile_cons, if_pos h.1, ih h.2]
theorem idLen_cons (b : Nat) (l : List Nat) : idLen (b :: l) = if isDig b then 0 else ((b :: l).takeWhile isId).length := rfl
theorem idLen_le (l : List Nat) : idLen l ≤ l.length := by
  cases l with
  | nil => exact Nat.le_refl _
  | cons b l =>
    rw [idLen_cons]
    split
    · exact Nat.zero_le _
    · exact (List.takeWhile_sublist _).length_le

theorem identifier_fn (l : List Nat) (w : World) (hl : ∀ x ∈ l, x < 256) (hlen : l.length ≤ 9223372036854775807) :
    Fn Tryz.prog 107 [.string (strOf l)] w (fun v w' => v = .int .i64 (idLen l : Nat) ∧ Ext w w') := by
  refine fn_of_exec (c := { c107 with cuts := [2] }) gx_ok Tryz.func107 rfl rfl rfl ?_
  refine call (indexf_fn l w hl) ?_
  rintro v w1 ⟨rfl, hE1⟩
  have hT : (l.takeWhile isId).length ≤ l.length := (List.takeWhile_sublist _).length_le
  refine cutIn [] gx_ok [3] (fun n : Nat => [.int .i64 n]) (fun n w' => w1 = w' ∧ n = (l.takeWhile isId).length) ?_ ?_
  · cases ha : l.all isId with
    | true =>
      rw [if_pos rfl]
      refine wif_dt (by omega) ?_
      exact ⟨(strOf l).size, rfl, rfl, by rw [strOf_size, takeWhile_all ha]⟩
    | false =>
      rw [if_neg (by simp)]
      refine wif_df (by omega) ?_
      exact ⟨(l.takeWhile isId).length, rfl, rfl, rfl⟩
  rintro n _ ⟨rfl, hn⟩
  cases l with
  | nil =>
    have : n = 0 := by simpa using hn
    subst this
    refine wif_df (by omega) ?_
    exact ⟨rfl, hE1⟩
  | cons b l =>
    have hb8 := hl b (by simp)
    have hS : (strOf (b :: l)).size = l.length + 1 := by rw [strOf_size]; rfl
    by_cases hd : isDig b = true
    · have hid : isId b = true := by unfold isId; rw [hd, Bool.or_true]
      have hdb : 48 ≤ b ∧ b ≤ 57 := by unfold isDig at hd; simpa using hd
      have hn0 : 0 < n := by rw [hn, List.takeWhile_cons, if_pos hid]; simp
      refine wif_dt (by omega) ?_
      refine sindex' (s := strOf (b :: l)) (j := 0) (by rw [hS]; omega) (fun x hx hx8 => ?_)
      have hxb : x = b := by rw [bytesOf_strOf hl] at hx; simpa using hx.symm
      subst hxb
      refine wif_dt (by omega) ?_
      refine sindex' (s := strOf (x :: l)) (j := 0) (by rw [hS]; omega) (fun y hy hy8 => ?_)
      have hyb : y = x := by rw [bytesOf_strOf hl] at hy; simpa using hy.symm
      subst hyb
      refine wif_dt (by omega) ?_
      exact ⟨by rw [idLen_cons, if_pos hd]; rfl, hE1⟩
    · have hid : idLen (b :: l) = n := by rw [idLen_cons, if_neg hd, hn]
      rw [hid]
      by_cases hn0 : 0 < n
      · have hdb : ¬ (48 ≤ b ∧ b ≤ 57) := fun h => hd (by unfold isDig; simpa using h)
        refine wif_dt (by omega) ?_
        refine sindex' (s := strOf (b :: l)) (j := 0) (by rw [hS]; omega) (fun x hx hx8 => ?_)
        have hxb : x = b := by rw [bytesOf_strOf hl] at hx; simpa using hx.symm
        subst hxb
        refine wif_d (fun h1 => ?_) (fun h1 => ?_)
        · refine sindex' (s := strOf (x :: l)) (j := 0) (by rw [hS]; omega) (fun y hy hy8 => ?_)
          have hyb : y = x := by rw [bytesOf_strOf hl] at hy; simpa using hy.symm
          subst hyb
          refine wif_df (by omega) ?_
          exact ⟨rfl, hE1⟩
        · exact ⟨rfl, hE1⟩
      · refine wif_df (by omega) ?_
        exact ⟨rfl, hE1⟩

/-! ### Names -/
/-- A list of strings in memory. -/
def strsV (l : List (List Nat)) : List Value := l.map fun s => .string (strOf s)
theorem strsV_get {l : List (List Nat)} {j : Nat} {s : List Nat} (h : l[j]? = some s) : (strsV l)[j]? = some (.string (strOf s)) := by simp [strsV, h]
theorem strsV_length (l : List (List Nat)) : (strsV l).length = l.length := by simp [strsV]

def trueL : List Nat := [116, 114, 117, 101]
def falseL : List Nat := [102, 97, 108, 115, 101]
/-- A name. -/
def nameOk (s : List Nat) : Bool := decide (s ≠ [] ∧ idLen s = s.length ∧ s ≠ trueL ∧ s ≠ falseL)
/-- The map of the names so far. -/
def nameM : List (List Nat) → Nat → List (ByteArray × Value) → List (ByteArray × Value)
  | [], _, m => m
  | s :: l, i, m => nameM l (i + 1) (assocSet (strOf s) (.int .i64 (i : Nat)) m)
theorem nameM_app : ∀ (l : List (List Nat)) (s : List Nat) (i : Nat) (m : List (ByteArray × Value)), nameM (l ++ [s]) i m = assocSet (strOf s) (.int .i64 ((i + l.length : Nat) : Int)) (nameM l i m)
  | [], s, i, m => rfl
  | t :: l, s, i, m => by
    simp only [List.cons_append, nameM]
    rw [nameM_app l s (i + 1)]
    congr 3
    simp only [List.length_cons]
    omega
end

section
open Go Go.RowKit

theorem at_maplen {α : Type} {kv : α → Value} {c : Cx} (hg : c.g.Ok) {o : Oper} {S : Env} {w : World} {K : Env → World → Prop} {Q : Post} {t q ke e : Nat} {x : Operand} {m : List (α × Value)} {r : TyRow}
    (ho : o.op = .call ⟨.builtin .len, #[x], #[t]⟩) (hr : rowOf c.g.tys t = some r) (hd : r.d = .map ke e) (hx : S.ev x = some (.map (some q))) (hm : MapAt kv w q m)
    (k : putK c S o.dst (.v (.int .i64 m.length)) (fun S => K S w)) : AtOp c o S w K Q := by
  have hr' := (hg.row hr).1
  rw [hd] at hr'
  obtain ⟨bs, ck, hl, hb⟩ := hm.ex
  refine at_run (w' := w) (v := .int .i64 m.length) (fun a hf => ?_) k
  have e1 := hf.ev hx
  have hgo : (getObj q).run c.g.P w = .ok (.map (entsOf kv m bs).toArray ck) w := by simp [getObj, Sem.run, hb]
  have hle : (entsOf kv m bs).length = m.length := by simp [entsOf, hl]
  simp only [execOp, ho, resolve, invoke]
  simp [builtin, e1, Builtin.len_, run_underlying hr', hgo, goInt, hle]

abbrev strK : ByteArray → Value := fun s => .string s

/-- Is this list of names valid? -/
def numsOk (names : List (List Nat)) : Bool := decide (names.all nameOk = true ∧ (nameM names 0 []).length = names.length ∧ names.length ≤ 64)

theorem all_take {names : List (List Nat)} {j : Nat} {s : List Nat} (h : (names.take j).all nameOk = true) (hj : names[j]? = some s) (hs : nameOk s = true) : (names.take (j + 1)).all nameOk = true := by
  rw [List.take_add_one, hj]; simp [List.all_append, h, hs]
theorem not_all {names : List (List Nat)} {j : Nat} {s : List Nat} (hj : names[j]? = some s) (hs : nameOk s ≠ true) : numsOk names = false := by
  unfold numsOk
  refine decide_eq_false (fun h => hs ?_)
  exact List.all_eq_true.1 h.1 s (List.mem_of_getElem? hj)
theorem nameM_take {names : List (List Nat)} {j : Nat} {s : List Nat} (hj : names[j]? = some s) : nameM (names.take (j + 1)) 0 [] = assocSet (strOf s) (.int .i64 (j : Nat)) (nameM (names.take j) 0 []) := by
  have hlt : j < names.length := (List.getElem?_eq_some_iff.1 hj).1
  rw [List.take_add_one, hj]
  show nameM (names.take j ++ [s]) 0 [] = _
  rw [nameM_app, List.length_take, Nat.min_eq_left (by omega), Nat.zero_add]
def NamesOk (names : List (List Nat)) : Prop := ∀ s ∈ names, (∀ x ∈ s, x < 256) ∧ s.length ≤ 9223372036854775807

theorem numbers_fn (names : List (List Nat)) (A : Option Addr) (n c : Nat) (w : World) (h : Sl w 1 A n c (strsV names)) (hb : NamesOk names) :
    Fn Tryz.prog 68 [.slice A n c] w (fun v w' => ∃ v1, v = .tuple #[v1, .bool (numsOk names)] ∧ Ext w w' ∧ (numsOk names = true → ∃ r, v1 = .map (some r) ∧ w.heap.size ≤ r ∧ MapAt strK w' r (nameM names 0 []))) := by
  have hn : names.length = n := by have := h.len; rw [strsV_length] at this; omega
  have hn9 : n ≤ 9223372036854775807 := by have := h.le; have := h.cap; simp only [maxLen] at this; omega
  refine fn_of_exec (c := { c68 with cuts := [] }) gx_ok Tryz.func68 rfl rfl rfl ?_
  refine at_makeMap gx_ok strK rfl ?_
  intro w1 hE1 hz1 hm1
  refine loop gx_ok [10] (fun s : Nat => [.int .i64 s]) (fun s w' => Ext w w' ∧ s ≤ n ∧ (names.take s).all nameOk = true ∧ MapAt strK w' w.heap.size (nameM (names.take s) 0 [])) (fun s _ => n - s) 0 rfl ⟨hE1, Nat.zero_le _, rfl, hm1⟩ ?_
  rintro s w3 ⟨hE3, hsn, hall, hm3⟩
  refine wif_d (fun h3 => ?_) (fun h3 => ?_)
  · have hgs : names[s]? = some names[s] := List.getElem?_eq_getElem (by omega)
    generalize names[s] = t at hgs
    obtain ⟨ht8, htl⟩ := hb t (List.mem_of_getElem? hgs)
    refine index_sl (h.ext hE3) (by omega) (fun ad u hA hu hcell => ?_)
    rw [strsV_get hgs] at hu
    cases hu
    refine load hcell ?_
    have hE3' := hE3
    have bad : nameOk t ≠ true → ∀ w', Ext w w' → ∃ v1, (.tuple #[.map none, .bool false] : Value) = .tuple #[v1, .bool (numsOk names)] ∧ Ext w w' ∧ (numsOk names = true → ∃ r, v1 = .map (some r) ∧ w.heap.size ≤ r ∧ MapAt strK w' r (nameM names 0 [])) := fun hb w' hE => by
      refine ⟨.map none, ?_, hE, fun h => ?_⟩
      · rw [not_all hgs hb]
      · rw [not_all hgs hb] at h; cases h
    have e0 : ((strOf t = (⟨#[]⟩ : ByteArray)) ↔ t = []) := ⟨fun h => strOf_inj ht8 (by simp) h, fun h => by rw [h]; rfl⟩
    have e1 : ((strOf t = (⟨#[116, 114, 117, 101]⟩ : ByteArray)) ↔ t = trueL) := ⟨fun h => strOf_inj ht8 (by decide) h, fun h => by rw [h]; rfl⟩
    have e2 : ((strOf t = (⟨#[102, 97, 108, 115, 101]⟩ : ByteArray)) ↔ t = falseL) := ⟨fun h => strOf_inj ht8 (by decide) h, fun h => by rw [h]; rfl⟩
    by_cases h4 : t = []
    · refine wif_dt (e0.2 h4) ?_
      exact bad (by unfold nameOk; simp [h4]) _ hE3
    refine wif_df (fun h => h4 (e0.1 h)) ?_
    refine call (identifier_fn t w3 ht8 htl) ?_
    rintro v w4 ⟨rfl, hE4⟩
    have hs4 : ((strOf t).size : Int) = (t.length : Nat) := by rw [strOf_size]
    by_cases h5 : ¬ idLen t = t.length
    · refine wif_net (fun h => h5 (by omega)) ?_
      exact bad (by unfold nameOk; simp [h5]) _ (hE3.trans hE4)
    replace h5 := Decidable.not_not.1 h5
    refine wif_nef (by omega) ?_
    by_cases h6 : t = trueL
    · refine wif_dt (e1.2 h6) ?_
      exact bad (by unfold nameOk; simp [h6]) _ (hE3.trans hE4)
    refine wif_df (fun h => h6 (e1.1 h)) ?_
    by_cases h7 : t = falseL
    · refine wif_dt (e2.2 h7) ?_
      exact bad (by unfold nameOk; simp [h7]) _ (hE3.trans hE4)
    refine wif_df (fun h => h7 (e2.1 h)) ?_
    have hok : nameOk t = true := by unfold nameOk; simp [h4, h5, h6, h7]
    refine at_mapUpdate (kv := strK) (a := strOf t) gx_ok rfl rfl rfl rfl rfl KeyV.str rfl rfl rfl (hm3.ext hE4) (fun w5 hg5 _ hm5 => ?_)
    refine norm_i64_to ((s + 1 : Nat) : Int) (by omega) (by omega) ?_
    refine ⟨s + 1, rfl, ⟨(hE3.trans hE4).own hg5 (Nat.le_refl _), by omega, all_take hall hgs hok, by rw [nameM_take hgs]; exact hm5⟩, by show n - (s + 1) < n - s; omega⟩
  · have : s = n := by omega
    subst this
    have ht : names.take s = names := List.take_of_length_le (by omega)
    rw [ht] at hall hm3
    refine at_maplen (kv := strK) gx_ok rfl rfl rfl rfl hm3 ?_
    refine wif_eq (fun h4 => ?_) (fun h4 => ?_)
    · refine ⟨.map (some w.heap.size), ?_, hE3, fun _ => ⟨_, rfl, Nat.le_refl _, hm3⟩⟩
      have : decide ((names.length : Int) ≤ 64) = numsOk names := by unfold numsOk; exact decide_eq_decide.2 ⟨fun h => ⟨hall, by omega, by omega⟩, fun h => by omega⟩
      rw [← this, hn]
    · refine ⟨.map (some w.heap.size), ?_, hE3, fun _ => ⟨_, rfl, Nat.le_refl _, hm3⟩⟩
      have : numsOk names = false := by unfold numsOk; exact decide_eq_false (fun h => by omega)
      rw [this]
end
end
end Go.Proofs.YtedopgkbajhanaaGreatDoor

namespace Go.Proofs.YtedopgkbajhanaaGreatDoor
section
section
open Go Go.RowKit

theorem qloadN {C : World → Prop} {p : Addr} {n : Nat} {vs : List Value} {K : List Value → Prop} (hl : vs.length = n) (h : ∀ w, C w → ∀ j v, vs[j]? = some v → w.cell? (p.add j) = some v) (k : K vs) : QLoadN C p n K := by unfold QLoadN; exact ⟨vs, hl, h, k⟩

/-- Nodes in memory. -/
def fzV (f : List Fz) : List Value := f.flatMap Fz.cells
theorem fzV_snoc (f : List Fz) (x : Fz) : fzV (f ++ [x]) = fzV f ++ x.cells := by simp [fzV]

/-- The reader at r reads as p; its nodes lie at A, in memory from base on. -/
structure Rd (w : World) (base r : Nat) (A : Option Addr) (c : Nat) (mp : Value) (p : Ps) : Prop where
  blk : Blk w r 123 [mp, .string (strOf p.r), .slice A p.f.length c, .bool p.u]
  own : Own w base 205 4 A p.f.length c (fzV p.f)
  lt : r < base
  top : base ≤ w.heap.size
  b8 : ∀ x ∈ p.r, x < 256
  lim : p.f.length + p.r.length ≤ 1000000000000
theorem Rd.ext {w w' : World} {base r : Nat} {A : Option Addr} {c : Nat} {mp : Value} {p : Ps} (h : Rd w base r A c mp p) (k : Ext w w') : Rd w' base r A c mp p :=
  ⟨h.blk.ext k, h.own.ext k, h.lt, Nat.le_trans h.top k.size, h.b8, h.lim⟩
/-- What the parser writes. -/
def RdS (r : Nat) (A : Option Addr) : Nat → Prop := fun k => k = r ∨ rowS A k
/-- The reader moved on. -/
def RdTo (w : World) (base r : Nat) (A : Option Addr) (mp : Value) (p : Ps) (w' : World) : Prop := ∃ A' c', Rd w' base r A' c' mp p ∧ Mod (RdS r A) w w' ∧ Moved w A A'
theorem RdTo.step {w w1 w2 : World} {base r : Nat} {A A1 : Option Addr} {mp : Value} {p : Ps} (h : RdTo w1 base r A1 mp p w2) (hm : Mod (RdS r A) w w1) (hv : Moved w A A1) : RdTo w base r A mp p w2 := by
  obtain ⟨A2, c2, h2, hm2, hv2⟩ := h
  refine ⟨A2, c2, h2, hm.trans hm2 (fun i hi => ?_), hv.trans hv2 hm.size⟩
  rcases hi with rfl | hi
  · exact .inl (.inl rfl)
  · rcases hv.rows i hi with h | h
    · exact .inl (.inr h)
    · exact .inr h
theorem Rd.nrow {w : World} {base r : Nat} {A : Option Addr} {c : Nat} {mp : Value} {p : Ps} (h : Rd w base r A c mp p) : ¬ rowS A r := fun hr => by
  have := (h.own.rows r hr).1
  have := h.lt
  omega

theorem trimB_len (l : List Nat) : (trimB l).length ≤ l.length := (List.dropWhile_suffix _).sublist.length_le
theorem trimB_b8 {l : List Nat} (h : ∀ x ∈ l, x < 256) : ∀ x ∈ trimB l, x < 256 := fun x hx => h x ((List.dropWhile_suffix _).subset hx)
theorem skipP_eq (sym : List Nat) (p : Ps) : skipP sym p = (sym.isPrefixOf (trimB p.r), { p with r := if sym.isPrefixOf (trimB p.r) then (trimB p.r).drop sym.length else trimB p.r }) := by
  unfold skipP; cases sym.isPrefixOf (trimB p.r) <;> rfl

theorem skip_fn (base r : Nat) (A : Option Addr) (c : Nat) (mp : Value) (p : Ps) (sym : List Nat) (w : World) (h : Rd w base r A c mp p) (hs : ∀ x ∈ sym, x < 256) :
    Fn Tryz.prog 71 [.pointer (some ⟨r, 0, none⟩), .string (strOf sym)] w (fun v w' => v = .bool (skipP sym p).1 ∧ Rd w' base r A c mp (skipP sym p).2 ∧ Mod (· = r) w w') := by
  have hl := h.lim
  have htl := trimB_len p.r
  have ht8 := trimB_b8 h.b8
  refine fn_of_exec (c := c71) gx_ok Tryz.func71 rfl rfl rfl ?_
  refine load_blk h.blk rfl ?_
  refine call (trimleft_fn p.r w h.b8 (by omega)) ?_
  rintro v w1 ⟨rfl, hE1⟩
  refine store_mod (h.blk.ext hE1) (by simp) (fun w2 hm2 hB2 => ?_)
  refine load_blk hB2 rfl ?_
  refine call (cutprefix_fn (trimB p.r) sym w2 ht8 hs) ?_
  rintro v w3 ⟨rfl, rfl⟩
  have hM : ∀ w3, Mod (· = r) w2 w3 → Mod (· = r) w w3 := fun w3 hm3 => ((Mod.of_ext (· = r) hE1).trans hm2 (fun i hi => .inl hi)).trans hm3 (fun i hi => .inl hi)
  rw [skipP_eq]
  unfold cutV
  cases hp : sym.isPrefixOf (trimB p.r) with
  | true =>
    refine store_mod hB2 (by simp) (fun w3 hm3 hB3 => ?_)
    have hmm := hM w3 hm3
    have hlen : ((trimB p.r).drop sym.length).length ≤ p.r.length := by rw [List.length_drop]; omega
    exact ⟨rfl, ⟨hB3, h.own.mod hmm (fun i hi e => by subst e; exact h.nrow hi), h.lt, Nat.le_trans h.top hmm.size, fun x hx => ht8 x (List.mem_of_mem_drop hx), by show p.f.length + ((trimB p.r).drop sym.length).length ≤ _; omega⟩, hmm⟩
  | false =>
    refine store_mod hB2 (by simp) (fun w3 hm3 hB3 => ?_)
    have hmm := hM w3 hm3
    exact ⟨rfl, ⟨hB3, h.own.mod hmm (fun i hi e => by subst e; exact h.nrow hi), h.lt, Nat.le_trans h.top hmm.size, ht8, by show p.f.length + (trimB p.r).length ≤ _; omega⟩, hmm⟩

theorem put_fn (base r : Nat) (A : Option Addr) (c : Nat) (mp : Value) (p : Ps) (x : Fz) (w : World) (h : Rd w base r A c mp p) (hl : p.f.length + p.r.length + 1 ≤ 1000000000000) :
    Fn Tryz.prog 139 [.pointer (some ⟨r, 0, none⟩), .agg x.cells.toArray] w (fun v w' => v = .int .i64 (p.f.length : Nat) ∧ RdTo w base r A mp (putP x p).2 w') := by
  refine fn_of_exec (c := c139) gx_ok Tryz.func139 rfl rfl rfl ?_
  refine new (fun w1 hE1 hz1 hB1 => ?_)
  have h1 := h.ext hE1
  have hrows := h.own.rows
  have hC0 : Mod (rowS A) w1 w1.drew := Mod.of_ext _ (Ext.drew w1)
  refine draw_plan gx_ok (Mod (rowS A) w1) 8 [(true, 0), (true, 1), (true, 2), (true, 3), (true, 4), (true, 5), (false, 6), (false, 7)] (by kernel_rfl) hC0 ?_
  refine qload (v := .slice A p.f.length c) (fun w' hw' => by rw [(h1.blk.mod hw' h.nrow).cell]; rfl) ?_
  have hn1 : ¬ rowS A w.heap.size := fun hr => by have := (hrows _ hr).2; omega
  refine qloadN (vs := x.cells) rfl (fun w' hw' j v hj => by rw [(hB1.mod hw' hn1).cell]; exact hj) ?_
  refine at_buildN gx_ok [x.cells] rfl rfl rfl rfl rfl ⟨rfl, rfl, ⟨⟩⟩ rfl (fun cs h => by simp only [List.mem_singleton] at h; subst h; rfl) rfl (by decide) (by decide) ?_
  intro w2 hE2 hz2 hB2
  have hE12 := (Ext.drew w1).trans hE2
  have h2 := h1.ext hE12
  refine ⟨Mod.of_ext _ hE12, ?_⟩
  have hs2 : Sl w2 4 (some ⟨w1.drew.heap.size, 0, none⟩) 1 1 x.cells := Sl.own (sz := 4) (n := 1) hB2 (Nat.le_refl _) (by decide) (by simp [Fz.cells])
  refine at_app gx_ok rfl rfl rfl rfl rfl (by decide) rfl rfl ⟨_, rfl⟩ rfl rfl h2.own hs2 (by intro u hu; simp [Fz.cells] at hu; rcases hu with rfl | rfl | rfl | rfl <;> rfl) (by unfold maxLen; omega) (by show _ * 32 ≤ _; omega) h2.top ?_
  intro A' c' w3 hm3 hown3 hmv3
  have hM13 : Mod (rowS A) w1 w3 := (Mod.of_ext (rowS A) hE12).trans hm3 (fun i hi => .inl hi)
  refine ⟨hM13, ?_⟩
  have hB3 := h1.blk.mod hM13 h.nrow
  refine store_mod hB3 (by simp) (fun w4 hm4 hB4 => ?_)
  refine load_blk hB4 rfl ?_
  have hz := hE12.size
  have hrows3 : ∀ k, rowS A' k → base ≤ k := fun k hk => (hown3.rows k hk).1
  have hM4 : Mod (RdS r A) w w4 := ((Mod.of_ext (RdS r A) hE1).trans hM13 (fun i hi => .inl (.inr hi))).trans hm4 (fun i hi => .inl (.inl hi))
  refine norm_i64_to ((p.f.length : Nat) : Int) (by omega) (by omega) ?_
  refine ⟨rfl, A', c', ⟨?_, ?_, h.lt, Nat.le_trans h.top hM4.size, h.b8, ?_⟩, hM4, hmv3.back (Nat.le_trans hE1.size hz)⟩
  · have e : (putP x p).2.f.length = p.f.length + 1 := by simp [putP]
    rw [e]; exact hB4
  · have e : (putP x p).2.f.length = p.f.length + 1 := by simp [putP]
    rw [e, show fzV (putP x p).2.f = fzV p.f ++ x.cells from fzV_snoc _ _]
    exact hown3.mod hm4 (fun k hk e => by have := hrows3 k hk; have := h.lt; omega)
  · have e : (putP x p).2.f.length = p.f.length + 1 := by simp [putP]
    rw [e]; show p.f.length + 1 + p.r.length ≤ _; omega
end

section
open Go Go.RowKit

theorem at_panic {c : Cx} {o : Oper} {S : Env} {w : World} {K : Env → World → Prop} {Q : Post} {t : Nat} {v : Value} {x : Operand} (ho : o.op = .panic x) (hx : S.ev x = some (.iface t v))
    (k : Q (.panic [{ v := .iface t v, recovered := false }]) S w) : AtOp c o S w K Q := by
  unfold AtOp
  intro a hf
  have e1 := hf.ev hx
  unfold Oper.wp
  have : (execOp a.eval o).run c.g.P w = .halt (.panic (.iface t v)) w := by
    simp only [execOp, ho, e1]
    simp [Instr.panic, goPanic]
  rw [this]
  exact ⟨S, hf, k⟩

/-- What a wrong expression ends with. -/
def synPan : List PanicEntry := [{ v := .iface 30 (.int .i64 31), recovered := false }]
def PanTo (w : World) (r : Nat) (A : Option Addr) (ch : List PanicEntry) (w' : World) : Prop := ch = synPan ∧ Mod (RdS r A) w w'
theorem RdS.trans {w w1 w2 : World} {r : Nat} {A A1 : Option Addr} (hm : Mod (RdS r A) w w1) (hv : Moved w A A1) (h : Mod (RdS r A1) w1 w2) : Mod (RdS r A) w w2 :=
  hm.trans h (fun i hi => by
    rcases hi with rfl | hi
    · exact .inl (.inl rfl)
    · rcases hv.rows i hi with h | h
      · exact .inl (.inr h)
      · exact .inr h)
theorem PanTo.step {w w1 w2 : World} {r : Nat} {A A1 : Option Addr} {ch : List PanicEntry} (h : PanTo w1 r A1 ch w2) (hm : Mod (RdS r A) w w1) (hv : Moved w A A1) : PanTo w r A ch w2 := ⟨h.1, RdS.trans hm hv h.2⟩

/-- An operand takes something, and makes no more nodes than it takes bytes. -/
def Lim (opd : Ps → Option (Nat × Ps)) : Prop := ∀ p a p', opd p = some (a, p') → p'.f.length + p'.r.length ≤ p.f.length + p.r.length ∧ p'.r.length < p.r.length

theorem skip_len (sym : List Nat) (p p1 : Ps) (b : Bool) (h : skipP sym p = (b, p1)) : p1.f = p.f ∧ p1.u = p.u ∧ p1.r.length ≤ p.r.length ∧ (b = true → p1.r.length + sym.length ≤ p.r.length) := by
  rw [skipP_eq] at h
  have ht := trimB_len p.r
  cases h
  refine ⟨rfl, rfl, ?_, fun hb => ?_⟩
  · show List.length (if _ then _ else _) ≤ _
    split
    · rw [List.length_drop]; omega
    · exact ht
  · show List.length (if _ then _ else _) + _ ≤ _
    rw [if_pos hb, List.length_drop]
    have := (List.isPrefixOf_iff_prefix.1 hb).length_le
    omega

theorem loopP_lim {sym : List Nat} {op : Int} {opd : Ps → Option (Nat × Ps)} (hs : 0 < sym.length) (hl : Lim opd) : ∀ (m a : Nat) (p : Ps) (b : Nat) (p' : Ps), loopP sym op opd m a p = some (b, p') → p'.f.length + p'.r.length ≤ p.f.length + p.r.length ∧ p'.r.length ≤ p.r.length
  | 0, a, p, b, p', h => by cases h
  | m + 1, a, p, b, p', h => by
    unfold loopP at h
    cases hk : skipP sym p with
    | mk t p1 =>
      obtain ⟨h1, h2, h3, h4⟩ := skip_len sym p p1 t hk
      rw [hk] at h
      cases t with
      | false => cases h; rw [h1]; omega
      | true =>
        simp only at h
        cases ho : opd p1 with
        | none => rw [ho] at h; cases h
        | some q =>
          obtain ⟨d, p2⟩ := q
          rw [ho] at h
          simp only at h
          obtain ⟨h5, h6⟩ := hl p1 d p2 ho
          have := loopP_lim hs hl m _ _ b p' h
          simp only [List.length_append, List.length_cons, List.length_nil] at this
          have := h4 rfl
          rw [h1] at h5
          omega
theorem chainP_lim {sym : List Nat} {op : Int} {opd : Ps → Option (Nat × Ps)} (hs : 0 < sym.length) (hl : Lim opd) : Lim (chainP sym op opd) := by
  intro p b p' h
  unfold chainP at h
  cases ho : opd p with
  | none => rw [ho] at h; cases h
  | some q =>
    obtain ⟨a, p1⟩ := q
    rw [ho] at h
    simp only at h
    have h1 := hl p a p1 ho
    have h2 := loopP_lim hs hl _ _ _ b p' h
    omega

/-- What an operand does. -/
structure OpdC (L base r : Nat) (mp : Value) (fid : Nat) (args : List Value) (G : World → Option Addr → Prop) (opd : Ps → Option (Nat × Ps)) : Prop where
  run : ∀ w A c p, Rd w base r A c mp p → G w A → p.r.length < L → FnP Tryz.prog fid args w (fun v w' => ∃ (a : Nat) (p' : Ps), opd p = some (a, p') ∧ v = .int .i64 (a : Nat) ∧ RdTo w base r A mp p' w') (fun ch w' => opd p = none ∧ PanTo w r A ch w')
  stay : ∀ w w' A A', G w A → Mod (RdS r A) w w' → Moved w A A' → G w' A'
  lim : Lim opd

structure Est where
  a : Nat
  p : Ps
  A : Option Addr
  c : Nat

theorem expression_f (L base r : Nat) (A : Option Addr) (c : Nat) (mp : Value) (p : Ps) (sym : List Nat) (op : Int) (G : World → Option Addr → Prop) (opd : Ps → Option (Nat × Ps)) (w : World)
    (h : Rd w base r A c mp p) (hG : G w A) (hs : ∀ x ∈ sym, x < 256) (hs0 : 0 < sym.length) (hL : p.r.length < L) (H : OpdC L base r mp 110 [.pointer (some ⟨r, 0, none⟩)] G opd) :
    FnP Tryz.prog 108 [.pointer (some ⟨r, 0, none⟩), .string (strOf sym), .int .i64 op, .func (.func 110) #[.pointer (some ⟨r, 0, none⟩)] #[]] w
      (fun v w' => ∃ (a : Nat) (p' : Ps), chainP sym op opd p = some (a, p') ∧ v = .int .i64 (a : Nat) ∧ RdTo w base r A mp p' w') (fun ch w' => chainP sym op opd p = none ∧ PanTo w r A ch w') := by
  refine fnP_of_exec (c := { c108 with cuts := [] }) gx_ok Tryz.func108 rfl rfl rfl ?_
  refine callP (H.run w A c p h hG hL) ?_ ?_
  rotate_left
  · rintro ch w1 ⟨ho, hp⟩
    refine ⟨?_, hp⟩
    unfold chainP; rw [ho]
  rintro v w1 ⟨a, p1, ho, rfl, A1, c1, h1, hm1, hv1⟩
  obtain ⟨hl1, hl2⟩ := H.lim p a p1 ho
  have hch : chainP sym op opd p = loopP sym op opd (p1.r.length + 1) a p1 := by unfold chainP; rw [ho]
  refine loop gx_ok [9] (fun s : Est => [.int .i64 s.a]) (fun s w' => Rd w' base r s.A s.c mp s.p ∧ G w' s.A ∧ s.p.r.length < L ∧ Mod (RdS r A) w w' ∧ Moved w A s.A ∧ ∃ m, s.p.r.length < m ∧ loopP sym op opd m s.a s.p = chainP sym op opd p) (fun s _ => s.p.r.length) ⟨a, p1, A1, c1⟩ rfl ⟨h1, H.stay w w1 A A1 hG hm1 hv1, by show p1.r.length < L; omega, hm1, hv1, _, Nat.lt_succ_self _, hch.symm⟩ ?_
  rintro ⟨d, q, A2, c2⟩ w2 ⟨h2, hG2, hL2, hm2, hv2, m, hlm, hmm⟩
  simp only at h2 hG2 hL2 hm2 hv2 hlm hmm
  refine call (skip_fn base r A2 c2 mp q sym w2 h2 hs) ?_
  rintro v w3 ⟨rfl, h3, hm3⟩
  cases m with
  | zero => omega
  | succ m =>
  unfold loopP at hmm
  have hm3' : Mod (RdS r A2) w2 w3 := hm3.mono (fun i hi => .inl (.inl hi))
  have hm03 := RdS.trans hm2 hv2 hm3'
  cases hk : skipP sym q with
  | mk t q1 =>
    obtain ⟨k1, k2, k3, k4⟩ := skip_len sym q q1 t hk
    rw [hk] at h3 hmm
    simp only at h3
    cases t with
    | false =>
      refine wif_f rfl ?_
      exact ⟨d, q1, hmm.symm, rfl, A2, c2, h3, hm03, hv2⟩
    | true =>
      refine wif_t rfl ?_
      simp only at hmm
      have k5 := k4 rfl
      have hG3 := H.stay w2 w3 A2 A2 hG2 hm3' (Moved.refl _ _)
      refine callP (H.run w3 A2 c2 q1 h3 hG3 (by omega)) ?_ ?_
      rotate_left
      · rintro ch w4 ⟨ho2, hp⟩
        rw [ho2] at hmm
        exact ⟨hmm.symm, hp.step hm03 hv2⟩
      rintro v w4 ⟨b, q2, ho2, rfl, A4, c4, h4, hm4, hv4⟩
      obtain ⟨l1, l2⟩ := H.lim q1 b q2 ho2
      rw [ho2] at hmm
      simp only at hmm
      have hlq := h2.lim
      rw [k1] at l1
      have hG4 := H.stay w3 w4 A2 A4 hG3 hm4 hv4
      have hm04 := RdS.trans hm03 hv2 hm4
      have hv04 := hv2.trans hv4 hm03.size
      refine call (put_fn base r A4 c4 mp q2 ⟨op, 0, d, b⟩ w4 h4 (by omega)) ?_
      rintro v w5 ⟨rfl, A5, c5, h5, hm5, hv5⟩
      refine ⟨⟨q2.f.length, (putP ⟨op, 0, d, b⟩ q2).2, A5, c5⟩, rfl, ⟨h5, H.stay w4 w5 A4 A5 hG4 hm5 hv5, ?_, RdS.trans hm04 hv04 hm5, hv04.trans hv5 hm04.size, m, ?_, hmm⟩, ?_⟩
      · show q2.r.length < L; omega
      · show q2.r.length < m; omega
      · show q2.r.length < q.r.length; omega

theorem expression_w (L base r : Nat) (A : Option Addr) (c : Nat) (mp : Value) (p : Ps) (sym : List Nat) (op : Int) (x : Nat) (G : World → Option Addr → Prop) (opd : Ps → Option (Nat × Ps)) (w : World)
    (h : Rd w base r A c mp p) (hG : G w A) (hs : ∀ x ∈ sym, x < 256) (hs0 : 0 < sym.length) (hL : p.r.length < L) (H : OpdC L base r mp 109 [.pointer (some ⟨x, 0, none⟩)] G opd) :
    FnP Tryz.prog 108 [.pointer (some ⟨r, 0, none⟩), .string (strOf sym), .int .i64 op, .func (.func 109) #[] #[.pointer (some ⟨x, 0, none⟩)]] w
      (fun v w' => ∃ (a : Nat) (p' : Ps), chainP sym op opd p = some (a, p') ∧ v = .int .i64 (a : Nat) ∧ RdTo w base r A mp p' w') (fun ch w' => chainP sym op opd p = none ∧ PanTo w r A ch w') := by
  refine fnP_of_exec (c := { c108 with cuts := [] }) gx_ok Tryz.func108 rfl rfl rfl ?_
  refine callP (H.run w A c p h hG hL) ?_ ?_
  rotate_left
  · rintro ch w1 ⟨ho, hp⟩
    refine ⟨?_, hp⟩
    unfold chainP; rw [ho]
  rintro v w1 ⟨a, p1, ho, rfl, A1, c1, h1, hm1, hv1⟩
  obtain ⟨hl1, hl2⟩ := H.lim p a p1 ho
  have hch : chainP sym op opd p = loopP sym op opd (p1.r.length + 1) a p1 := by unfold chainP; rw [ho]
  refine loop gx_ok [9] (fun s : Est => [.int .i64 s.a]) (fun s w' => Rd w' base r s.A s.c mp s.p ∧ G w' s.A ∧ s.p.r.length < L ∧ Mod (RdS r A) w w' ∧ Moved w A s.A ∧ ∃ m, s.p.r.length < m ∧ loopP sym op opd m s.a s.p = chainP sym op opd p) (fun s _ => s.p.r.length) ⟨a, p1, A1, c1⟩ rfl ⟨h1, H.stay w w1 A A1 hG hm1 hv1, by show p1.r.length < L; omega, hm1, hv1, _, Nat.lt_succ_self _, hch.symm⟩ ?_
  rintro ⟨d, q, A2, c2⟩ w2 ⟨h2, hG2, hL2, hm2, hv2, m, hlm, hmm⟩
  simp only at h2 hG2 hL2 hm2 hv2 hlm hmm
  refine call (skip_fn base r A2 c2 mp q sym w2 h2 hs) ?_
  rintro v w3 ⟨rfl, h3, hm3⟩
  cases m with
  | zero => omega
  | succ m =>
  unfold loopP at hmm
  have hm3' : Mod (RdS r A2) w2 w3 := hm3.mono (fun i hi => .inl (.inl hi))
  have hm03 := RdS.trans hm2 hv2 hm3'
  cases hk : skipP sym q with
  | mk t q1 =>
    obtain ⟨k1, k2, k3, k4⟩ := skip_len sym q q1 t hk
    rw [hk] at h3 hmm
    simp only at h3
    cases t with
    | false =>
      refine wif_f rfl ?_
      exact ⟨d, q1, hmm.symm, rfl, A2, c2, h3, hm03, hv2⟩
    | true =>
      refine wif_t rfl ?_
      simp only at hmm
      have k5 := k4 rfl
      have hG3 := H.stay w2 w3 A2 A2 hG2 hm3' (Moved.refl _ _)
      refine callP (H.run w3 A2 c2 q1 h3 hG3 (by omega)) ?_ ?_
      rotate_left
      · rintro ch w4 ⟨ho2, hp⟩
        rw [ho2] at hmm
        exact ⟨hmm.symm, hp.step hm03 hv2⟩
      rintro v w4 ⟨b, q2, ho2, rfl, A4, c4, h4, hm4, hv4⟩
      obtain ⟨l1, l2⟩ := H.lim q1 b q2 ho2
      rw [ho2] at hmm
      simp only at hmm
      have hlq := h2.lim
      rw [k1] at l1
      have hG4 := H.stay w3 w4 A2 A4 hG3 hm4 hv4
      have hm04 := RdS.trans hm03 hv2 hm4
      have hv04 := hv2.trans hv4 hm03.size
      refine call (put_fn base r A4 c4 mp q2 ⟨op, 0, d, b⟩ w4 h4 (by omega)) ?_
      rintro v w5 ⟨rfl, A5, c5, h5, hm5, hv5⟩
      refine ⟨⟨q2.f.length, (putP ⟨op, 0, d, b⟩ q2).2, A5, c5⟩, rfl, ⟨h5, H.stay w4 w5 A4 A5 hG4 hm5 hv5, ?_, RdS.trans hm04 hv04 hm5, hv04.trans hv5 hm04.size, m, ?_, hmm⟩, ?_⟩
      · show q2.r.length < L; omega
      · show q2.r.length < m; omega
      · show q2.r.length < q.r.length; omega
end

section
open Go Go.RowKit

theorem need_to {p : Prop} {v v' : Value} {K : Value → Prop} (hp : p) (h : v = v') (k : K v') : Need p v K := by unfold Need; exact ⟨hp, by rw [h]; exact k⟩
theorem MapAt.mod {α : Type} {kv : α → Value} {S : Nat → Prop} {w w' : World} {r : Nat} {m : List (α × Value)} (h : MapAt kv w r m) (k : Mod S w w') (hn : ¬ S r) : MapAt kv w' r m := by
  obtain ⟨bs, ck, hl, hb⟩ := h.ex
  exact ⟨bs, ck, hl, (k.block r (Array.getElem?_eq_some_iff.1 hb).1 hn).trans hb⟩
theorem at_lookup_ok' {α : Type} [DecidableEq α] {kv : α → Value} {c : Cx} {o : Oper} {S : Env} {w : World} {K : Env → World → Prop} {Q : Post} {t ke e : Nat} {r rk re : TyRow} {x y : Operand} {q : Nat} {m : List (α × Value)} {a : α} {v : Value} {b : Bool} (hg : c.g.Ok)
    (ho : o.op = .lookup t x y true) (hr : rowOf c.g.tys t = some r) (hd : r.d = .map ke e) (hrk : rowOf c.g.tys ke = some rk) (hre : rowOf c.g.tys e = some re) (hk : KeyV rk.d kv)
    (hx : S.ev x = some (.map (some q))) (hy : S.ev y = some (kv a)) (hm : MapAt kv w q m) (hv : (assoc a m).getD re.z = v) (hb : (assoc a m).isSome = b) (k : putK c S o.dst (.v (.tuple #[v, .bool b])) (fun S => K S w)) : AtOp c o S w K Q := by
  subst hv; subst hb
  exact at_lookup_ok hg ho hr hd hrk hre hk hx hy hm k

section
variable (ix : List Nat → Option Nat) (n : Nat)
theorem facP_not {p p1 : Ps} (h : skipP [33] p = (true, p1)) : facP ix (n + 1) p = match facP ix n p1 with
    | none => none
    | some (a, p2) => some (putP ⟨3, 0, a, 0⟩ p2) := by rw [facP, h] <;> rfl
theorem facP_par {p p1 p2 : Ps} (h : skipP [33] p = (false, p1)) (h2 : skipP [40] p1 = (true, p2)) : facP ix (n + 1) p = match wholeP ix n p2 with
    | none => none
    | some (a, p3) => match skipP [41] p3 with
      | (true, p4) => some (a, p4)
      | (false, _) => none := by rw [facP, h]; simp only; rw [h2]; rfl
theorem facP_id {p p1 p2 : Ps} (h : skipP [33] p = (false, p1)) (h2 : skipP [40] p1 = (false, p2)) : facP ix (n + 1) p = if idLen p2.r = 0 then none else
      if p2.r.take (idLen p2.r) = trueL then some (putP ⟨1, 0, 0, 0⟩ { p2 with r := p2.r.drop (idLen p2.r) }) else if p2.r.take (idLen p2.r) = falseL then some (putP ⟨0, 0, 0, 0⟩ { p2 with r := p2.r.drop (idLen p2.r) }) else
        some (putP ⟨2, ((ix (p2.r.take (idLen p2.r))).getD 0 : Nat), 0, 0⟩ { p2 with r := p2.r.drop (idLen p2.r), u := p2.u || (ix (p2.r.take (idLen p2.r))).isNone }) := by
  rw [facP, h]; simp only; rw [h2]; rfl
end

theorem facP_lim (ix : List Nat → Option Nat) : ∀ n, Lim (facP ix n)
  | 0 => fun p a p' h => by cases h
  | n + 1 => fun p a p' h => by
    have ih := facP_lim ix n
    cases hk : skipP [33] p with
    | mk t p1 =>
      obtain ⟨k1, _, k3, k4⟩ := skip_len _ p p1 t hk
      cases t with
      | true =>
        rw [facP_not ix n hk] at h
        cases ho : facP ix n p1 with
        | none => rw [ho] at h; cases h
        | some q =>
          obtain ⟨d, p2⟩ := q
          rw [ho] at h
          cases h
          have := ih p1 d p2 ho
          have := k4 rfl
          rw [k1] at *
          simp only [List.length_append, List.length_cons, List.length_nil] at *
          omega
      | false =>
        cases hk2 : skipP [40] p1 with
        | mk t2 p2 =>
          obtain ⟨j1, _, j3, j4⟩ := skip_len _ p1 p2 t2 hk2
          cases t2 with
          | true =>
            rw [facP_par ix n hk hk2] at h
            cases ho : wholeP ix n p2 with
            | none => rw [ho] at h; cases h
            | some q =>
              obtain ⟨d, p3⟩ := q
              rw [ho] at h
              simp only at h
              have hw : Lim (wholeP ix n) := chainP_lim (by decide) (chainP_lim (by decide) ih)
              have := hw p2 d p3 ho
              cases hk3 : skipP [41] p3 with
              | mk t3 p4 =>
                obtain ⟨i1, _, i3, i4⟩ := skip_len _ p3 p4 t3 hk3
                rw [hk3] at h
                cases t3 with
                | false => cases h
                | true =>
                  cases h
                  have := j4 rfl
                  have := i4 rfl
                  rw [i1]
                  rw [j1, k1] at *
                  omega
          | false =>
            rw [facP_id ix n hk hk2] at h
            split at h
            · cases h
            rename_i hn
            have hle := idLen_le p2.r
            have key : (p2.r.drop (idLen p2.r)).length + 1 ≤ p2.r.length := by rw [List.length_drop]; omega
            rw [j1, k1] at *
            split at h
            · cases h; simp only [List.length_append, List.length_cons, List.length_nil]; rw [j1, k1]; omega
            split at h
            · cases h; simp only [List.length_append, List.length_cons, List.length_nil]; rw [j1, k1]; omega
            · cases h; simp only [List.length_append, List.length_cons, List.length_nil]; rw [j1, k1]; omega

/-- The names' map lies at q, apart from what the parser writes. -/
def GM (r q : Nat) (m : List (ByteArray × Value)) (w : World) (A : Option Addr) : Prop := MapAt strK w q m ∧ q ≠ r ∧ ¬ rowS A q
theorem GM.stay {r q : Nat} {m : List (ByteArray × Value)} {w w' : World} {A A' : Option Addr} (h : GM r q m w A) (hm : Mod (RdS r A) w w') (hv : Moved w A A') : GM r q m w' A' :=
  ⟨h.1.mod hm (fun e => e.elim h.2.1 h.2.2), h.2.1, fun hr => (hv.rows q hr).elim h.2.2 (fun hle => by have := h.1.lt; omega)⟩
/-- And the box that holds the reader. -/
def GB (r q x : Nat) (m : List (ByteArray × Value)) (w : World) (A : Option Addr) : Prop := GM r q m w A ∧ Blk w x 121 [.pointer (some ⟨r, 0, none⟩)] ∧ x ≠ r ∧ ¬ rowS A x
theorem GB.stay {r q x : Nat} {m : List (ByteArray × Value)} {w w' : World} {A A' : Option Addr} (h : GB r q x m w A) (hm : Mod (RdS r A) w w') (hv : Moved w A A') : GB r q x m w' A' :=
  ⟨h.1.stay hm hv, h.2.1.mod hm (fun e => e.elim h.2.2.1 h.2.2.2), h.2.2.1, fun hr => (hv.rows x hr).elim h.2.2.2 (fun hle => by have := h.2.1.lt; omega)⟩

theorem conj_opd {L base r q x : Nat} {m : List (ByteArray × Value)} {mp : Value} {opd : Ps → Option (Nat × Ps)} (H : OpdC L base r mp 110 [.pointer (some ⟨r, 0, none⟩)] (GM r q m) opd) :
    OpdC L base r mp 109 [.pointer (some ⟨x, 0, none⟩)] (GB r q x m) (chainP [38, 38] 4 opd) := by
  refine ⟨fun w A c p h hG hL => ?_, fun w w' A A' h hm hv => h.stay hm hv, chainP_lim (by decide) H.lim⟩
  refine fnP_of_exec (c := { c109 with cuts := [] }) gx_ok Tryz.func109 rfl rfl rfl ?_
  refine load_blk0 hG.2.1 rfl ?_
  refine load_blk0 hG.2.1 rfl ?_
  refine callP (expression_f L base r A c mp p [38, 38] 4 (GM r q m) opd w h hG.1 (by decide) (by decide) hL H) ?_ ?_
  · rintro v w1 ⟨a, p', h1, rfl, h2⟩
    exact ⟨a, p', h1, rfl, h2⟩
  · rintro ch w1 h1
    exact h1

theorem whole_fn (L base r : Nat) (A : Option Addr) (c : Nat) (p : Ps) (q : Nat) (m : List (ByteArray × Value)) (mp : Value) (opd : Ps → Option (Nat × Ps)) (w : World) (h : Rd w base r A c mp p) (hG : GM r q m w A) (hL : p.r.length < L)
    (H : OpdC L base r mp 110 [.pointer (some ⟨r, 0, none⟩)] (GM r q m) opd) :
    FnP Tryz.prog 70 [.pointer (some ⟨r, 0, none⟩)] w (fun v w' => ∃ (a : Nat) (p' : Ps), chainP [124, 124] 5 (chainP [38, 38] 4 opd) p = some (a, p') ∧ v = .int .i64 (a : Nat) ∧ RdTo w base r A mp p' w') (fun ch w' => chainP [124, 124] 5 (chainP [38, 38] 4 opd) p = none ∧ PanTo w r A ch w') := by
  refine fnP_of_exec (c := { c70 with cuts := [] }) gx_ok Tryz.func70 rfl rfl rfl ?_
  refine new (fun w1 hE1 hz1 hB1 => ?_)
  refine load_blk0 hB1 rfl ?_
  have hlt := h.lt
  have htop := h.top
  have hM1 : Mod (RdS r A) w w1 := Mod.of_ext _ hE1
  have hn : ¬ rowS A w.heap.size := fun hr => by have := (h.own.rows _ hr).2; omega
  refine callP (expression_w L base r A c mp p [124, 124] 5 w.heap.size (GB r q w.heap.size m) (chainP [38, 38] 4 opd) w1 (h.ext hE1) ⟨hG.stay hM1 (Moved.refl _ _), hB1, by omega, hn⟩ (by decide) (by decide) hL (conj_opd H)) ?_ ?_
  · rintro v w2 ⟨a, p', h1, rfl, h2⟩
    exact ⟨a, p', h1, rfl, h2.step hM1 (Moved.refl _ _)⟩
  · rintro ch w2 ⟨h1, h2⟩
    exact ⟨h1, h2.step hM1 (Moved.refl _ _)⟩
end

section
open Go Go.RowKit

/-- The map tells the conditions' numbers. -/
def IxOk (ix : List Nat → Option Nat) (m : List (ByteArray × Value)) : Prop := ∀ l : List Nat, (∀ x ∈ l, x < 256) → assoc (strOf l) m = (ix l).map (fun v : Nat => Value.int .i64 v)

theorem factor_opd (ix : List Nat → Option Nat) (base r q : Nat) (m : List (ByteArray × Value)) (hix : IxOk ix m) : ∀ n, OpdC n base r (.map (some q)) 110 [.pointer (some ⟨r, 0, none⟩)] (GM r q m) (facP ix n)
  | 0 => ⟨fun w A c p _ _ h => absurd h (by omega), fun w w' A A' h hm hv => h.stay hm hv, facP_lim ix 0⟩
  | n + 1 => by
    have ih := factor_opd ix base r q m hix n
    refine ⟨fun w A c p h hG hL => ?_, fun w w' A A' h hm hv => h.stay hm hv, facP_lim ix (n + 1)⟩
    refine fnP_of_exec (c := { c110 with cuts := [] }) gx_ok Tryz.func110 rfl rfl rfl ?_
    refine call (skip_fn base r A c _ p [33] w h (by decide)) ?_
    rintro v w1 ⟨rfl, h1, hm1⟩
    have hm1' : Mod (RdS r A) w w1 := hm1.mono (fun i hi => .inl (.inl hi))
    have hG1 := hG.stay hm1' (Moved.refl _ _)
    cases hk : skipP [33] p with
    | mk t p1 =>
      obtain ⟨k1, _, k3, k4⟩ := skip_len _ p p1 t hk
      rw [hk] at h1
      simp only at h1
      cases t with
      | true =>
        refine wif_t rfl ?_
        have hl := k4 rfl
        simp only [List.length_cons, List.length_nil] at hl
        have hfac := facP_not ix n hk
        refine callP (ih.run w1 A c p1 h1 hG1 (by omega)) ?_ ?_
        rotate_left
        · rintro ch w2 ⟨ho, hp⟩
          rw [ho] at hfac
          exact ⟨hfac, hp.step hm1' (Moved.refl _ _)⟩
        rintro v w2 ⟨a, p2, ho, rfl, A2, c2, h2, hm2, hv2⟩
        rw [ho] at hfac
        have hl2 := (ih.lim p1 a p2 ho).1
        have hl0 := h.lim
        rw [k1] at hl2
        refine call (put_fn base r A2 c2 _ p2 ⟨3, 0, a, 0⟩ w2 h2 (by omega)) ?_
        rintro v w3 ⟨rfl, h3⟩
        exact ⟨p2.f.length, _, hfac, rfl, (h3.step hm2 hv2).step hm1' (Moved.refl _ _)⟩
      | false =>
        refine wif_f rfl ?_
        refine call (skip_fn base r A c _ p1 [40] w1 h1 (by decide)) ?_
        rintro v w2 ⟨rfl, h2, hm2⟩
        have hm2' : Mod (RdS r A) w1 w2 := hm2.mono (fun i hi => .inl (.inl hi))
        have hm02 := RdS.trans hm1' (Moved.refl _ _) hm2'
        have hG2 := hG1.stay hm2' (Moved.refl _ _)
        cases hk2 : skipP [40] p1 with
        | mk t2 p2 =>
          obtain ⟨j1, _, j3, j4⟩ := skip_len _ p1 p2 t2 hk2
          rw [hk2] at h2
          simp only at h2
          cases t2 with
          | true =>
            refine wif_t rfl ?_
            have hl := j4 rfl
            simp only [List.length_cons, List.length_nil] at hl
            have hfac := facP_par ix n hk hk2
            refine callP (whole_fn n base r A c p2 q m _ (facP ix n) w2 h2 hG2 (by omega) ih) ?_ ?_
            rotate_left
            · rintro ch w3 ⟨ho, hp⟩
              rw [show wholeP ix n p2 = none from ho] at hfac
              exact ⟨hfac, hp.step hm02 (Moved.refl _ _)⟩
            rintro v w3 ⟨a, p3, ho, rfl, A3, c3, h3, hm3, hv3⟩
            rw [show wholeP ix n p2 = some (a, p3) from ho] at hfac
            have hm03 := RdS.trans hm02 (Moved.refl _ _) hm3
            have hv03 := hv3.back hm02.size
            simp only at hfac
            refine call (skip_fn base r A3 c3 _ p3 [41] w3 h3 (by decide)) ?_
            rintro v w4 ⟨rfl, h4, hm4⟩
            have hm4' : Mod (RdS r A3) w3 w4 := hm4.mono (fun i hi => .inl (.inl hi))
            have hm04 := RdS.trans hm03 hv03 hm4'
            cases hk3 : skipP [41] p3 with
            | mk t3 p4 =>
              rw [hk3] at h4 hfac
              simp only at h4
              cases t3 with
              | true =>
                refine wif_f rfl ?_
                exact ⟨a, p4, hfac, rfl, A3, c3, h4, hm04, hv03⟩
              | false =>
                refine wif_t rfl ?_
                exact at_panic rfl rfl ⟨hfac, rfl, hm04⟩
          | false =>
            refine wif_f rfl ?_
            have hfac := facP_id ix n hk hk2
            have hlp := h2.lim
            have h8 := h2.b8
            have hM : ∀ w', Ext w2 w' → Mod (RdS r A) w w' := fun w' hE => RdS.trans hm02 (Moved.refl _ _) (Mod.of_ext _ hE)
            refine load_blk h2.blk rfl ?_
            refine call (identifier_fn p2.r w2 h8 (by omega)) ?_
            rintro v w3 ⟨rfl, hE3⟩
            have h3 := h2.ext hE3
            have hG3 := hG2.stay (Mod.of_ext _ hE3) (Moved.refl _ _)
            have hm03 := hM w3 hE3
            have hle := idLen_le p2.r
            by_cases hn : idLen p2.r = 0
            · refine wif_eqt (by omega) ?_
              rw [if_pos hn] at hfac
              exact at_panic rfl rfl ⟨hfac, rfl, hm03⟩
            refine wif_eqf (by omega) ?_
            rw [if_neg hn] at hfac
            generalize hd : idLen p2.r = d at *
            refine load_blk h3.blk rfl ?_
            refine need_to (v' := .string (strOf (p2.r.take d))) ⟨by omega, by omega, by rw [strOf_size]; omega⟩ ?_ ?_
            · simp only [Int.toNat_natCast, Int.toNat_zero, strOf_extract, List.drop_zero]
            refine load_blk h3.blk rfl ?_
            refine need_to (v' := .string (strOf (p2.r.drop d))) ⟨by omega, by rw [strOf_size]; omega, by omega⟩ ?_ ?_
            · simp only [Int.toNat_natCast, strOf_extract, strOf_size, List.take_length]
            refine store_mod h3.blk (by simp) (fun w4 hm4 hB4 => ?_)
            have hm4' : Mod (RdS r A) w3 w4 := hm4.mono (fun i hi => .inl (.inl hi))
            have hm04 := RdS.trans hm03 (Moved.refl _ _) hm4'
            have hG4 := hG3.stay hm4' (Moved.refl _ _)
            have hdl : (p2.r.drop d).length + d = p2.r.length := by rw [List.length_drop]; omega
            have h4 : Rd w4 base r A c (.map (some q)) { p2 with r := p2.r.drop d } := ⟨hB4, h3.own.mod hm4 (fun i hi e => by subst e; exact h3.nrow hi), h3.lt, Nat.le_trans h3.top hm4.size, B8.drop h8 d, by show p2.f.length + (p2.r.drop d).length ≤ _; omega⟩
            have hw8 := B8.take h8 d
            generalize hwd : p2.r.take d = word at *
            have e1 : ((strOf word = (⟨#[116, 114, 117, 101]⟩ : ByteArray)) ↔ word = trueL) := ⟨fun h => strOf_inj hw8 (by decide) h, fun h => by rw [h]; rfl⟩
            have e2 : ((strOf word = (⟨#[102, 97, 108, 115, 101]⟩ : ByteArray)) ↔ word = falseL) := ⟨fun h => strOf_inj hw8 (by decide) h, fun h => by rw [h]; rfl⟩
            by_cases h6 : word = trueL
            · rw [if_pos h6] at hfac
              refine wif_dt (e1.2 h6) ?_
              refine call (put_fn base r A c _ _ ⟨1, 0, 0, 0⟩ w4 h4 (by show p2.f.length + (p2.r.drop d).length + 1 ≤ _; omega)) ?_
              rintro v w5 ⟨rfl, h5⟩
              exact ⟨_, _, hfac, rfl, h5.step hm04 (Moved.refl _ _)⟩
            rw [if_neg h6] at hfac
            refine wif_df (fun h => h6 (e1.1 h)) ?_
            by_cases h7 : word = falseL
            · rw [if_pos h7] at hfac
              refine wif_dt (e2.2 h7) ?_
              refine call (put_fn base r A c _ _ ⟨0, 0, 0, 0⟩ w4 h4 (by show p2.f.length + (p2.r.drop d).length + 1 ≤ _; omega)) ?_
              rintro v w5 ⟨rfl, h5⟩
              exact ⟨_, _, hfac, rfl, h5.step hm04 (Moved.refl _ _)⟩
            rw [if_neg h7] at hfac
            refine wif_df (fun h => h7 (e2.1 h)) ?_
            refine load_blk0 h4.blk rfl ?_
            have hlook := hix word hw8
            refine at_lookup_ok' (kv := strK) (a := strOf word) (v := .int .i64 ((ix word).getD 0 : Nat)) (b := (ix word).isSome) gx_ok rfl rfl rfl rfl rfl KeyV.str rfl rfl hG4.1 (by rw [hlook]; cases ix word <;> rfl) (by rw [hlook]; cases ix word <;> rfl) ?_
            refine load_blk h4.blk rfl ?_
            have fin : ∀ w5 u, Mod (· = r) w4 w5 → Blk w5 r 123 [.map (some q), .string (strOf (p2.r.drop d)), .slice A p2.f.length c, .bool u] → u = (p2.u || (ix word).isNone) → Rd w5 base r A c (.map (some q)) { p2 with r := p2.r.drop d, u := p2.u || (ix word).isNone } ∧ Mod (RdS r A) w w5 := fun w5 u hm5 hB5 hu => by
              subst hu
              exact ⟨⟨hB5, h4.own.mod hm5 (fun i hi e => by subst e; exact h4.nrow hi), h4.lt, Nat.le_trans h4.top hm5.size, h4.b8, h4.lim⟩, RdS.trans hm04 (Moved.refl _ _) (hm5.mono (fun i hi => .inl (.inl hi)))⟩
            refine wif (fun hu => ?_) (fun hu => ?_)
            · refine store_mod h4.blk (by simp) (fun w5 hm5 hB5 => ?_)
              obtain ⟨h5, hm05⟩ := fin w5 true hm5 hB5 (by rw [show p2.u = true from hu]; rfl)
              refine call (put_fn base r A c _ _ ⟨2, ((ix word).getD 0 : Nat), 0, 0⟩ w5 h5 (by show p2.f.length + (p2.r.drop d).length + 1 ≤ _; omega)) ?_
              rintro v w6 ⟨rfl, h6⟩
              exact ⟨_, _, hfac, rfl, h6.step hm05 (Moved.refl _ _)⟩
            · refine store_mod h4.blk (by simp) (fun w5 hm5 hB5 => ?_)
              obtain ⟨h5, hm05⟩ := fin w5 (!(ix word).isSome) hm5 hB5 (by rw [show p2.u = false from hu]; cases ix word <;> rfl)
              refine call (put_fn base r A c _ _ ⟨2, ((ix word).getD 0 : Nat), 0, 0⟩ w5 h5 (by show p2.f.length + (p2.r.drop d).length + 1 ≤ _; omega)) ?_
              rintro v w6 ⟨rfl, h6⟩
              exact ⟨_, _, hfac, rfl, h6.step hm05 (Moved.refl _ _)⟩
end

section
open Go Go.RowKit

abbrev GPost := Exit → Act → World → Prop
def runs (P : Program) : List Code → GPost → Act → World → Prop
  | [], G, a, w => G .normal a w
  | y :: ys, G, a, w => y.wp P (fun e a w => match e with
    | .normal => runs P ys G a w
    | e => G e a w) a w
/-- From here on, whatever is deferred. -/
@[irreducible] def AtG (c : Cx) (l : List Code) (S : Env) (w : World) (G : GPost) : Prop := ∀ a, Fits c.N S a → runs c.g.P l G a w
@[irreducible] def OutG (c : Cx) (S : Env) (w : World) (e : Exit) (G : GPost) : Prop := ∀ a, Fits c.N S a → G e a w

section
variable {c : Cx} {S : Env} {w : World} {G : GPost}

theorem atG_seq {x y : Code} {l : List Code} (h : AtG c (x :: y :: l) S w G) : AtG c (.seq x y :: l) S w G := by
  unfold AtG at *
  intro a hf
  have h1 := h a hf
  unfold runs at h1
  unfold runs
  refine wp_seq (wp_mono h1 (fun e a w hq => ?_))
  cases e <;> first | exact hq | (unfold runs at hq; exact hq)
theorem atG_exec (hg : c.g.Ok) {x : Code} {l : List Code} (h : exec c x S w (fun e S w => match e with
    | .normal => AtG c l S w G
    | e => OutG c S w e G)) : AtG c (x :: l) S w G := by
  unfold AtG
  intro a hf
  unfold runs
  refine wp_mono (exec_sound hg x S w _ a h hf) (fun e a w ⟨S', hf', hq⟩ => ?_)
  cases e with
  | normal => simp only at hq; unfold AtG at hq; exact hq a hf'
  | exit i => simp only at hq; unfold OutG at hq; exact hq a hf'
  | goto i => simp only at hq; unfold OutG at hq; exact hq a hf'
  | ret => simp only at hq; unfold OutG at hq; exact hq a hf'
  | panic i => simp only at hq; unfold OutG at hq; exact hq a hf'
  | outgrown => simp only at hq; unfold OutG at hq; exact hq a hf'
/-- A region whose last operation defers a call. -/
theorem atG_defer (hg : c.g.Ok) {id : Nat} {ops : Array Oper} {l : List Code} {o : Oper} {f : Operand} {xs : Array Operand} {ts : Array TypeId} (hops : ops.toList = ops.toList.dropLast ++ [o]) (ho : o.op = .defer ⟨.value f, xs, ts⟩) (hgd : o.guard = none) (hdst : o.dst = none)
    (h : execL { c with named := 1000000 } ops.toList ops.toList.dropLast S w (fun S w => ∃ fv cap first asx, S.ev f = some (.func fv first cap) ∧ evL S xs.toList = some asx ∧ AtG { c with N := ⟨c.N.n, ⟨.fn fv cap, first ++ asx.toArray⟩ :: c.N.ds⟩ } l S w G) (fun e S w => OutG c S w e G)) : AtG c (.region id ops false :: l) S w G := by
  unfold AtG
  intro a hf
  unfold runs
  refine wp_region_list ?_
  have h1 := execL_sound (c := { c with named := 1000000 }) hg ops.toList ops.toList.dropLast S w a h hf
  have key : ∀ (Q : GPost) (m1 m2 : List Oper) (a : Act) (w : World), wpList c.g.P ops (fun e a w => match e with
      | .normal => wpList c.g.P ops Q m2 a w
      | e => Q e a w) m1 a w → wpList c.g.P ops Q (m1 ++ m2) a w := by
    intro Q m1
    induction m1 with
    | nil => intro m2 a w h; exact h
    | cons o1 m1 ih =>
      intro m2 a w h
      rw [List.cons_append]
      unfold wpList at h ⊢
      split
      · rename_i hw
        rw [if_pos hw] at h
        rcases h with h | ⟨h1, a0, w0, h2⟩
        · refine .inl ?_
          have h2 := Oper.wp_mono (K' := wpList c.g.P ops Q (m1 ++ m2)) (fun a w => ih m2 a w) h
          unfold Oper.wp at h2 ⊢
          generalize (execOp a.eval o1).run c.g.P w = r at *
          cases r with
          | ok n w' => cases n <;> simp only [Oper.upon] at h2 ⊢ <;> exact h2
          | halt x w' => cases x <;> simp only [Oper.upon] at h2 ⊢ <;> exact h2
        · exact .inr ⟨h1, a0, w0, h2⟩
      · rename_i hw
        rw [if_neg hw] at h
        exact ih m2 _ _ h
  rw [hops]
  refine key _ ops.toList.dropLast [o] a w ?_
  have e0 : ops.toList.toArray = ops := by simp
  rw [e0] at h1
  refine wpList_mono' (fun e a w hq => ?_) h1
  cases e with
  | normal =>
    obtain ⟨S', hf', fv, cap, first, asx, hfv, has, hq⟩ := hq
    show wpList _ _ _ [o] _ _
    unfold wpList
    rw [if_pos (by simp [Region.wanted, hgd])]
    refine .inl ?_
    have hev := hf'.ev hfv
    have hxs : (xs.map a.eval) = asx.toArray := by
      apply Array.ext'
      rw [Array.toList_map]
      exact evL_spec (ρ := a.eval) (fun x v h => hf'.ev h) _ _ has
    unfold Oper.wp
    have hrun : (execOp a.eval o).run c.g.P w = .ok (.defer ⟨.fn fv cap, first ++ asx.toArray⟩) w := by
      simp only [execOp, ho, resolve, hev, hxs]
      simp [Deferred.ofValue]
    rw [hrun, Oper.upon_defer]
    unfold wpList
    unfold AtG at hq
    refine hq _ ⟨?_, ?_, ?_⟩
    · rw [hdst]; exact hf'.size
    · rw [hdst]; show _ :: a.defers = _; rw [hf'.defers]
    · rw [hdst]; exact hf'.has
  | exit i => obtain ⟨S', hf', hq⟩ := hq; unfold OutG at hq; exact hq a hf'
  | goto i => obtain ⟨S', hf', hq⟩ := hq; unfold OutG at hq; exact hq a hf'
  | ret => obtain ⟨S', hf', hq⟩ := hq; unfold OutG at hq; exact hq a hf'
  | panic i => obtain ⟨S', hf', hq⟩ := hq; unfold OutG at hq; exact hq a hf'
  | outgrown => obtain ⟨S', hf', hq⟩ := hq; unfold OutG at hq; exact hq a hf'
end

/-- How a function that defers is to end. -/
def EndR (R : Value → World → Prop) : Ending → World → Prop
  | .returned v, w => R v w
  | _, _ => False

theorem fn_of_G {c : Cx} (hg : c.g.Ok) {f : FuncId} {fn : Func} {x : Code} {args : List Value} {w : World} {R : Value → World → Prop} (hf : c.g.P.funcs[f]? = some fn) (hb : fn.body = some x) (hN : ⟨fn.ntmps, []⟩ = c.N)
    (hl : Nat.ble args.length c.N.n = true) (h : envK [0, 1, 2, 3, 4, 5, 6, 7, 8, 9, 10, 11, 12, 13, 14, 15] args [] (fun S => AtG c [x] S w (bodyPostD c.g.P fn (EndR R)))) : Fn c.g.P f args w R := by
  unfold Fn
  have _ := hg
  obtain ⟨S, hS, hx⟩ := envK_spec _ args [] 0 args (fun j t ht => by
    match j, ht with
    | 0, ht | 1, ht | 2, ht | 3, ht | 4, ht | 5, ht | 6, ht | 7, ht | 8, ht | 9, ht | 10, ht | 11, ht | 12, ht | 13, ht | 14, ht | 15, ht => simp at ht; omega
    | j + 16, ht => simp at ht) (by simp) (fun k x hk => by simp [Env.ent] at hk) h
  have hn : fn.ntmps = c.N.n := congrArg Slots.n hN
  have hfit := fits_args (N := c.N.n) args (Nat.le_of_ble_eq_true hl) S hS
  rw [← hn, hN] at hfit
  unfold AtG at hx
  have h1 := hx _ hfit
  refine (calls_of_wp_defers hf hb (R := EndR R) ?_).mono (fun e w' he => by cases e <;> exact he)
  unfold runs at h1
  refine wp_mono h1 (fun e a w hq => ?_)
  cases e <;> first | exact hq | (unfold runs at hq; exact hq)

section
variable {c : Cx} {S : Env} {w : World}
/-- The end, with nothing deferred. -/
theorem out0 (hg : c.g.Ok) {fn : Func} {R : Value → World → Prop} {e : Exit} (hN : c.N.ds = []) (he : e = .ret ∨ e = .normal) (h : retK c S w R fn.results.toList []) : OutG c S w e (bodyPostD c.g.P fn (EndR R)) := by
  unfold OutG
  intro a hf
  obtain ⟨v, h1, h2⟩ := run_results hg hf h
  have hd : a.defers = [] := by rw [hf.defers, hN]
  rcases he with rfl | rfl <;>
  · unfold bodyPostD
    simp only
    rw [hd]
    exact ⟨v, h1, h2⟩
/-- Behind the one call that is deferred. -/
theorem leave1 (hg : c.g.Ok) {fn : Func} {R : Value → World → Prop} {u : FrameMode} {a : Act} {F : FuncId} {asx cap : Array Value} (hN : c.N.ds = [⟨.fn (.func F) cap, asx⟩]) (hF : memN F c.g.fns = true) (hu : u ≠ .run) (hf : Fits c.N S a) {args : Array Value} (hA : asx ++ cap = args)
    (h : CallsD c.g.P F args u w (fun e u' w' => ∃ v, e = .returned v ∧ settle u' = .returning ∧ retK c S w' R fn.results.toList [])) : Leaves c.g.P fn a.tmps (EndR R) a.defers u w := by
  subst hA
  rw [hf.defers, hN]
  refine leaves_cons (f := F) (args := asx ++ cap) hu ?_ ?_
  · have hc := hg.fns F (memN_spec hF)
    simp only [invoke]
    rw [run_callFunc hc]
  · refine h.mono (fun e u' w' he => ?_)
    obtain ⟨v, rfl, hs, hk⟩ := he
    simp only
    rw [hs]
    obtain ⟨v, h1, h2⟩ := run_results hg hf hk
    exact ⟨v, h1, h2⟩
theorem out1 (hg : c.g.Ok) {fn : Func} {R : Value → World → Prop} {e : Exit} {F : FuncId} {asx cap : Array Value} (hN : c.N.ds = [⟨.fn (.func F) cap, asx⟩]) (hF : memN F c.g.fns = true) (he : e = .ret ∨ e = .normal) {args : Array Value} (hA : asx ++ cap = args)
    (h : CallsD c.g.P F args .returning w (fun e u' w' => ∃ v, e = .returned v ∧ settle u' = .returning ∧ retK c S w' R fn.results.toList [])) : OutG c S w e (bodyPostD c.g.P fn (EndR R)) := by
  unfold OutG
  intro a hf
  have := leave1 hg hN hF (by simp) hf hA h
  rcases he with rfl | rfl <;> exact this
theorem out1p (hg : c.g.Ok) {fn : Func} {R : Value → World → Prop} {ch : List PanicEntry} {F : FuncId} {asx cap : Array Value} (hN : c.N.ds = [⟨.fn (.func F) cap, asx⟩]) (hF : memN F c.g.fns = true) {args : Array Value} (hA : asx ++ cap = args)
    (h : CallsD c.g.P F args (.panicking ch) w (fun e u' w' => ∃ v, e = .returned v ∧ settle u' = .returning ∧ retK c S w' R fn.results.toList [])) : OutG c S w (.panic ch) (bodyPostD c.g.P fn (EndR R)) := by
  unfold OutG
  intro a hf
  exact leave1 hg hN hF (by simp) hf hA h
end

end

section
open Go Go.RowKit

theorem at_assert_ok {c : Cx} (hg : c.g.Ok) {o : Oper} {S : Env} {w : World} {K : Env → World → Prop} {Q : Post} {x : Operand} {tx t : Nat} {k : IntKind} {v : Value} {r : TyRow} (ho : o.op = .typeAssert x tx t true) (hr : rowOf c.g.tys t = some r) (hd : r.d = .int k) (hx : S.ev x = some (.iface t v))
    (kk : putK c S o.dst (.v (.tuple #[v, .bool true])) (fun S => K S w)) : AtOp c o S w K Q := by
  have hr' := (hg.row hr).1
  rw [hd] at hr'
  refine at_run (w' := w) (v := .tuple #[v, .bool true]) (fun a hf => ?_) kk
  have e1 := hf.ev hx
  simp only [execOp, ho, e1]
  simp [Instr.typeAssert, run_underlying hr']

theorem equal_nil {P : Program} {t : TypeId} {ms : Array (String × TypeId)} {w : World} (hu : P.underlying t = some (.interface ms)) (n : Nat) : (Op.equalIn (n + 1) t .nilIface .nilIface).run P w = .ok true w := by simp [Op.equalIn, run_underlying hu]

theorem wpOpsS_rec {P : Program} {o1 o2 : Oper} {Q : Exit → Act → List Frame → World → Prop} {a : Act} {cs cs' : List Frame} {w : World} {d1 d2 : Nat} {v : Value} (h1 : o1.op = .call ⟨.builtin .recover, #[], #[]⟩) (h1d : o1.dst = some d1) (h1g : o1.guard = none) (h2 : o2.op = .assign (.tmp d1)) (h2d : o2.dst = some d2) (h2g : o2.guard = none)
    (hsz : d1 < a.tmps.size) (hrec : recoverD cs = some (v, cs') ∨ (recoverD cs = none ∧ v = .nilIface ∧ cs' = cs)) (h : Q .normal ((a.put (some d1) v).put (some d2) v) cs' w) : wpOpsS P #[o1, o2] Q (List.range 2) a cs w := by
  have e1 : ∀ ρ, (execOp ρ o1).run P w = .ok .recover w := fun ρ => by
    simp only [execOp, h1, resolve, invoke, builtin]
    simp
  have e2 : (execOp (a.put (some d1) v).eval o2).run P w = .ok (.value v) w := by
    simp only [execOp, h2]
    simp [Act.eval, Act.put, hsz]
  show wpOpsS P #[o1, o2] Q [0, 1] a cs w
  have key : wpOpsS P #[o1, o2] Q [1] (a.put (some d1) v) cs' w := by
    unfold wpOpsS
    simp only [List.getElem?_toArray, List.getElem?_cons_succ, List.getElem?_cons_zero]
    rw [if_pos (by simp [Region.wanted, h2g]), e2]
    simp only [Oper.upon, h2d]
    unfold wpOpsS
    exact h
  unfold wpOpsS
  simp only [List.getElem?_toArray, List.getElem?_cons_zero]
  rw [if_pos (by simp [Region.wanted, h1g]), e1]
  rcases hrec with hr | ⟨hr, rfl, rfl⟩
  · simp only [hr, h1d]; exact key
  · simp only [hr, h1d]; exact key

/-- The end of a function that recovers: the rest of it, walked by the engine. -/
theorem wpS_rest {c : Cx} (hg : c.g.Ok) {x : Code} {fn : Func} {c₀ : Frame} {cs : List Frame} {R : Ending → FrameMode → World → Prop} {S : Env} {a : Act} {w : World} {u' : FrameMode} (hN : c.N.ds = []) (hf : Fits c.N S a)
    (h : exec c x S w (Fin c fn.results.toList (fun v w' => R (.returned v) u' w'))) : x.wpS c.g.P (bodyPostS c.g.P fn c₀ cs R) a ({ c₀ with mode := u' } :: cs) w := by
  refine wpS_of_wp (wp_mono (exec_sound hg x S w _ a h hf) (fun e a' w' hq => ?_))
  obtain ⟨S', hf', hq⟩ := hq
  have hd' : a'.defers = [] := by rw [hf'.defers, hN]
  cases e with
  | normal => obtain ⟨v, h1, h2⟩ := run_results hg hf' hq; exact ⟨hd', u', rfl, v, h1, h2⟩
  | ret => obtain ⟨v, h1, h2⟩ := run_results hg hf' hq; exact ⟨hd', u', rfl, v, h1, h2⟩
  | exit i => exact hq.elim
  | goto l => exact hq.elim
  | panic ch => exact hq.elim
  | outgrown => exact hq.elim

/-- The two results' variables, behind a panic. -/
def RecOk (f e : Nat) (k : Int) (w w' : World) : Prop := Blk w' f 77 [.slice none 0 0] ∧ Blk w' e 30 [.int .i64 k] ∧ Mod (fun i => i = f ∨ i = e) w w'

theorem rec_fn (f e : Nat) (k : Int) (w : World) (v1 v2 : Value) (hne : f ≠ e) (hf : Blk w f 77 [v1]) (he : Blk w e 30 [v2]) :
    CallsD Tryz.prog 69 #[.pointer (some ⟨f, 0, none⟩), .pointer (some ⟨e, 0, none⟩)] (.panicking [{ v := .iface 30 (.int .i64 k), recovered := false }]) w
      (fun en u' w' => ∃ v, en = .returned v ∧ settle u' = .returning ∧ RecOk f e k w w') := by
  refine callsD_of_wpS Tryz.func69 rfl fun c₀ cs hu => ?_
  have hfit := fits_args (N := c69.N.n) [.pointer (some ⟨f, 0, none⟩), .pointer (some ⟨e, 0, none⟩)] (Nat.le_of_ble_eq_true rfl) [(0, .v (.pointer (some ⟨f, 0, none⟩))), (1, .v (.pointer (some ⟨e, 0, none⟩)))] (by
    intro k x hk
    match k, hk with
    | 0, hk => cases hk; rfl
    | 1, hk => cases hk; rfl
    | k + 2, hk => exact nomatch (show (none : Option Ent) = some x from hk))
  have hf5 := hfit.put (d := 5) (by decide) (.v (.iface 30 (.int .i64 k)))
  have hf2 := hf5.put (d := 2) (by decide) (.v (.iface 30 (.int .i64 k)))
  refine wpS_seq (wpS_region ?_)
  refine wpOpsS_rec (cs' := { c₀ with mode := .panicking [{ v := .iface 30 (.int .i64 k), recovered := true }] } :: cs) (v := .iface 30 (.int .i64 k)) rfl rfl rfl rfl rfl rfl (by simp) (.inl (by simp [recoverD, hu])) ?_
  refine wpS_rest (c := c69) gx_ok rfl hf2 ?_
  refine wif_t rfl ?_
  refine at_assert_ok gx_ok rfl rfl rfl rfl ?_
  refine wif_f rfl ?_
  refine store_mod0 hf (by simp) (fun w1 hm1 hB1 => ?_)
  refine store_mod0 (he.mod hm1 (fun h => hne h.symm)) (by simp) (fun w2 hm2 hB2 => ?_)
  exact ⟨_, rfl, rfl, hB1.mod hm2 hne, hB2, (hm1.mono (fun i hi => .inl (.inl hi))).trans hm2 (fun i hi => .inl (.inr hi))⟩

theorem rec_ret_fn (f e : Nat) (w : World) :
    CallsD Tryz.prog 69 #[.pointer (some ⟨f, 0, none⟩), .pointer (some ⟨e, 0, none⟩)] .returning w
      (fun en u' w' => ∃ v, en = .returned v ∧ settle u' = .returning ∧ w = w') := by
  refine callsD_of_wpS Tryz.func69 rfl fun c₀ cs hu => ?_
  have hfit := fits_args (N := c69.N.n) [.pointer (some ⟨f, 0, none⟩), .pointer (some ⟨e, 0, none⟩)] (Nat.le_of_ble_eq_true rfl) [(0, .v (.pointer (some ⟨f, 0, none⟩))), (1, .v (.pointer (some ⟨e, 0, none⟩)))] (by
    intro k x hk
    match k, hk with
    | 0, hk => cases hk; rfl
    | 1, hk => cases hk; rfl
    | k + 2, hk => exact nomatch (show (none : Option Ent) = some x from hk))
  have hf5 := hfit.put (d := 5) (by decide) (.v .nilIface)
  have hf2 := hf5.put (d := 2) (by decide) (.v .nilIface)
  refine wpS_seq (wpS_region ?_)
  refine wpOpsS_rec (cs' := { c₀ with mode := .returning } :: cs) (v := .nilIface) rfl rfl rfl rfl rfl rfl (by simp) (.inr ⟨by simp [recoverD, hu], rfl, by rw [← hu]⟩) ?_
  refine wpS_rest (c := c69) gx_ok rfl hf2 ?_
  refine at_run (w' := w) (v := .bool false) (fun a hf => ?_) ?_
  · have e1 := hf.ev (show Env.ev _ (.tmp 6) = some .nilIface from rfl)
    have hu := Tryz.underlying20
    have e2 : (Op.equal 20 .nilIface .nilIface).run Tryz.prog w = .ok true w := equal_nil hu 9999
    have e3 : binOp .neq 20 .nilIface .nilIface = (do pure (.bool (!(← Op.equal 20 .nilIface .nilIface)))) := rfl
    simp only [execOp, e1, eqGuard]
    simp [Act.eval, e3, show gx.P = Tryz.prog from rfl, e2]
  refine wif_f rfl ?_
  exact ⟨_, rfl, rfl, rfl⟩
end

section
open Go Go.RowKit

/-- The number of a name: the last one that it stands at. -/
def ixR (l : List Nat) : List (List Nat) → Nat → Option Nat → Option Nat
  | [], _, acc => acc
  | s :: names, i, acc => ixR l names (i + 1) (if s = l then some i else acc)
def ixN (names : List (List Nat)) (l : List Nat) : Option Nat := ixR l names 0 none
theorem ixR_ok (l : List Nat) (hl : ∀ x ∈ l, x < 256) : ∀ (names : List (List Nat)) (i : Nat) (acc : Option Nat) (m : List (ByteArray × Value)), NamesOk names → assoc (strOf l) m = acc.map (fun v : Nat => Value.int .i64 v) →
    assoc (strOf l) (nameM names i m) = (ixR l names i acc).map (fun v : Nat => Value.int .i64 v)
  | [], i, acc, m, _, h => h
  | s :: names, i, acc, m, hn, h => by
    simp only [nameM, ixR]
    refine ixR_ok l hl names (i + 1) _ _ (fun t ht => hn t (by simp [ht])) ?_
    rw [assoc_set]
    by_cases hs : s = l
    · subst hs; simp
    · rw [if_neg (fun e => hs (strOf_inj hl (hn s (by simp)).1 e).symm), if_neg hs]; exact h
theorem ixN_ok {names : List (List Nat)} (hn : NamesOk names) : IxOk (ixN names) (nameM names 0 []) := fun l hl => ixR_ok l hl names 0 none [] hn rfl

/-- What Parse answers. -/
def parseP (names : List (List Nat)) (s : List Nat) : List Fz × Int := if numsOk names then
    match wholeP (ixN names) (s.length + 1) ⟨s, [], false⟩ with
    | none => ([], 31)
    | some (_, p) => if trimB p.r ≠ [] then ([], 31) else if p.u then ([], 3) else if 512 < p.f.length then ([], 2) else (p.f, 0)
  else ([], 1)

/-- A formula and an error number. -/
def FzRes (w : World) (r : List Fz × Int) (v : Value) (w' : World) : Prop := ∃ F m cF, v = .tuple #[.slice F m cF, .int .i64 r.2] ∧ Ext w w' ∧ SlS Fz.cells 4 w' F m cF r.1

theorem skip_none (p : Ps) : skipP [] p = (true, { p with r := trimB p.r }) := by rw [skipP_eq]; rfl

theorem parse_fn (names : List (List Nat)) (A : Option Addr) (n c : Nat) (s : List Nat) (w : World) (h : Sl w 1 A n c (strsV names)) (hb : NamesOk names) (hs : ∀ x ∈ s, x < 256) (hl : s.length ≤ 1000000000000) :
    Fn Tryz.prog 43 [.slice A n c, .string (strOf s)] w (FzRes w (parseP names s)) := by
  refine fn_of_G (c := { c43 with cuts := [] }) gx_ok Tryz.func43 rfl rfl rfl ?_
  refine atG_seq (atG_exec gx_ok ?_)
  refine new (fun w1 hE1 hz1 hB1 => ?_)
  refine new (fun w2 hE2 hz2 hB2 => ?_)
  have hE02 := hE1.trans hE2
  refine atG_seq (atG_exec gx_ok ?_)
  refine call (numbers_fn names A n c w2 (h.ext hE02) hb) ?_
  rintro v w3 ⟨v1, rfl, hE3, hmap⟩
  have hE03 := hE02.trans hE3
  have hBf := (hB1.ext hE2).ext hE3
  have hBe := hB2.ext hE3
  refine atG_seq (atG_exec gx_ok ?_)
  cases hok : numsOk names with
  | false =>
    refine wif_t rfl ?_
    refine store_mod0 hBf (by simp [cellsL]) (fun w4 hm4 hB4 => ?_)
    have hne : w1.heap.size ≠ w.heap.size := by omega
    refine store_mod0 (hBe.mod hm4 hne) (by simp [cellsL]) (fun w5 hm5 hB5 => ?_)
    refine out0 gx_ok rfl (.inl rfl) ?_
    refine load_blk0 (hB4.mod hm5 hne.symm) rfl ?_
    refine load_blk0 hB5 rfl ?_
    have hE5 := hm5.ext (hm4.ext hE03 (fun i hi => by omega)) (fun i hi => by omega)
    refine ⟨none, 0, 0, ?_, hE5, ?_⟩
    · unfold parseP; rw [hok]; rfl
    · unfold parseP; rw [hok]; exact SlS.nil _
  | true =>
    refine wif_f rfl ?_
    obtain ⟨q, rfl, hq, hmq⟩ := hmap hok
    refine atG_seq (atG_defer gx_ok rfl rfl rfl rfl ⟨_, _, _, _, rfl, rfl, ?_⟩)
    refine atG_seq (atG_exec gx_ok ?_)
    refine new (fun w4 hE4 hz4 hB4 => ?_)
    have hE04 := hE03.trans hE4
    have hz3 := hE3.size
    have hR : Rd w4 w4.heap.size w3.heap.size none 0 (.map (some q)) ⟨s, [], false⟩ := ⟨hB4, Own.nil _ _ _ _, by omega, Nat.le_refl _, hs, by simpa using hl⟩
    have hG : GM w3.heap.size q (nameM names 0 []) w4 none := ⟨hmq.ext hE4, by have := hmq.lt; omega, fun ⟨_, e, _⟩ => by cases e⟩
    have hne : w.heap.size ≠ w1.heap.size := by omega
    have hnr : ∀ i, i < w3.heap.size → ¬ RdS w3.heap.size none i := fun i hi e => by
      rcases e with rfl | ⟨_, e, _⟩
      · omega
      · cases e
    have keep : ∀ w', Mod (RdS w3.heap.size none) w4 w' → Ext w w' ∧ Blk w' w.heap.size 77 [.slice none 0 0] ∧ Blk w' w1.heap.size 30 [.int .i64 0] := fun w' hm => by
      refine ⟨hm.ext hE04 (fun i hi => ?_), (hBf.ext hE4).mod hm (hnr _ (by omega)), (hBe.ext hE4).mod hm (hnr _ (by omega))⟩
      rcases hi with rfl | ⟨_, e, _⟩
      · omega
      · cases e
    have pan : ∀ k w' w'', Ext w w' → RecOk w.heap.size w1.heap.size k w' w'' → parseP names s = ([], k) → FzRes w (parseP names s) (.tuple #[.slice none 0 0, .int .i64 k]) w'' := fun k w' w'' hE hR hp => by
      rw [hp]
      refine ⟨none, 0, 0, rfl, hR.2.2.ext hE (fun i hi => by rcases hi with rfl | rfl <;> omega), SlS.nil _⟩
    have hpp : parseP names s = match wholeP (ixN names) (s.length + 1) ⟨s, [], false⟩ with
      | none => ([], 31)
      | some (_, p) => if trimB p.r ≠ [] then ([], 31) else if p.u then ([], 3) else if 512 < p.f.length then ([], 2) else (p.f, 0) := by unfold parseP; rw [if_pos hok]
    refine atG_seq (atG_exec gx_ok ?_)
    refine callP (whole_fn (s.length + 1) _ _ none 0 _ q _ _ _ w4 hR hG (Nat.lt_succ_self _) (factor_opd (ixN names) _ _ q _ (ixN_ok hb) (s.length + 1))) ?_ ?_
    rotate_left
    · rintro ch w5 ⟨ho, rfl, hm5⟩
      obtain ⟨hE5, hf5, he5⟩ := keep w5 hm5
      refine out1p gx_ok rfl rfl (args := #[.pointer (some ⟨w.heap.size, 0, none⟩), .pointer (some ⟨w1.heap.size, 0, none⟩)]) (by simp) ((rec_fn _ _ 31 w5 _ _ hne hf5 he5).mono ?_)
      rintro e u' w6 ⟨v, rfl, hs6, hR6⟩
      refine ⟨v, rfl, hs6, ?_⟩
      refine load_blk0 hR6.1 rfl ?_
      refine load_blk0 hR6.2.1 rfl ?_
      exact pan 31 w5 w6 hE5 hR6 (by rw [hpp]; unfold wholeP; rw [ho])
    rintro v w5 ⟨a, p, ho, rfl, A5, c5, h5, hm5, hv5⟩
    refine atG_seq (atG_exec gx_ok ?_)
    refine call (skip_fn _ _ A5 c5 _ p [] w5 h5 (by simp)) ?_
    rintro v w6 ⟨rfl, h6, hm6⟩
    rw [skip_none] at h6
    simp only at h6
    have hm06 : Mod (RdS w3.heap.size none) w4 w6 := hm5.trans hm6 (fun i hi => .inl (.inl hi))
    obtain ⟨hE6, hf6, he6⟩ := keep w6 hm06
    have hpq : parseP names s = if trimB p.r ≠ [] then ([], 31) else if p.u then ([], 3) else if 512 < p.f.length then ([], 2) else (p.f, 0) := by rw [hpp]; unfold wholeP; rw [ho]
    have e0 : ((strOf (trimB p.r) = (⟨#[]⟩ : ByteArray)) ↔ trimB p.r = []) := ⟨fun h => strOf_inj h6.b8 (by simp) h, fun h => by rw [h]; rfl⟩
    refine atG_seq (atG_exec gx_ok ?_)
    refine load_blk h6.blk rfl ?_
    by_cases ht : ¬ trimB p.r = []
    · refine wif_t (by rw [decide_eq_false (fun h => ht (e0.1 h))]; rfl) ?_
      refine at_panic rfl rfl ?_
      refine out1p gx_ok rfl rfl (args := #[.pointer (some ⟨w.heap.size, 0, none⟩), .pointer (some ⟨w1.heap.size, 0, none⟩)]) (by simp) ((rec_fn _ _ 31 w6 _ _ hne hf6 he6).mono ?_)
      rintro e u' w7 ⟨v, rfl, hs7, hR7⟩
      refine ⟨v, rfl, hs7, ?_⟩
      refine load_blk0 hR7.1 rfl ?_
      refine load_blk0 hR7.2.1 rfl ?_
      exact pan 31 w6 w7 hE6 hR7 (by rw [hpq, if_pos ht])
    replace ht := Decidable.not_not.1 ht
    refine wif_f (by rw [decide_eq_true (e0.2 ht)]; rfl) ?_
    rw [if_neg (fun h => h ht)] at hpq
    refine load_blk h6.blk rfl ?_
    refine wif (fun hu => ?_) (fun hu => ?_)
    · refine at_panic rfl rfl ?_
      refine out1p gx_ok rfl rfl (args := #[.pointer (some ⟨w.heap.size, 0, none⟩), .pointer (some ⟨w1.heap.size, 0, none⟩)]) (by simp) ((rec_fn _ _ 3 w6 _ _ hne hf6 he6).mono ?_)
      rintro e u' w7 ⟨v, rfl, hs7, hR7⟩
      refine ⟨v, rfl, hs7, ?_⟩
      refine load_blk0 hR7.1 rfl ?_
      refine load_blk0 hR7.2.1 rfl ?_
      exact pan 3 w6 w7 hE6 hR7 (by rw [hpq, if_pos hu])
    rw [if_neg (by rw [show p.u = false from hu]; decide)] at hpq
    refine load_blk h6.blk rfl ?_
    refine wif_d (fun hl => ?_) (fun hl => ?_)
    · refine at_panic rfl rfl ?_
      refine out1p gx_ok rfl rfl (args := #[.pointer (some ⟨w.heap.size, 0, none⟩), .pointer (some ⟨w1.heap.size, 0, none⟩)]) (by simp) ((rec_fn _ _ 2 w6 _ _ hne hf6 he6).mono ?_)
      rintro e u' w7 ⟨v, rfl, hs7, hR7⟩
      refine ⟨v, rfl, hs7, ?_⟩
      refine load_blk0 hR7.1 rfl ?_
      refine load_blk0 hR7.2.1 rfl ?_
      exact pan 2 w6 w7 hE6 hR7 (by rw [hpq, if_pos (show 512 < p.f.length by simp only at hl; omega)])
    have hl' : ¬ 512 < p.f.length := fun h => hl (by simp only; omega)
    rw [if_neg hl'] at hpq
    refine atG_seq (atG_exec gx_ok ?_)
    refine load_blk h6.blk rfl ?_
    refine store_mod0 hf6 (by simp) (fun w7 hm7 hB7 => ?_)
    refine store_mod0 (he6.mod hm7 hne.symm) (by simp) (fun w8 hm8 hB8 => ?_)
    refine atG_exec gx_ok ?_
    refine out1 gx_ok rfl rfl (.inl rfl) (args := #[.pointer (some ⟨w.heap.size, 0, none⟩), .pointer (some ⟨w1.heap.size, 0, none⟩)]) (by simp) ((rec_ret_fn _ _ w8).mono ?_)
    rintro e u' _ ⟨v, rfl, hs9, rfl⟩
    refine ⟨v, rfl, hs9, ?_⟩
    refine load_blk0 (hB7.mod hm8 hne) rfl ?_
    refine load_blk0 hB8 rfl ?_
    rw [hpq]
    have hM : Mod (fun i => i = w.heap.size ∨ i = w1.heap.size) w6 w8 := (hm7.mono (fun i hi => .inl (.inl hi))).trans hm8 (fun i hi => .inl (.inr hi))
    refine ⟨A5, p.f.length, c5, rfl, hM.ext hE6 (fun i hi => by rcases hi with rfl | rfl <;> omega), ?_, rfl⟩
    have hrow : ∀ i, rowS A5 i → w4.heap.size ≤ i := fun i hi => (h6.own.rows i hi).1
    exact (h6.own.mod hM (fun i hi e => by have := hrow i hi; rcases e with rfl | rfl <;> omega)).sl
end
end
end Go.Proofs.YtedopgkbajhanaaGreatDoor

namespace Go.Proofs.YtedopgkbajhanaaGreatDoor
section
section
open Go Go.RowKit

def fAr (o : Int) : Int := if o = 0 ∨ o = 1 ∨ o = 2 then 0 else if o = 3 then 1 else if o = 4 ∨ o = 5 then 2 else -1
theorem fAr_cases (o : Int) : ((o = 0 ∨ o = 1 ∨ o = 2) ∧ fAr o = 0) ∨ (o = 3 ∧ fAr o = 1) ∨ ((o = 4 ∨ o = 5) ∧ fAr o = 2) ∨ (fAr o = -1 ∧ o ≠ 0 ∧ o ≠ 1 ∧ o ≠ 2 ∧ o ≠ 3 ∧ o ≠ 4 ∧ o ≠ 5) := by
  unfold fAr
  split
  · left; omega
  · split
    · right; left; omega
    · split
      · right; right; left; omega
      · right; right; right; omega
/-- Is this node well-formed at place i? -/
def fzP (x : Fz) (i : Nat) : Prop := 0 ≤ fAr x.o ∧ (if x.o = 2 then 0 ≤ x.v ∧ x.v < 64 else x.v = 0) ∧ (if 0 < fAr x.o then 0 ≤ x.a ∧ x.a < i else x.a = 0) ∧ (if 1 < fAr x.o then 0 ≤ x.b ∧ x.b < i else x.b = 0)
instance (x : Fz) (i : Nat) : Decidable (fzP x i) := by unfold fzP; infer_instance
/-- The same node, without what its operator does not use. -/
def plainOf (x : Fz) : Fz := ⟨x.o, if x.o = 2 then x.v else 0, if 0 < fAr x.o then x.a else 0, if 1 < fAr x.o then x.b else 0⟩

theorem eq4 (a b c d a' b' c' d' : Int) : (a == a' && (b == b' && (c == c' && (d == d' && true)))) = decide (a = a' ∧ b = b' ∧ c = c' ∧ d = d') := by
  rw [Bool.eq_iff_iff]
  simp only [Bool.and_eq_true, beq_iff_eq, decide_eq_true_eq, and_true]
theorem plain_eq (x : Fz) : (x.o = (plainOf x).o ∧ x.v = (plainOf x).v ∧ x.a = (plainOf x).a ∧ x.b = (plainOf x).b) ↔ ((x.o ≠ 2 → x.v = 0) ∧ (fAr x.o ≤ 0 → x.a = 0) ∧ (fAr x.o ≤ 1 → x.b = 0)) := by
  unfold plainOf
  simp only
  constructor
  · rintro ⟨_, h1, h2, h3⟩
    split at h1 <;> split at h2 <;> split at h3 <;> omega
  · rintro ⟨h1, h2, h3⟩
    refine ⟨trivial, ?_, ?_, ?_⟩ <;> split <;> omega

theorem arity_fn (x : Fz) (i : Nat) (w : World) : Fn Tryz.prog 172 [.agg x.cells.toArray, .int .i64 i] w (fun v w' => v = .int .i64 (if fzP x i then fAr x.o else -1) ∧ Ext w w') := by
  refine fn_of_exec (c := { c172 with cuts := [3] }) gx_ok Tryz.func172 rfl rfl rfl ?_
  refine new (fun w1 hE1 hz1 hB1 => ?_)
  refine load_blk0 hB1 rfl ?_
  refine new (fun w2 hE2 hz2 hB2 => ?_)
  refine storeN_blk0 hB2 rfl (sc rfl) (fun w3 hg3 _ hB3 => ?_)
  have hm3 : Mod (· = w1.heap.size) w2 w3 := Mod.of_grown hg3 rfl
  replace hB3 : Blk w3 w1.heap.size 205 [.int .i64 x.o, .int .i64 0, .int .i64 0, .int .i64 0] := hB3
  have hX3 := (hB1.ext hE2).mod hm3 (by omega)
  have hE3 : Ext w w3 := hm3.ext (hE1.trans hE2) (fun i hi => by omega)
  refine cutIn [] gx_ok [6] (fun k : Int => [.int .i64 k]) (fun k w' => Ext w w' ∧ Blk w' w.heap.size 205 x.cells ∧ Blk w' w1.heap.size 205 (plainOf x).cells ∧ k = fAr x.o ∧ 0 ≤ fAr x.o ∧ (x.o = 2 → 0 ≤ x.v ∧ x.v < 64)) ?_ ?_
  · refine load_blk0 hX3 rfl ?_
    refine wif_eq (fun h => ?_) (fun h => ?_)
    · refine ⟨_, rfl, hE3, hX3, ?_, ?_, ?_, ?_⟩
      · rw [show (plainOf x).cells = [.int .i64 x.o, .int .i64 0, .int .i64 0, .int .i64 0] from by simp [plainOf, Fz.cells, h, fAr]]; exact hB3
      · rw [h]; rfl
      · rw [h]; decide
      · intro h2; omega
    refine wif_eq (fun h1 => ?_) (fun h1 => ?_)
    · refine ⟨_, rfl, hE3, hX3, ?_, ?_, ?_, ?_⟩
      · rw [show (plainOf x).cells = [.int .i64 x.o, .int .i64 0, .int .i64 0, .int .i64 0] from by simp [plainOf, Fz.cells, h1, fAr]]; exact hB3
      · rw [h1]; rfl
      · rw [h1]; decide
      · intro h2; omega
    refine wif_eq (fun h2 => ?_) (fun h2 => ?_)
    · refine load_blk hX3 rfl ?_
      refine store_mod hB3 (by simp) (fun w4 hm4 hB4 => ?_)
      have hX4 := hX3.mod hm4 (by omega)
      have hE4 := hm4.ext hE3 (fun i hi => by omega)
      refine load_blk hX4 rfl ?_
      refine wif_d (fun h3 => ?_) (fun h3 => ?_)
      · exact ⟨by rw [if_neg (fun hf => by have := hf.2.1; rw [if_pos h2] at this; omega)], hE4⟩
      refine load_blk hX4 rfl ?_
      refine wif_d (fun h4 => ?_) (fun h4 => ?_)
      · exact ⟨by rw [if_neg (fun hf => by have := hf.2.1; rw [if_pos h2] at this; omega)], hE4⟩
      refine ⟨_, rfl, hE4, hX4, ?_, ?_, ?_, ?_⟩
      · rw [show (plainOf x).cells = [.int .i64 x.o, .int .i64 x.v, .int .i64 0, .int .i64 0] from by simp [plainOf, Fz.cells, h2, fAr]]; exact hB4
      · rw [h2]; rfl
      · rw [h2]; decide
      · intro _; omega
    refine wif_eq (fun h3 => ?_) (fun h3 => ?_)
    · refine load_blk hX3 rfl ?_
      refine store_mod hB3 (by simp) (fun w4 hm4 hB4 => ?_)
      have hX4 := hX3.mod hm4 (by omega)
      have hE4 := hm4.ext hE3 (fun i hi => by omega)
      refine ⟨_, rfl, hE4, hX4, ?_, ?_, ?_, ?_⟩
      · rw [show (plainOf x).cells = [.int .i64 x.o, .int .i64 0, .int .i64 x.a, .int .i64 0] from by simp [plainOf, Fz.cells, h3, fAr]]; exact hB4
      · rw [h3]; rfl
      · rw [h3]; decide
      · intro _; omega
    have two : (x.o = 4 ∨ x.o = 5) → ∀ w4, Mod (· = w1.heap.size) w3 w4 → Blk w4 w1.heap.size 205 [.int .i64 x.o, .int .i64 0, .int .i64 x.a, .int .i64 x.b] → Ext w w4 ∧ Blk w4 w.heap.size 205 x.cells ∧ Blk w4 w1.heap.size 205 (plainOf x).cells ∧ (2 : Int) = fAr x.o ∧ 0 ≤ fAr x.o ∧ (x.o = 2 → 0 ≤ x.v ∧ x.v < 64) := fun ho w4 hm4 hB4 => by
      have e : fAr x.o = 2 := by rcases ho with h | h <;> rw [h] <;> rfl
      refine ⟨hm4.ext hE3 (fun i hi => by omega), hX3.mod hm4 (by omega), ?_, e.symm, by omega, by omega⟩
      rw [show (plainOf x).cells = [.int .i64 x.o, .int .i64 0, .int .i64 x.a, .int .i64 x.b] from by simp [plainOf, Fz.cells, h2, e]]
      exact hB4
    refine wif_eq (fun h4 => ?_) (fun h4 => ?_)
    · refine load_blk hX3 rfl ?_
      refine store_mod hB3 (by simp) (fun w4 hm4 hB4 => ?_)
      have hX4 := hX3.mod hm4 (by omega)
      refine load_blk hX4 rfl ?_
      refine store_mod hB4 (by simp) (fun w5 hm5 hB5 => ?_)
      exact ⟨_, rfl, two (.inl h4) w5 (hm4.trans hm5 (fun i hi => .inl hi)) hB5⟩
    refine wif_eq (fun h5 => ?_) (fun h5 => ?_)
    · refine load_blk hX3 rfl ?_
      refine store_mod hB3 (by simp) (fun w4 hm4 hB4 => ?_)
      have hX4 := hX3.mod hm4 (by omega)
      refine load_blk hX4 rfl ?_
      refine store_mod hB4 (by simp) (fun w5 hm5 hB5 => ?_)
      exact ⟨_, rfl, two (.inr h5) w5 (hm4.trans hm5 (fun i hi => .inl hi)) hB5⟩
    · have hm1 : fAr x.o = -1 := by rcases fAr_cases x.o with h | h | h | h <;> omega
      exact ⟨by rw [if_neg (fun hf => by have := hf.1; omega)], hE3⟩
  rintro k w4 ⟨hE4, hX4, hP4, rfl, h0, hv⟩
  have no : ¬ fzP x i → ∀ w', Ext w w' → (Value.int .i64 (-1)) = .int .i64 (if fzP x i then fAr x.o else -1) ∧ Ext w w' := fun h w' hE => ⟨by rw [if_neg h], hE⟩
  have yes : fzP x i → ∀ w', Ext w w' → (Value.int .i64 (fAr x.o)) = .int .i64 (if fzP x i then fAr x.o else -1) ∧ Ext w w' := fun h w' hE => ⟨by rw [if_pos h], hE⟩
  have hcs := fAr_cases x.o
  refine loadN_blk0 hX4 rfl ?_
  refine loadN_blk0 hP4 rfl ?_
  by_cases hp : x.o = (plainOf x).o ∧ x.v = (plainOf x).v ∧ x.a = (plainOf x).a ∧ x.b = (plainOf x).b
  rotate_left
  · refine wif_t (by rw [eq4, decide_eq_false hp]; rfl) ?_
    refine no (fun hf => hp ((plain_eq x).2 ?_)) _ hE4
    obtain ⟨f1, f2, f3, f4⟩ := hf
    split at f2 <;> split at f3 <;> split at f4 <;> omega
  refine wif_f (by rw [eq4, decide_eq_true hp]; rfl) ?_
  have hq := (plain_eq x).1 hp
  have bad : (x.a < 0 ∨ x.b < 0 ∨ (0 < fAr x.o ∧ (i ≤ x.a ∨ i ≤ x.b))) → ¬ fzP x i := fun hb hf => by
    obtain ⟨f1, f2, f3, f4⟩ := hf
    split at f3 <;> split at f4 <;> omega
  refine load_blk hX4 rfl ?_
  refine wif_d (fun h1 => ?_) (fun h1 => ?_)
  · exact no (bad (.inl h1)) _ hE4
  refine load_blk hX4 rfl ?_
  refine wif_d (fun h2 => ?_) (fun h2 => ?_)
  · exact no (bad (.inr (.inl h2))) _ hE4
  refine wif_d (fun h3 => ?_) (fun h3 => ?_)
  · refine load_blk hX4 rfl ?_
    refine load_blk hX4 rfl ?_
    refine norm (m := max x.a x.b) (by rw [Int.max_def]; split <;> split <;> omega) ?_
    refine wif_d (fun h4 => ?_) (fun h4 => ?_)
    · refine no (bad (.inr (.inr ⟨h3, ?_⟩))) _ hE4
      rw [Int.max_def] at h4; split at h4 <;> omega
    · rw [Int.max_def] at h4
      refine yes ⟨h0, ?_, ?_, ?_⟩ _ hE4
      · split
        · rename_i h; exact hv h
        · rename_i h; exact hq.1 h
      · rw [if_pos h3]; split at h4 <;> omega
      · split
        · split at h4 <;> omega
        · exact hq.2.2 (by omega)
  · refine yes ⟨h0, ?_, ?_, ?_⟩ _ hE4
    · split
      · rename_i h; exact hv h
      · rename_i h; exact hq.1 h
    · rw [if_neg h3]; exact hq.2.1 (by omega)
    · rw [if_neg (by omega)]; exact hq.2.2 (by omega)
end

section
open Go Go.RowKit

def boolsV (l : List Bool) : List Value := l.map .bool
theorem boolsV_get {l : List Bool} {j : Nat} {b : Bool} (h : l[j]? = some b) : (boolsV l)[j]? = some (.bool b) := by simp [boolsV, h]
theorem boolsV_length (l : List Bool) : (boolsV l).length = l.length := by simp [boolsV]
theorem boolsV_set (l : List Bool) (i : Nat) (b : Bool) : boolsV (l.set i b) = (boolsV l).set i (.bool b) := by simp [boolsV, List.map_set]
def fKids (x : Fz) : List Nat := if fAr x.o = 2 then [x.a.toNat, x.b.toNat] else if fAr x.o = 1 then [x.a.toNat] else []
def fkids (f : List Fz) : List Nat := f.flatMap fKids
/-- Is this formula valid? -/
def FV (f : List Fz) : Prop := f.length ≤ 512 ∧ 0 < f.length ∧ (∀ i x, f[i]? = some x → fzP x i) ∧ ∀ i, i + 1 < f.length → (fkids f).count i = 1
open Classical in
noncomputable def chkF (f : List Fz) : Int := if FV f then 0 else 30
theorem chkF_ok {f : List Fz} (h : FV f) : chkF f = 0 := if_pos h
theorem chkF_no {f : List Fz} (h : ¬ FV f) : chkF f = 30 := if_neg h
theorem fkids_snoc (d : List Fz) {i : Nat} {x : Fz} (h : d[i]? = some x) : fkids (d.take (i + 1)) = fkids (d.take i) ++ fKids x := by
  simp [fkids, List.take_add_one, h]
theorem fKids_lt {x : Fz} {i : Nat} (h : fzP x i) : ∀ j ∈ fKids x, j < i := by
  intro j hj
  obtain ⟨_, _, h3, h4⟩ := h
  unfold fKids at hj
  split at hj
  · rename_i h2
    rw [if_pos (by omega)] at h3 h4
    simp at hj
    omega
  · split at hj
    · rename_i h2
      rw [if_pos (by omega)] at h3
      simp at hj
      omega
    · simp at hj
theorem fkids_lt {d : List Fz} {i : Nat} (h : ∀ j x, j < i → d[j]? = some x → fzP x j) : ∀ j ∈ fkids (d.take i), j + 1 < i := by
  intro j hj
  simp only [fkids, List.mem_flatMap] at hj
  obtain ⟨x, hx, hk⟩ := hj
  obtain ⟨m, hm, hx'⟩ := List.mem_iff_getElem.1 hx
  have hlen : m < i := by simp at hm; omega
  have hx2 : d[m]? = some x := by
    rw [List.getElem_take] at hx'
    rw [← hx']
    exact List.getElem?_eq_getElem _
  have := fKids_lt (h m x hlen hx2) j hk
  omega

/-- Which of the first n numbers are in the list. -/
def usedL (l : List Nat) (n : Nat) : List Bool := (List.range n).map fun j => decide (j ∈ l)
theorem usedL_get (l : List Nat) (n j : Nat) (hj : j < n) : (usedL l n)[j]? = some (decide (j ∈ l)) := by simp [usedL, hj]
theorem usedL_len (l : List Nat) (n : Nat) : (usedL l n).length = n := by simp [usedL]
theorem usedL_set (l : List Nat) (n k : Nat) : (usedL l n).set k true = usedL (l ++ [k]) n := by
  unfold usedL
  apply List.ext_getElem
  · simp
  · intro i h1 h2
    simp at h1
    simp only [List.getElem_set, List.getElem_map, List.getElem_range, List.mem_append, List.mem_singleton]
    split
    · rename_i h; subst h; simp
    · rename_i h
      have : ¬ i = k := fun e => h e.symm
      simp [this]
theorem usedL_nil (n : Nat) : usedL [] n = List.replicate n false := by
  apply List.ext_getElem
  · simp [usedL]
  · intro i h1 h2; simp [usedL]

theorem nFV_nd {d : List Fz} {s : Nat} {x : Fz} (hx : d[s]? = some x) (h : ¬ fzP x s) : ¬ FV d := fun hv => h (hv.2.2.1 s x hx)
theorem nFV_dup {d : List Fz} {s : Nat} (hnd : ∀ j x, j < s → d[j]? = some x → fzP x j) (hs : s ≤ d.length) (h : ¬ (fkids (d.take s)).Nodup) : ¬ FV d := fun hv => by
  apply h
  rw [List.nodup_iff_count]
  intro a
  by_cases ha : a ∈ fkids (d.take s)
  · have h1 := fkids_lt hnd a ha
    have h2 := hv.2.2.2 a (by omega)
    rw [← h2]
    have hsub : (fkids (d.take s)).Sublist (fkids d) := by
      have : fkids d = fkids (d.take s) ++ fkids (d.drop s) := by
        unfold fkids
        rw [← List.flatMap_append, List.take_append_drop]
      rw [this]
      exact List.sublist_append_left _ _
    exact hsub.count_le a
  · rw [List.count_eq_zero.2 ha]; omega
theorem FV_of {d : List Fz} (h1 : d.length ≤ 512) (h2 : 0 < d.length) (hnd : ∀ j x, j < d.length → d[j]? = some x → fzP x j) (hn : (fkids d).Nodup) (hu : ∀ j, j + 1 < d.length → j ∈ fkids d) : FV d :=
  ⟨h1, h2, fun i x hx => hnd i x (List.getElem?_eq_some_iff.1 hx).1 hx, fun i hi => by
    have h3 := List.nodup_iff_count.1 hn i
    have h4 := List.count_pos_iff.2 (hu i hi)
    omega⟩

theorem new_eq {w : World} {t : TypeId} {cs cs' : List Value} {K : Addr → World → Prop} (h : cs = cs') (k : ∀ w1, Ext w w1 → w1.heap.size = w.heap.size + 1 → Blk w1 w.heap.size t cs' → K ⟨w.heap.size, 0, none⟩ w1) : New w t cs K := by
  subst h; exact new k

abbrev SF (w : World) (A : Option Addr) (n c : Nat) (f : List Fz) : Prop := SlS Fz.cells 4 w A n c f

/-- The operands of a node, as the program lists them. -/
def opds (x : Fz) : List Int := [x.a, x.b].take (fAr x.o).toNat
theorem opds_kids {x : Fz} {i : Nat} (h : fzP x i) : (opds x).length = (fAr x.o).toNat ∧ ∀ j : Nat, ∀ a : Int, (opds x)[j]? = some a → 0 ≤ a ∧ a < i ∧ (fKids x)[j]? = some a.toNat := by
  obtain ⟨h1, _, h3, h4⟩ := h
  unfold opds fKids
  rcases fAr_cases x.o with ⟨_, e⟩ | ⟨_, e⟩ | ⟨_, e⟩ | ⟨e, _⟩
  · rw [e]; simp
  · rw [e] at h3 ⊢
    simp at h3
    simp
    intro j a ha
    cases j with
    | zero => simp at ha; subst ha; simp; omega
    | succ j => simp at ha
  · rw [e] at h3 h4 ⊢
    simp at h3 h4
    simp
    intro j a ha
    match j, ha with
    | 0, ha => simp at ha; subst ha; simp; omega
    | 1, ha => simp at ha; subst ha; simp; omega
    | j + 2, ha => simp at ha
  · rw [e] at h1; omega
theorem fKids_len (x : Fz) (_ : 0 ≤ fAr x.o) : (fKids x).length = (fAr x.o).toNat := by
  unfold fKids
  rcases fAr_cases x.o with ⟨_, e⟩ | ⟨_, e⟩ | ⟨_, e⟩ | ⟨e, _⟩ <;> rw [e] <;> first | rfl | omega
end

section
open Go Go.RowKit

theorem check_fn (A : Option Addr) (n c : Nat) (f : List Fz) (w : World) (h : SF w A n c f) :
    Fn Tryz.prog 147 [.slice A n c] w (fun v w' => v = .int .i64 (chkF f) ∧ Ext w w') := by
  have hlen := h.2
  refine fn_of_exec (c := { c147 with cuts := [4] }) gx_ok Tryz.func147 rfl rfl rfl ?_
  refine wif_eq (fun h1 => ?_) (fun h1 => ?_)
  · exact ⟨by rw [chkF_no (fun hv => by have := hv.2.1; omega)], Ext.refl w⟩
  refine wif_d (fun h2 => ?_) (fun h2 => ?_)
  · exact ⟨by rw [chkF_no (fun hv => by have := hv.1; omega)], Ext.refl w⟩
  refine new_eq (cs' := boolsV (List.replicate 512 false)) (by kernel_rfl) (fun w1 hE1 hz1 hB1 => ?_)
  rw [← usedL_nil] at hB1
  refine cutIn [] gx_ok [] (fun _ : Unit => []) (fun _ w' => Ext w w' ∧ Blk w' w.heap.size 232 (boolsV (usedL (fkids f) 512)) ∧ (∀ j x, j < n → f[j]? = some x → fzP x j) ∧ (fkids f).Nodup) ?_ ?_
  · refine loop gx_ok [20] (fun s : Nat => [.int .i64 s]) (fun s w' => Ext w w' ∧ Blk w' w.heap.size 232 (boolsV (usedL (fkids (f.take s)) 512)) ∧ s ≤ n ∧ (∀ j x, j < s → f[j]? = some x → fzP x j) ∧ (fkids (f.take s)).Nodup) (fun s _ => n - s) 0 rfl ⟨hE1, hB1, Nat.zero_le _, fun j x hj => absurd hj (by omega), by simp [fkids]⟩ ?_
    rintro s w2 ⟨hE2, hU2, hs, hnd, hnn⟩
    refine wif_d (fun h3 => ?_) (fun h3 => ?_)
    · refine index_sls fz_len (h.ext hE2) rfl (by omega) (fun p x hx hc => ?_)
      refine loadN_at (vs := x.cells) rfl hc ?_
      refine new (fun w3 hE3 hz3 hB3 => ?_)
      refine storeN_blk0 hB3 rfl (sc rfl) (fun w4 hg4 hz4 hB4 => ?_)
      have hE24 : Ext w2 w4 := newBox hE3 hB3 hg4
      have hE4 := hE2.trans hE24
      have hU4 := hU2.ext hE24
      refine loadN_blk0 hB4 rfl ?_
      refine call (arity_fn x s w4) ?_
      rintro v w5 ⟨rfl, hE5⟩
      have hB5 := hB4.ext hE5
      have bad : ¬ (fzP x s ∧ (fkids (f.take (s + 1))).Nodup) → chkF f = 30 := fun hno => by
        refine chkF_no ?_
        by_cases hx1 : fzP x s
        · refine nFV_dup (s := s + 1) (fun j y hj hy => ?_) (by omega) (fun h => hno ⟨hx1, h⟩)
          by_cases hjs : j < s
          · exact hnd j y hjs hy
          · have : j = s := by omega
            subst this
            rw [Option.some.inj (hy.symm.trans hx)]; exact hx1
        · exact nFV_nd hx hx1
      by_cases hxp : ¬ fzP x s
      · refine wif_dt (by rw [if_neg hxp]; decide) ?_
        exact ⟨by rw [bad (fun hh => hxp hh.1)], hE4.trans hE5⟩
      replace hxp := Decidable.not_not.1 hxp
      have h0 := hxp.1
      have e5 : (if fzP x s then fAr x.o else -1) = ((fAr x.o).toNat : Int) := by rw [if_pos hxp]; omega
      rw [e5]
      refine wif_df (by omega) ?_
      refine load_blk hB5 rfl ?_
      refine load_blk hB5 rfl ?_
      refine at_build2 gx_ok rfl rfl rfl rfl rfl rfl rfl rfl rfl rfl (fun w6 hE6 hz6 hB6 => ?_)
      have har : (fAr x.o).toNat ≤ 2 := by rcases fAr_cases x.o with h | h | h | h <;> omega
      refine at_slice_h gx_ok rfl rfl rfl rfl rfl rfl har ?_
      have hE56 := hE5.trans hE6
      have hU6 := hU4.ext hE56
      have hE06 := hE4.trans hE56
      obtain ⟨ol, ok⟩ := opds_kids hxp
      have hfl := fKids_len x h0
      have hsl : Sl w6 1 (some ⟨w5.heap.size, 0, none⟩) (fAr x.o).toNat 2 ((opds x).map (Value.int .i64)) := by
        have := Sl.own (sz := 1) (n := (fAr x.o).toNat) (c := 2) hB6 har (by decide) (by simpa using har)
        rw [Nat.mul_one] at this
        simpa [opds, List.map_take] using this
      have hkz : fkids (f.take (s + 1)) = fkids (f.take s) ++ fKids x := fkids_snoc f hx
      refine loop gx_ok [38] (fun t : Nat => [.int .i64 t]) (fun t w' => Mod (· = w.heap.size) w6 w' ∧ Blk w' w.heap.size 232 (boolsV (usedL (fkids (f.take s) ++ (fKids x).take t) 512)) ∧ t ≤ (fAr x.o).toNat ∧ (fkids (f.take s) ++ (fKids x).take t).Nodup) (fun t _ => (fAr x.o).toNat - t) 0 rfl ⟨Mod.refl _ _, by simpa using hU6, Nat.zero_le _, by simpa using hnn⟩ ?_
      rintro t w7 ⟨hm7, hU7, ht, hn7⟩
      have hE7 : Ext w w7 := hm7.ext hE06 (fun i hi => by omega)
      refine wif_d (fun h7 => ?_) (fun h7 => ?_)
      · have htl : t < (opds x).length := by omega
        have hot : (opds x)[t]? = some (opds x)[t] := List.getElem?_eq_getElem htl
        generalize (opds x)[t] = a at hot
        obtain ⟨a0, ai, ak⟩ := ok t a hot
        refine index_sl hsl (by omega) (fun ad u hA hu hcell => ?_)
        simp only [List.getElem?_map, hot, Option.map_some] at hu
        cases hu
        have hcell7 : w7.cell? (ad.add t) = some (.int .i64 a) := World.grownBy.cell (hm7.grown (row := some w.heap.size) (fun i hi => by rw [hi])) hcell (by
          rw [block_add]
          cases hA
          intro e
          have := (Option.some.inj e)
          have := hE4.size
          have := hE5.size
          have := hE1.size
          have := hU2.lt
          simp only at *
          omega)
        refine load hcell7 ?_
        have hal : a.toNat < 512 := by omega
        refine index_i (j := a.toNat) (by omega) hal ?_
        refine load_blk hU7 (boolsV_get (usedL_get _ _ _ hal)) ?_
        have htk : (fKids x).take (t + 1) = (fKids x).take t ++ [a.toNat] := by rw [List.take_add_one, ak]; rfl
        refine wif_d (fun h8 => ?_) (fun h8 => ?_)
        · refine ⟨?_, hE7⟩
          rw [bad]
          rintro ⟨_, hnd2⟩
          rw [hkz] at hnd2
          have hsub : (fkids (f.take s) ++ (fKids x).take (t + 1)).Nodup := hnd2.sublist ((List.Sublist.refl _).append (List.take_sublist _ _))
          rw [htk, ← List.append_assoc, List.nodup_append] at hsub
          exact hsub.2.2 _ h8 _ (by simp) rfl
        · refine index_i (j := a.toNat) (by omega) hal ?_
          refine store_mod hU7 (by rw [boolsV_length, usedL_len]; exact hal) (fun w8 hm8 hB8 => ?_)
          rw [← boolsV_set, usedL_set, List.append_assoc, ← htk] at hB8
          refine norm_i64_to ((t + 1 : Nat) : Int) (by omega) (by omega) ?_
          refine ⟨t + 1, rfl, ⟨hm7.trans hm8 (fun i hi => .inl hi), hB8, by omega, ?_⟩, by show (fAr x.o).toNat - (t + 1) < (fAr x.o).toNat - t; omega⟩
          rw [htk, ← List.append_assoc, List.nodup_append]
          refine ⟨hn7, by simp, fun u hu v hv e => ?_⟩
          simp only [List.mem_singleton] at hv
          subst hv; subst e
          exact h8 hu
      · have e : (fKids x).take t = fKids x := List.take_of_length_le (by omega)
        rw [e, ← hkz] at hU7 hn7
        refine norm_i64_to ((s + 1 : Nat) : Int) (by omega) (by omega) ?_
        refine ⟨s + 1, rfl, ⟨hE7, hU7, by omega, fun j y hj hy => ?_, hn7⟩, by show n - (s + 1) < n - s; omega⟩
        by_cases hjs : j < s
        · exact hnd j y hjs hy
        · have : j = s := by omega
          subst this
          rw [Option.some.inj (hy.symm.trans hx)]; exact hxp
    · have : s = n := by omega
      subst this
      rw [List.take_of_length_le (by omega)] at hU2 hnn
      exact ⟨(), rfl, hE2, hU2, hnd, hnn⟩
  rintro ⟨⟩ w2 ⟨hE2, hU2, hnd, hnn⟩
  refine norm_i64_to ((n - 1 : Nat) : Int) (by omega) (by omega) ?_
  refine at_slice_h gx_ok rfl rfl rfl rfl rfl rfl (by have := h.1.le; omega) ?_
  refine loop gx_ok [55] (fun s : Nat => [.int .i64 s]) (fun s w' => w2 = w' ∧ s ≤ n - 1 ∧ ∀ j, j < s → j ∈ fkids f) (fun s _ => n - s) 0 rfl ⟨rfl, Nat.zero_le _, fun j hj => absurd hj (by omega)⟩ ?_
  rintro s _ ⟨rfl, hs, hu⟩
  refine wif_d (fun h3 => ?_) (fun h3 => ?_)
  · refine index (by omega) ?_
    refine load_blk hU2 (boolsV_get (usedL_get _ _ s (by omega))) ?_
    refine wif_not (wif_d (fun hm => ?_) (fun hm => ?_))
    · refine norm_i64_to ((s + 1 : Nat) : Int) (by omega) (by omega) ?_
      refine ⟨s + 1, rfl, ⟨rfl, by omega, fun j hj => ?_⟩, by show n - (s + 1) < n - s; omega⟩
      by_cases hjs : j < s
      · exact hu j hjs
      · have : j = s := by omega
        rw [this]; exact hm
    · refine ⟨?_, hE2⟩
      rw [chkF_no (fun hv => ?_)]
      have := hv.2.2.2 s (by omega)
      rw [List.count_eq_zero.2 hm] at this
      cases this
  · exact ⟨by rw [chkF_ok (FV_of (by omega) (by omega) (fun j x hj hx => hnd j x (by omega) hx) hnn (fun j hj => hu j (by omega)))], hE2⟩
end
end
end Go.Proofs.YtedopgkbajhanaaGreatDoor

namespace Go.Proofs.YtedopgkbajhanaaGreatDoor
section
section
open Go Go.RowKit

/-- A formula. -/
inductive Fm where
  | c (b : Bool)
  | v (n : Nat)
  | not (a : Fm)
  | and (a b : Fm)
  | or (a b : Fm)
deriving DecidableEq

/-- The nodes show this formula at i. -/
def RepF (f : List Fz) : Fm → Nat → Prop
  | .c b, i => f[i]? = some ⟨if b then 1 else 0, 0, 0, 0⟩
  | .v n, i => f[i]? = some ⟨2, (n : Nat), 0, 0⟩
  | .not a, i => ∃ j : Nat, j < i ∧ f[i]? = some ⟨3, 0, (j : Nat), 0⟩ ∧ RepF f a j
  | .and a b, i => ∃ j k : Nat, j < i ∧ k < i ∧ f[i]? = some ⟨4, 0, (j : Nat), (k : Nat)⟩ ∧ RepF f a j ∧ RepF f b k
  | .or a b, i => ∃ j k : Nat, j < i ∧ k < i ∧ f[i]? = some ⟨5, 0, (j : Nat), (k : Nat)⟩ ∧ RepF f a j ∧ RepF f b k

theorem fz_form {x : Fz} {i : Nat} (h : fzP x i) : (x = ⟨0, 0, 0, 0⟩) ∨ (x = ⟨1, 0, 0, 0⟩) ∨ (∃ n : Nat, n < 64 ∧ x = ⟨2, n, 0, 0⟩) ∨ (∃ j : Nat, j < i ∧ x = ⟨3, 0, j, 0⟩) ∨ (∃ j k : Nat, j < i ∧ k < i ∧ (x = ⟨4, 0, j, k⟩ ∨ x = ⟨5, 0, j, k⟩)) := by
  obtain ⟨o, v, a, b⟩ := x
  obtain ⟨h1, h2, h3, h4⟩ := h
  simp only at h1 h2 h3 h4
  rcases fAr_cases o with ⟨ho, e⟩ | ⟨ho, e⟩ | ⟨ho, e⟩ | ⟨e, _⟩
  · rw [if_neg (by omega)] at h3 h4
    subst h3; subst h4
    rcases ho with rfl | rfl | rfl
    · rw [if_neg (by omega)] at h2; subst h2; exact .inl rfl
    · rw [if_neg (by omega)] at h2; subst h2; exact .inr (.inl rfl)
    · rw [if_pos rfl] at h2
      refine .inr (.inr (.inl ⟨v.toNat, by omega, ?_⟩))
      rw [Int.toNat_of_nonneg h2.1]
  · rw [if_pos (by omega)] at h3
    rw [if_neg (by omega)] at h4 h2
    subst ho; subst h4; subst h2
    refine .inr (.inr (.inr (.inl ⟨a.toNat, by omega, ?_⟩)))
    rw [Int.toNat_of_nonneg h3.1]
  · rw [if_pos (by omega)] at h3 h4
    rw [if_neg (by omega)] at h2
    subst h2
    refine .inr (.inr (.inr (.inr ⟨a.toNat, b.toNat, by omega, by omega, ?_⟩)))
    rw [Int.toNat_of_nonneg h3.1, Int.toNat_of_nonneg h4.1]
    rcases ho with rfl | rfl
    · exact .inl rfl
    · exact .inr rfl
  · omega
theorem rep_of {f : List Fz} (h : ∀ i x, f[i]? = some x → fzP x i) : ∀ i, i < f.length → ∃ t, RepF f t i := by
  intro i
  induction i using Nat.strongRecOn with
  | _ i ih =>
    intro hi
    have hx := List.getElem?_eq_getElem hi
    rcases fz_form (h i _ hx) with e | e | ⟨n, _, e⟩ | ⟨j, hj, e⟩ | ⟨j, k, hj, hk, e⟩
    · exact ⟨.c false, by rw [e] at hx; exact hx⟩
    · exact ⟨.c true, by rw [e] at hx; exact hx⟩
    · exact ⟨.v n, by rw [e] at hx; exact hx⟩
    · obtain ⟨a, ha⟩ := ih j hj (by omega)
      exact ⟨.not a, j, hj, by rw [e] at hx; exact hx, ha⟩
    · obtain ⟨a, ha⟩ := ih j hj (by omega)
      obtain ⟨b, hb⟩ := ih k hk (by omega)
      rcases e with e | e
      · exact ⟨.and a b, j, k, hj, hk, by rw [e] at hx; exact hx, ha, hb⟩
      · exact ⟨.or a b, j, k, hj, hk, by rw [e] at hx; exact hx, ha, hb⟩
def lvlF : Fm → Nat
  | .or _ _ => 0
  | .and _ _ => 1
  | _ => 2
def parF (b : Bool) (s : List Nat) : List Nat := if b then 40 :: s ++ [41] else s
/-- What is printed, without the outer parentheses. -/
def prC (nm : List (List Nat)) : Fm → List Nat
  | .c b => if b then trueL else falseL
  | .v n => nm[n]?.getD []
  | .not a => 33 :: parF (decide (lvlF a < 2)) (prC nm a)
  | .and a b => parF (decide (lvlF a < 1)) (prC nm a) ++ [32, 38, 38, 32] ++ parF (decide (lvlF b < 2)) (prC nm b)
  | .or a b => parF (decide (lvlF a < 0)) (prC nm a) ++ [32, 124, 124, 32] ++ parF (decide (lvlF b < 1)) (prC nm b)
def prF (nm : List (List Nat)) (least : Nat) (t : Fm) : List Nat := parF (decide (lvlF t < least)) (prC nm t)
/-- Every condition has a name. -/
def VarsIn (n : Nat) : Fm → Prop
  | .c _ => True
  | .v k => k < n
  | .not a => VarsIn n a
  | .and a b => VarsIn n a ∧ VarsIn n b
  | .or a b => VarsIn n a ∧ VarsIn n b

end

section
open Go Go.RowKit

theorem liesB0 : LiesB 86 2 := by unfold LiesB; kernel_rfl

def szF : Fm → Nat
  | .c _ => 1
  | .v _ => 1
  | .not a => szF a + 1
  | .and a b => szF a + szF b + 1
  | .or a b => szF a + szF b + 1

def opF : Fm → Int
  | .c b => if b then 1 else 0
  | .v _ => 2
  | .not _ => 3
  | .and _ _ => 4
  | .or _ _ => 5
theorem RepF.node {f : List Fz} {t : Fm} {i : Nat} (h : RepF f t i) : ∃ x, f[i]? = some x ∧ x.o = opF t := by
  cases t with
  | c b => exact ⟨_, h, rfl⟩
  | v n => exact ⟨_, h, rfl⟩
  | not a => obtain ⟨j, _, h, _⟩ := h; exact ⟨_, h, rfl⟩
  | and a b => obtain ⟨j, k, _, _, h, _⟩ := h; exact ⟨_, h, rfl⟩
  | or a b => obtain ⟨j, k, _, _, h, _⟩ := h; exact ⟨_, h, rfl⟩

end

section
open Go Go.RowKit

theorem cast_inj3 {o v a b o' v' a' b' : Int} (h : (⟨o, v, a, b⟩ : Fz) = ⟨o', v', a', b'⟩) : o = o' ∧ v = v' ∧ a = a' ∧ b = b' := by cases h; exact ⟨rfl, rfl, rfl, rfl⟩
theorem RepF.det {f : List Fz} : ∀ {t t' : Fm} {i : Nat}, RepF f t i → RepF f t' i → t = t' := by
  intro t
  induction t with
  | c b =>
    intro t' i h h'
    obtain ⟨x, hx, ho⟩ := RepF.node h
    obtain ⟨x', hx', ho'⟩ := RepF.node h'
    have e := Option.some.inj (hx.symm.trans hx')
    rw [← e, ho] at ho'
    cases t' with
    | c b' => cases b <;> cases b' <;> first | rfl | (simp [opF] at ho')
    | v n => cases b <;> simp [opF] at ho'
    | not a => cases b <;> simp [opF] at ho'
    | and a c => cases b <;> simp [opF] at ho'
    | or a c => cases b <;> simp [opF] at ho'
  | v n =>
    intro t' i h h'
    obtain ⟨x', hx', ho'⟩ := RepF.node h'
    have e := Option.some.inj (hx'.symm.trans h)
    rw [e] at ho'
    cases t' with
    | c b' => cases b' <;> simp [opF] at ho'
    | v n' =>
      have := cast_inj3 (Option.some.inj (h.symm.trans h'))
      congr 1; omega
    | not a => simp [opF] at ho'
    | and a c => simp [opF] at ho'
    | or a c => simp [opF] at ho'
  | not a iha =>
    intro t' i h h'
    obtain ⟨j, hj, hx, ha⟩ := h
    obtain ⟨x', hx', ho'⟩ := RepF.node h'
    have e := Option.some.inj (hx'.symm.trans hx)
    rw [e] at ho'
    cases t' with
    | c b' => cases b' <;> simp [opF] at ho'
    | v n' => simp [opF] at ho'
    | not a' =>
      obtain ⟨j', hj', hx'', ha'⟩ := h'
      have := cast_inj3 (Option.some.inj (hx.symm.trans hx''))
      have ej : j = j' := by omega
      subst ej
      rw [iha ha ha']
    | and a c => simp [opF] at ho'
    | or a c => simp [opF] at ho'
  | and a b iha ihb =>
    intro t' i h h'
    obtain ⟨j, k, hj, hk, hx, ha, hb⟩ := h
    obtain ⟨x', hx', ho'⟩ := RepF.node h'
    have e := Option.some.inj (hx'.symm.trans hx)
    rw [e] at ho'
    cases t' with
    | c b' => cases b' <;> simp [opF] at ho'
    | v n' => simp [opF] at ho'
    | not a' => simp [opF] at ho'
    | and a' b' =>
      obtain ⟨j', k', hj', hk', hx'', ha', hb'⟩ := h'
      have := cast_inj3 (Option.some.inj (hx.symm.trans hx''))
      have ej : j = j' := by omega
      have ek : k = k' := by omega
      subst ej; subst ek
      rw [iha ha ha', ihb hb hb']
    | or a c => simp [opF] at ho'
  | or a b iha ihb =>
    intro t' i h h'
    obtain ⟨j, k, hj, hk, hx, ha, hb⟩ := h
    obtain ⟨x', hx', ho'⟩ := RepF.node h'
    have e := Option.some.inj (hx'.symm.trans hx)
    rw [e] at ho'
    cases t' with
    | c b' => cases b' <;> simp [opF] at ho'
    | v n' => simp [opF] at ho'
    | not a' => simp [opF] at ho'
    | and a c => simp [opF] at ho'
    | or a' b' =>
      obtain ⟨j', k', hj', hk', hx'', ha', hb'⟩ := h'
      have := cast_inj3 (Option.some.inj (hx.symm.trans hx''))
      have ej : j = j' := by omega
      have ek : k = k' := by omega
      subst ej; subst ek
      rw [iha ha ha', ihb hb hb']

open Classical in
/-- The formula that a list of nodes shows. -/
noncomputable def treeOf (f : List Fz) : Fm := if h : ∃ t, RepF f t (f.length - 1) then h.choose else .c false
theorem treeOf_eq {f : List Fz} {t : Fm} (h : RepF f t (f.length - 1)) : treeOf f = t := by
  have hex : ∃ t, RepF f t (f.length - 1) := ⟨t, h⟩
  unfold treeOf
  rw [dif_pos hex]
  exact RepF.det hex.choose_spec h
def varsOk (n : Nat) (f : List Fz) : Prop := ∀ x ∈ f, x.o = 2 → x.v < n
end
end
end Go.Proofs.YtedopgkbajhanaaGreatDoor

namespace Go.Proofs.YtedopgkbajhanaaGreatDoor
section
section
open Go Go.RowKit

/-- A branch. -/
structure Br where
  v : Int
  l : Int
  h : Int
deriving DecidableEq
def Br.cells (x : Br) : List Value := [.int .i64 x.v, .int .i64 x.l, .int .i64 x.h]
theorem br_len (x : Br) : x.cells.length = 3 := rfl
abbrev SB (w : World) (A : Option Addr) (n c : Nat) (d : List Br) : Prop := SlS Br.cells 3 w A n c d
def dgV (A : Option Addr) (n c : Nat) (r : Int) : Value := .agg #[.slice A n c, .int .i64 r]

/-- The condition of a number. -/
def lvlD (d : List Br) (n : Int) : Int := if n < 2 then 64 else (d[(n - 2).toNat]?.map (·.v)).getD 64

/-- The walk that numbers branches in the order in which it leaves them. -/
def vis (nd : List Br) : Nat → Int → List Br × List Nat → Int × (List Br × List Nat)
  | 0, n, st => (n, st)
  | m + 1, n, st => if n < 2 then (n, st) else
      if 0 < st.2[(n - 2).toNat]?.getD 0 then ((st.2[(n - 2).toNat]?.getD 0 : Nat), st) else
        match nd[(n - 2).toNat]? with
        | none => (n, st)
        | some x =>
          let a := vis nd m x.l st
          let b := vis nd m x.h a.2
          (((b.2.1.length + 2 : Nat) : Int), (b.2.1 ++ [⟨x.v, a.1, b.1⟩], b.2.2.set (n - 2).toNat (b.2.1.length + 2)))
def numberedD (nd : List Br) (r : Int) : List Br × Int := let a := vis nd (r.toNat + 1) r ([], List.replicate nd.length 0); (a.2.1, a.1)

/-- Children come before their branches. -/
def WfB (nd : List Br) : Prop := ∀ (j : Nat) (x : Br), nd[j]? = some x → 0 ≤ x.l ∧ x.l < j + 2 ∧ 0 ≤ x.h ∧ x.h < j + 2
def brOk (nd : List Br) (j : Nat) (b : Br) : Prop := 0 ≤ b.v ∧ b.v ≤ 63 ∧ 0 ≤ b.l ∧ b.l < j + 2 ∧ 0 ≤ b.h ∧ b.h < j + 2 ∧ b.l ≠ b.h ∧ b ∉ nd.take j ∧ b.v < lvlD nd b.l ∧ b.v < lvlD nd b.h
def VD (nd : List Br) (r : Int) : Prop := (∀ (j : Nat) (b : Br), nd[j]? = some b → brOk nd j b) ∧ 0 ≤ r ∧ r < nd.length + 2 ∧ numberedD nd r = (nd, r)
open Classical in
noncomputable def chkD (nd : List Br) (r : Int) : Int := if 4096 < nd.length then 2 else if VD nd r then 0 else 20
theorem chkD_large {nd : List Br} {r : Int} (h : 4096 < nd.length) : chkD nd r = 2 := if_pos h
theorem chkD_ok {nd : List Br} {r : Int} (h : ¬ 4096 < nd.length) (k : VD nd r) : chkD nd r = 0 := (if_neg h).trans (if_pos k)
theorem chkD_no {nd : List Br} {r : Int} (h : ¬ 4096 < nd.length) (k : ¬ VD nd r) : chkD nd r = 20 := (if_neg h).trans (if_neg k)
theorem chkD_zero {nd : List Br} {r : Int} : chkD nd r = 0 ↔ ¬ 4096 < nd.length ∧ VD nd r := by
  constructor
  · intro h
    unfold chkD at h
    split at h
    · cases h
    · split at h
      · exact ⟨by assumption, by assumption⟩
      · cases h
  · exact fun h => chkD_ok h.1 h.2
theorem VD.wf {nd : List Br} {r : Int} (h : VD nd r) : WfB nd := fun j x hx => by
  obtain ⟨_, _, h1, h2, h3, h4, _⟩ := h.1 j x hx
  exact ⟨h1, h2, h3, h4⟩

theorem level_fn (A : Option Addr) (n c : Nat) (r m : Int) (nd : List Br) (w : World) (h : SB w A n c nd) (hm : m < n + 2) :
    Fn Tryz.prog 94 [dgV A n c r, .int .i64 m] w (fun v w' => v = .int .i64 (lvlD nd m) ∧ Ext w w') := by
  have hlen := h.2
  refine fn_of_exec (c := { c94 with cuts := [] }) gx_ok Tryz.func94 rfl rfl rfl ?_
  refine new (fun w1 hE1 hz1 hB1 => ?_)
  refine wif_d (fun h1 => ?_) (fun h1 => ?_)
  · exact ⟨by unfold lvlD; rw [if_pos h1], hE1⟩
  · refine load_blk0 hB1 rfl ?_
    refine norm_i64_to (((m - 2).toNat : Nat) : Int) (by omega) (by have := h.1.le; have := h.1.cap; simp only [maxLen] at this; omega) ?_
    refine index_sls br_len (h.ext hE1) rfl (by omega) (fun p x hx hc => ?_)
    refine load (hc 0 _ rfl) ?_
    exact ⟨by unfold lvlD; rw [if_neg h1, hx]; rfl, hE1⟩

theorem eq3 (a b c a' b' c' : Int) : (a == a' && (b == b' && (c == c' && true))) = decide (a = a' ∧ b = b' ∧ c = c') := by
  rw [Bool.eq_iff_iff]
  simp only [Bool.and_eq_true, beq_iff_eq, decide_eq_true_eq, and_true]
theorem br_eq {x y : Br} : x = y ↔ x.v = y.v ∧ x.l = y.l ∧ x.h = y.h := by
  constructor
  · rintro rfl; exact ⟨rfl, rfl, rfl⟩
  · obtain ⟨a, b, c⟩ := x; obtain ⟨d, e, f⟩ := y
    rintro ⟨rfl, rfl, rfl⟩; rfl

theorem list_ne {α : Type} {l l' : List α} {j : Nat} {x y : α} (hx : l[j]? = some x) (hy : l'[j]? = some y) (h : x ≠ y) : l ≠ l' := fun e => by subst e; exact h (Option.some.inj (hx.symm.trans hy))
theorem list_eq {α : Type} {l l' : List α} {n : Nat} (h1 : l.length = n) (h2 : l'.length = n) (h : ∀ j, j < n → l[j]? = l'[j]?) : l = l' := by
  apply List.ext_getElem?
  intro j
  by_cases hj : j < n
  · exact h j hj
  · rw [List.getElem?_eq_none (by omega), List.getElem?_eq_none (by omega)]

theorem equal_fn (A B : Option Addr) (n c m e : Nat) (l l' : List Br) (w : World) (h : SB w A n c l) (h' : SB w B m e l') :
    Fn Tryz.prog 66 [.slice A n c, .slice B m e] w (fun v w' => v = .bool (decide (l = l')) ∧ Ext w w') := by
  have hl := h.2
  have hl' := h'.2
  refine fn_of_exec (c := { c66 with cuts := [] }) gx_ok Tryz.func66 rfl rfl rfl ?_
  refine wif_ne (fun h1 => ?_) (fun h1 => ?_)
  · exact ⟨by rw [decide_eq_false (fun e => by subst e; omega)], Ext.refl w⟩
  refine loop gx_ok [13] (fun s : Nat => [.int .i64 s]) (fun s w' => Ext w w' ∧ s ≤ n ∧ ∀ j, j < s → l[j]? = l'[j]?) (fun s _ => n - s) 0 rfl ⟨Ext.refl w, Nat.zero_le _, fun j hj => absurd hj (by omega)⟩ ?_
  rintro s w1 ⟨hE1, hs, hall⟩
  refine wif_d (fun h2 => ?_) (fun h2 => ?_)
  · refine draw_plan gx_ok (Ext w1) 9 [(true, 0), (true, 1), (true, 2), (true, 3), (true, 4), (true, 5), (true, 6), (true, 7), (true, 8)] (by kernel_rfl) (Ext.drew w1) ?_
    refine index_sls br_len (h.ext hE1) rfl (by omega) (fun p x hx hc => ?_)
    refine qloadN (vs := x.cells) rfl (fun w' hw' j v hj => hw'.cell (hc j v hj)) ?_
    refine index_sls br_len (h'.ext hE1) rfl (by omega) (fun q y hy hc' => ?_)
    refine qloadN (vs := y.cells) rfl (fun w' hw' j v hj => hw'.cell (hc' j v hj)) ?_
    have hEd := hE1.trans (Ext.drew w1)
    by_cases hxy : x = y
    · refine wif_f (by rw [eq3, decide_eq_true (br_eq.1 hxy)]; rfl) ?_
      refine norm_i64_to ((s + 1 : Nat) : Int) (by omega) (by have := h.1.le; have := h.1.cap; simp only [maxLen] at this; omega) ?_
      refine ⟨s + 1, rfl, ⟨hEd, by omega, fun j hj => ?_⟩, by show n - (s + 1) < n - s; omega⟩
      by_cases hjs : j < s
      · exact hall j hjs
      · have : j = s := by omega
        subst this
        rw [hx, hy, hxy]
    · refine wif_t (by rw [eq3, decide_eq_false (fun e => hxy (br_eq.2 e))]; rfl) ?_
      exact ⟨by rw [decide_eq_false (list_ne hx hy hxy)], hEd⟩
  · exact ⟨by rw [decide_eq_true (list_eq hl (by omega) (fun j hj => hall j (by omega)))], hE1⟩

theorem same_fn (A B : Option Addr) (n c m e : Nat) (l l' : List Br) (r r' : Int) (w : World) (h : SB w A n c l) (h' : SB w B m e l') :
    Fn Tryz.prog 37 [dgV A n c r, dgV B m e r'] w (fun v w' => v = .bool (decide ((l, r) = (l', r'))) ∧ Ext w w') := by
  refine fn_of_exec (c := { c37 with cuts := [] }) gx_ok Tryz.func37 rfl rfl rfl ?_
  refine new (fun w1 hE1 hz1 hB1 => ?_)
  refine new (fun w2 hE2 hz2 hB2 => ?_)
  have hB12 := hB1.ext hE2
  have hE02 := hE1.trans hE2
  refine load_blk hB12 rfl ?_
  refine load_blk hB2 rfl ?_
  refine wif_eq (fun h1 => ?_) (fun h1 => ?_)
  · refine load_blk0 hB12 rfl ?_
    refine load_blk0 hB2 rfl ?_
    refine call (equal_fn A B n c m e l l' w2 (h.ext hE02) (h'.ext hE02)) ?_
    rintro v w3 ⟨rfl, hE3⟩
    refine ⟨?_, hE02.trans hE3⟩
    congr 1
    exact decide_eq_decide.2 ⟨fun e => by rw [e, h1], fun e => by cases e; rfl⟩
  · exact ⟨by rw [decide_eq_false (fun e => h1 (by cases e; rfl))], hE02⟩
end

section
open Go Go.RowKit

theorem at_insert {α : Type} [DecidableEq α] {kv : α → Value} {c : Cx} {o : Oper} {S : Env} {w : World} {K : Env → World → Prop} {Q : Post} {t ke e : Nat} {r rk : TyRow} {x y : Operand} {q : Nat} {m : List (α × Value)} {a : α} {v : Value} {z : Operand} (hg : c.g.Ok)
    (ho : o.op = .insert t x y z) (hdst : o.dst = none) (hr : rowOf c.g.tys t = some r) (hd : r.d = .map ke e) (hrk : rowOf c.g.tys ke = some rk) (hk : KeyV rk.d kv)
    (hx : S.ev x = some (.map (some q))) (hy : S.ev y = some (kv a)) (hz : S.ev z = some v) (hm : MapAt kv w q m)
    (k : ∀ w1, w.grownBy w1 (some q) → w1.heap.size = w.heap.size → MapAt kv w1 q (assocSet a v m) → K S w1) : AtOp c o S w K Q := by
  have h : AtOp c { o with op := .mapUpdate t x y z } S w K Q := at_mapUpdate hg rfl hdst hr hd hrk hk hx hy hz hm k
  unfold AtOp at *
  intro b hf
  have h1 := h b hf
  unfold Oper.wp at *
  have e : (execOp b.eval o).run c.g.P w = (execOp b.eval { o with op := .mapUpdate t x y z }).run c.g.P w := by simp only [execOp, ho]
  rw [e]
  generalize (execOp b.eval { o with op := .mapUpdate t x y z }).run c.g.P w = r at *
  cases r with
  | ok n w' => cases n <;> simp only [Oper.upon] at h1 ⊢ <;> exact h1
  | halt x w' => cases x <;> simp only [Oper.upon] at h1 ⊢ <;> exact h1

theorem count_set {l : List Nat} {j v : Nat} (h : l[j]? = some 0) (hv : 0 < v) : (l.set j v).count 0 + 1 = l.count 0 := by
  induction l generalizing j with
  | nil => simp at h
  | cons x l ih =>
    cases j with
    | zero =>
      simp at h
      subst h
      rw [List.set_cons_zero, List.count_cons_of_ne (by omega), List.count_cons_self]
    | succ j =>
      simp at h
      have := ih h
      rw [List.set_cons_succ, List.count_cons, List.count_cons]
      omega

theorem vis_lt {nd : List Br} {m : Nat} {n : Int} {st : List Br × List Nat} (h : n < 2) : vis nd (m + 1) n st = (n, st) := by rw [vis, if_pos h]
theorem vis_old {nd : List Br} {m : Nat} {n : Int} {st : List Br × List Nat} (h : ¬ n < 2) (k : 0 < st.2[(n - 2).toNat]?.getD 0) : vis nd (m + 1) n st = (((st.2[(n - 2).toNat]?.getD 0 : Nat) : Int), st) := by rw [vis, if_neg h, if_pos k]
theorem vis_new {nd : List Br} {m : Nat} {n : Int} {st : List Br × List Nat} {x : Br} (h : ¬ n < 2) (k : ¬ 0 < st.2[(n - 2).toNat]?.getD 0) (hx : nd[(n - 2).toNat]? = some x) :
    vis nd (m + 1) n st = ((((vis nd m x.h (vis nd m x.l st).2).2.1.length + 2 : Nat) : Int), ((vis nd m x.h (vis nd m x.l st).2).2.1 ++ [⟨x.v, (vis nd m x.l st).1, (vis nd m x.h (vis nd m x.l st).2).1⟩], (vis nd m x.h (vis nd m x.l st).2).2.2.set (n - 2).toNat ((vis nd m x.h (vis nd m x.l st).2).2.1.length + 2))) := by
  rw [vis, if_neg h, if_neg k, hx]

structure VisF (nd : List Br) (n : Int) (st st' : List Br × List Nat) : Prop where
  len : st'.2.length = nd.length
  keep : ∀ k : Nat, n < (k : Int) + 2 → st'.2[k]? = st.2[k]?
  cnt : st'.1.length + st'.2.count 0 ≤ st.1.length + st.2.count 0
  ge : st.1.length ≤ st'.1.length
theorem vis_facts {nd : List Br} (hw : WfB nd) : ∀ (m : Nat) (n : Int) (st : List Br × List Nat), 0 ≤ n → n < m → n < nd.length + 2 → st.2.length = nd.length → VisF nd n st (vis nd m n st).2
  | 0, n, st, h0, hm, _, _ => by omega
  | m + 1, n, st, h0, hm, hn, hl => by
    by_cases h1 : n < 2
    · rw [vis_lt h1]; exact ⟨hl, fun _ _ => rfl, Nat.le_refl _, Nat.le_refl _⟩
    by_cases h2 : 0 < st.2[(n - 2).toNat]?.getD 0
    · rw [vis_old h1 h2]; exact ⟨hl, fun _ _ => rfl, Nat.le_refl _, Nat.le_refl _⟩
    have hj : (n - 2).toNat < nd.length := by omega
    have hx := List.getElem?_eq_getElem hj
    obtain ⟨w1, w2, w3, w4⟩ := hw _ _ hx
    rw [vis_new h1 h2 hx]
    have f1 := vis_facts hw m nd[(n - 2).toNat].l st w1 (by omega) (by omega) hl
    have f2 := vis_facts hw m nd[(n - 2).toNat].h _ w3 (by omega) (by omega) f1.len
    generalize (vis nd m nd[(n - 2).toNat].l st) = a at *
    generalize (vis nd m nd[(n - 2).toNat].h a.2) = b at *
    have hz : st.2[(n - 2).toNat]? = some 0 := by
      have : st.2[(n - 2).toNat]? = some st.2[(n - 2).toNat] := List.getElem?_eq_getElem (by omega)
      rw [this] at h2 ⊢
      simp only [Option.getD_some] at h2
      congr 1; omega
    have hz2 : b.2.2[(n - 2).toNat]? = some 0 := by rw [f2.keep _ (by omega), f1.keep _ (by omega), hz]
    have hc := count_set (v := b.2.1.length + 2) hz2 (by omega)
    have c1 := f1.cnt
    have c2 := f2.cnt
    have g1 := f1.ge
    have g2 := f2.ge
    refine ⟨by rw [List.length_set]; exact f2.len, fun k hk => ?_, ?_, ?_⟩
    · rw [List.getElem?_set_ne (by omega), f2.keep k (by omega), f1.keep k (by omega)]
    · rw [List.length_append]; simp only [List.length_cons, List.length_nil]; omega
    · rw [List.length_append]; omega

abbrev intK : Int → Value := fun n => .int .i64 n
/-- The map tells the numbers that are given so far. -/
def MapOk (num : List Nat) (m : List (Int × Value)) : Prop := ∀ n : Int, 0 ≤ n → assoc n m = if n < 2 then some (.int .i64 n) else if 0 < num[(n - 2).toNat]?.getD 0 then some (.int .i64 (num[(n - 2).toNat]?.getD 0 : Nat)) else none
theorem MapOk.set {num : List Nat} {m : List (Int × Value)} (h : MapOk num m) {n : Int} (h2 : ¬ n < 2) (hl : (n - 2).toNat < num.length) {v : Nat} (hv : 0 < v) : MapOk (num.set (n - 2).toNat v) (assocSet n (.int .i64 (v : Nat)) m) := by
  intro k hk
  rw [assoc_set]
  by_cases e : k = n
  · subst e
    rw [if_pos rfl, if_neg h2, List.getElem?_set_self hl]
    simp only [Option.getD_some]
    rw [if_pos hv]
  · rw [if_neg e, h k hk]
    by_cases hk2 : k < 2
    · rw [if_pos hk2, if_pos hk2]
    · rw [if_neg hk2, if_neg hk2, List.getElem?_set_ne (by omega)]
theorem mapOk_init (n : Nat) : MapOk (List.replicate n 0) (assocSet 1 (.int .i64 1) (assocSet 0 (.int .i64 0) [])) := by
  intro k hk
  rw [assoc_set, assoc_set]
  by_cases h1 : k = 1
  · subst h1; rfl
  · rw [if_neg h1]
    by_cases h0 : k = 0
    · subst h0; rfl
    · rw [if_neg h0, if_neg (by omega), if_neg]
      · rfl
      · cases h : (List.replicate n 0)[(k - 2).toNat]? with
        | none => simp
        | some x =>
          have := List.eq_of_mem_replicate (List.mem_of_getElem? h)
          rw [this]; simp
end

section
open Go Go.RowKit

def brV (l : List Br) : List Value := l.flatMap Br.cells
theorem brV_snoc (l : List Br) (x : Br) : brV (l ++ [x]) = brV l ++ x.cells := by simp [brV]

/-- Where the closure's variables lie. -/
structure VP where
  mb : Nat
  q : Nat
  bb : Nat
  bp : Nat
  fb : Nat
  ob : Nat
def VP.ptr (i : Nat) : Value := .pointer (some ⟨i, 0, none⟩)
def VP.clo (p : VP) : Value := .func (.func 128) #[] #[VP.ptr p.mb, VP.ptr p.bb, VP.ptr p.fb, VP.ptr p.ob]
/-- The variables that stay. -/
structure VK (w : World) (base : Nat) (p : VP) (NA : Option Addr) (nn nc : Nat) (nd : List Br) : Prop where
  mbx : Blk w p.mb 188 [.map (some p.q)]
  bbx : Blk w p.bb 156 [VP.ptr p.bp]
  bpx : ∃ kv, Blk w p.bp 159 [.slice NA nn nc, kv]
  fbx : Blk w p.fb 189 [p.clo]
  nds : SB w NA nn nc nd
  lt : p.q < base ∧ p.ob < base
  ne : p.q ≠ p.ob ∧ p.q ≠ p.mb ∧ p.q ≠ p.bb ∧ p.q ≠ p.bp ∧ p.q ≠ p.fb ∧ p.ob ≠ p.mb ∧ p.ob ≠ p.bb ∧ p.ob ≠ p.bp ∧ p.ob ≠ p.fb
  lt2 : p.mb < base ∧ p.bb < base ∧ p.bp < base ∧ p.fb < base
  row : ∀ ad, NA = some ad → 0 < nn → ad.block < base ∧ ad.block ≠ p.q ∧ ad.block ≠ p.ob
/-- What the closure writes. -/
def VS (p : VP) (A : Option Addr) : Nat → Prop := fun k => k = p.q ∨ k = p.ob ∨ rowS A k
theorem VS.moved {w : World} {p : VP} {A A' : Option Addr} (h : Moved w A A') : ∀ k, VS p A' k → VS p A k ∨ w.heap.size ≤ k := by
  rintro k (rfl | rfl | hk)
  · exact .inl (.inl rfl)
  · exact .inl (.inr (.inl rfl))
  · rcases h.rows k hk with h | h
    · exact .inl (.inr (.inr h))
    · exact .inr h
theorem Mod.cell {S : Nat → Prop} {w w' : World} (k : Mod S w w') {a : Addr} {v : Value} (h : w.cell? a = some v) (hn : ¬ S a.block) : w'.cell? a = some v := by
  have hlt := World.block_lt_of_cell? w a h
  have e := k.block a.block hlt hn
  unfold World.cell? at h ⊢
  rw [e]; exact h
theorem Sl.modS {S : Nat → Prop} {w w' : World} {sz n c : Nat} {A : Option Addr} {cs : List Value} (h : Sl w sz A n c cs) (k : Mod S w w') (hn : 0 < n → ∀ i, rowS A i → ¬ S i) : Sl w' sz A n c cs :=
  ⟨h.len, h.le, h.cap, fun h0 => by
    obtain ⟨ad, rfl, hc⟩ := h.at_ h0
    exact ⟨ad, rfl, fun j u hu => k.cell (hc j u hu) (hn h0 _ ⟨ad, rfl, (block_add ad j).symm⟩)⟩⟩
theorem at_lookup' {α : Type} [DecidableEq α] {kv : α → Value} {c : Cx} {o : Oper} {S : Env} {w : World} {K : Env → World → Prop} {Q : Post} {t ke e : Nat} {r rk re : TyRow} {x y : Operand} {q : Nat} {m : List (α × Value)} {a : α} {v : Value} (hg : c.g.Ok)
    (ho : o.op = .lookup t x y false) (hr : rowOf c.g.tys t = some r) (hd : r.d = .map ke e) (hrk : rowOf c.g.tys ke = some rk) (hre : rowOf c.g.tys e = some re) (hk : KeyV rk.d kv)
    (hx : S.ev x = some (.map (some q))) (hy : S.ev y = some (kv a)) (hm : MapAt kv w q m) (hv : (assoc a m).getD re.z = v) (k : putK c S o.dst (.v v) (fun S => K S w)) : AtOp c o S w K Q := by
  subst hv
  exact at_lookup hg ho hr hd hrk hre hk hx hy hm k

theorem VK.mod {w w' : World} {base : Nat} {p : VP} {NA OA : Option Addr} {nn nc : Nat} {nd : List Br} (h : VK w base p NA nn nc nd) (hr : ∀ i, rowS OA i → base ≤ i) (hm : Mod (VS p OA) w w') : VK w' base p NA nn nc nd := by
  obtain ⟨n1, n2, n3, n4, n5, n6, n7, n8, n9⟩ := h.ne
  obtain ⟨l1, l2, l3, l4⟩ := h.lt2
  have key : ∀ i, i < base → i ≠ p.q → i ≠ p.ob → ¬ VS p OA i := fun i hi hq ho e => by
    rcases e with e | e | e
    · exact hq e
    · exact ho e
    · have := hr i e; omega
  obtain ⟨kv, hbp⟩ := h.bpx
  refine ⟨h.mbx.mod hm (key _ l1 n2.symm n6.symm), h.bbx.mod hm (key _ l2 n3.symm n7.symm), ⟨kv, hbp.mod hm (key _ l3 n4.symm n8.symm)⟩, h.fbx.mod hm (key _ l4 n5.symm n9.symm), ⟨h.nds.1.modS hm ?_, h.nds.2⟩, h.lt, h.ne, h.lt2, h.row⟩
  rintro h0 i ⟨ad, rfl, rfl⟩
  obtain ⟨r1, r2, r3⟩ := h.row ad rfl h0
  exact key _ r1 r2 r3

/-- The state of the walk, in memory. -/
structure VSt (w : World) (base : Nat) (p : VP) (r0 : Int) (OA : Option Addr) (oc : Nat) (st : List Br × List Nat) : Prop where
  own : Own w base 116 3 OA st.1.length oc (brV st.1)
  obx : Blk w p.ob 42 [.slice OA st.1.length oc, .int .i64 r0]
  mp : ∃ mm, MapAt intK w p.q mm ∧ MapOk st.2 mm
  top : base ≤ w.heap.size
theorem VSt.ext {w w' : World} {base : Nat} {p : VP} {r0 : Int} {OA : Option Addr} {oc : Nat} {st : List Br × List Nat} (h : VSt w base p r0 OA oc st) (k : Ext w w') : VSt w' base p r0 OA oc st :=
  ⟨h.own.ext k, h.obx.ext k, let ⟨mm, h1, h2⟩ := h.mp; ⟨mm, h1.ext k, h2⟩, Nat.le_trans h.top k.size⟩
def VTo (w : World) (base : Nat) (p : VP) (r0 : Int) (OA : Option Addr) (st : List Br × List Nat) (w' : World) : Prop := ∃ OA' oc', VSt w' base p r0 OA' oc' st ∧ Mod (VS p OA) w w' ∧ Moved w OA OA'

theorem visit_fn (base : Nat) (p : VP) (r0 : Int) (NA : Option Addr) (nn nc : Nat) (nd : List Br) (hwf : WfB nd) (hnn : nn ≤ 1000000000000) : ∀ (m : Nat) (n : Int) (st : List Br × List Nat) (OA : Option Addr) (oc : Nat) (w : World),
    VK w base p NA nn nc nd → VSt w base p r0 OA oc st → 0 ≤ n → n < m → n < nn + 2 → st.2.length = nn → st.1.length + st.2.count 0 ≤ 1000000000000 →
    Fn Tryz.prog 128 [.int .i64 n, VP.ptr p.mb, VP.ptr p.bb, VP.ptr p.fb, VP.ptr p.ob] w (fun v w' => v = .int .i64 (vis nd m n st).1 ∧ VTo w base p r0 OA (vis nd m n st).2 w')
  | 0, n, st, OA, oc, w, _, _, h0, hm, _, _, _ => by omega
  | m + 1, n, st, OA, oc, w, hK, hS, h0, hm, hn, hl, hc => by
    have ih := visit_fn base p r0 NA nn nc nd hwf hnn m
    have hnl : nd.length = nn := hK.nds.2
    obtain ⟨mm, hmp, hmo⟩ := hS.mp
    have hrows := hS.own.rows
    have hqlt := hmp.lt
    have holt := hS.obx.lt
    refine fn_of_exec (c := { c128 with cuts := [] }) gx_ok Tryz.func128 rfl rfl rfl ?_
    refine load_blk0 hK.mbx rfl ?_
    have hlook := hmo n h0
    by_cases h1 : n < 2
    · rw [if_pos h1] at hlook
      refine at_lookup_ok' (kv := intK) (a := n) (v := .int .i64 n) (b := true) gx_ok rfl rfl rfl rfl rfl (KeyV.int .i64) rfl rfl hmp (by rw [hlook]; rfl) (by rw [hlook]; rfl) ?_
      refine wif_t rfl ?_
      refine ⟨by rw [vis_lt h1], OA, oc, ?_, Mod.refl _ _, Moved.refl _ _⟩
      rw [vis_lt h1]; exact hS
    rw [if_neg h1] at hlook
    by_cases h2 : 0 < st.2[(n - 2).toNat]?.getD 0
    · rw [if_pos h2] at hlook
      refine at_lookup_ok' (kv := intK) (a := n) (v := .int .i64 (st.2[(n - 2).toNat]?.getD 0 : Nat)) (b := true) gx_ok rfl rfl rfl rfl rfl (KeyV.int .i64) rfl rfl hmp (by rw [hlook]; rfl) (by rw [hlook]; rfl) ?_
      refine wif_t rfl ?_
      refine ⟨by rw [vis_old h1 h2], OA, oc, ?_, Mod.refl _ _, Moved.refl _ _⟩
      rw [vis_old h1 h2]; exact hS
    rw [if_neg h2] at hlook
    refine at_lookup_ok' (kv := intK) (a := n) (v := .int .i64 0) (b := false) gx_ok rfl rfl rfl rfl rfl (KeyV.int .i64) rfl rfl hmp (by rw [hlook]; rfl) (by rw [hlook]; rfl) ?_
    refine wif_f rfl ?_
    have hj : (n - 2).toNat < nd.length := by omega
    have hx := List.getElem?_eq_getElem hj
    generalize nd[(n - 2).toNat] = x at hx
    obtain ⟨x1, x2, x3, x4⟩ := hwf _ _ hx
    obtain ⟨kv, hbp⟩ := hK.bpx
    refine load_blk0 hK.bbx rfl ?_
    refine load_blk0 hbp rfl ?_
    refine norm_i64_to (((n - 2).toNat : Nat) : Int) (by omega) (by omega) ?_
    refine index_sls br_len hK.nds rfl (by omega) (fun ad y hy hcl => ?_)
    have hyx : y = x := Option.some.inj (hy.symm.trans hx)
    subst hyx
    refine loadN_at (vs := y.cells) rfl hcl ?_
    refine new (fun w1 hE1 hz1 hB1 => ?_)
    refine storeN_blk0 hB1 rfl (sc rfl) (fun w2 hg2 hz2 hX2 => ?_)
    have hE2 : Ext w w2 := newBox hE1 hB1 hg2
    have hM02 : Mod (VS p OA) w w2 := Mod.of_ext _ hE2
    have hK2 := hK.mod (fun i hi => (hrows i hi).1) hM02
    have hS2 := hS.ext hE2
    have hbn : ¬ VS p OA w.heap.size := fun e => by
      rcases e with e | e | e
      · omega
      · omega
      · have := (hrows _ e).2; omega
    refine load_blk0 hK2.fbx rfl ?_
    refine load_blk hX2 rfl ?_
    have f1 := vis_facts hwf m y.l st x1 (by omega) (by omega) (by omega)
    refine call (ih y.l st OA oc w2 hK2 hS2 x1 (by omega) (by omega) hl hc) ?_
    rintro v w3 ⟨rfl, OA3, oc3, hS3, hM3, hV3⟩
    have hK3 := hK2.mod (fun i hi => (hrows i hi).1) hM3
    have hX3 := hX2.mod hM3 hbn
    have hrows3 := hS3.own.rows
    have hbn3 : ¬ VS p OA3 w.heap.size := fun e => (VS.moved hV3 _ e).elim hbn (fun h => by omega)
    refine load_blk0 hK3.fbx rfl ?_
    refine load_blk hX3 rfl ?_
    have f2 := vis_facts hwf m y.h _ x3 (by omega) (by omega) f1.len
    have c1 := f1.cnt
    have c2 := f2.cnt
    refine call (ih y.h _ OA3 oc3 w3 hK3 hS3 x3 (by omega) (by omega) (by rw [f1.len]; exact hnl) (by omega)) ?_
    rintro v w4 ⟨rfl, OA4, oc4, hS4, hM4, hV4⟩
    have hX4 := hX3.mod hM4 hbn3
    have hrows4 := hS4.own.rows
    have hM24 := hM3.trans hM4 (VS.moved hV3)
    have hV24 := hV3.trans hV4 hM3.size
    have hM04 : Mod (VS p OA) w w4 := hM02.trans hM24 (fun i hi => .inl hi)
    have hV04 := hV24.back hE2.size
    have hK4 := hK3.mod (fun i hi => (hrows3 i hi).1) hM4
    have hnew := vis_new (m := m) h1 h2 hx
    rw [hnew]
    generalize (vis nd m y.l st) = a at *
    generalize (vis nd m y.h a.2) = b at *
    have hnob : ¬ rowS OA4 p.ob := fun e => by have := (hrows4 _ e).1; have := hK.lt.2; omega
    have hnq : ¬ rowS OA4 p.q := fun e => by have := (hrows4 _ e).1; have := hK.lt.1; omega
    refine load_blk0 hS4.obx rfl ?_
    refine load_blk0 hX4 rfl ?_
    refine at_buildN gx_ok [(⟨y.v, a.1, b.1⟩ : Br).cells] rfl rfl rfl rfl rfl ⟨rfl, rfl, ⟨⟩⟩ rfl (fun cs h => by simp only [List.mem_singleton] at h; subst h; rfl) rfl (by decide) (by decide) ?_
    intro w5 hE5 hz5 hB5
    have hS5 := hS4.ext hE5
    have hs5 : Sl w5 3 (some ⟨w4.heap.size, 0, none⟩) 1 1 (⟨y.v, a.1, b.1⟩ : Br).cells := Sl.own (sz := 3) (n := 1) hB5 (Nat.le_refl _) (by decide) (by simp [Br.cells])
    refine at_app gx_ok rfl rfl rfl rfl rfl (by decide) rfl rfl ⟨_, rfl⟩ rfl rfl hS5.own hs5 (by intro u hu; simp [Br.cells] at hu; rcases hu with rfl | rfl | rfl <;> rfl) (by unfold maxLen; omega) (by show _ * 24 ≤ _; omega) hS5.top ?_
    intro OA6 oc6 w6 hM6 hown6 hV6
    refine store_mod0 (hS5.obx.mod hM6 hnob) (by simp) (fun w7 hM7 hB7 => ?_)
    have hM47 : Mod (VS p OA4) w4 w7 := ((Mod.of_ext (VS p OA4) hE5).trans hM6 (fun i hi => .inl (.inr (.inr hi)))).trans hM7 (fun i hi => .inl (.inr (.inl hi)))
    have hK7 := hK4.mod (fun i hi => (hrows4 i hi).1) hM47
    obtain ⟨m4, hmp4, hmo4⟩ := hS4.mp
    have hmp7 : MapAt intK w7 p.q m4 := ((hmp4.ext hE5).mod hM6 hnq).mod hM7 hK.ne.1
    have hlen : b.2.2.length = nd.length := f2.len
    refine load_blk0 hK7.mbx rfl ?_
    refine load_blk0 hB7 rfl ?_
    refine norm_i64_to ((b.2.1.length + 2 : Nat) : Int) (by omega) (by omega) ?_
    refine at_mapUpdate (kv := intK) (a := n) gx_ok rfl rfl rfl rfl rfl (KeyV.int .i64) rfl rfl rfl hmp7 (fun w8 hg8 _ hmp8 => ?_)
    have hM8 : Mod (· = p.q) w7 w8 := Mod.of_grown hg8 rfl
    have hmo8 := hmo4.set h1 (by omega) (v := b.2.1.length + 2) (by omega)
    have hlook8 : assoc n (assocSet n (.int .i64 ((b.2.1.length + 2 : Nat) : Int)) m4) = some (.int .i64 ((b.2.1.length + 2 : Nat) : Int)) := by rw [assoc_set, if_pos rfl]
    have hM48 : Mod (VS p OA4) w4 w8 := hM47.trans hM8 (fun i hi => .inl (.inl hi))
    have hK8 := hK4.mod (fun i hi => (hrows4 i hi).1) hM48
    refine load_blk0 hK8.mbx rfl ?_
    refine at_lookup' (kv := intK) (a := n) (v := .int .i64 ((b.2.1.length + 2 : Nat) : Int)) gx_ok rfl rfl rfl rfl rfl (KeyV.int .i64) rfl rfl hmp8 (by rw [hlook8]; rfl) ?_
    have hrows6 := hown6.rows
    have el : (b.2.1 ++ [(⟨y.v, a.1, b.1⟩ : Br)]).length = b.2.1.length + 1 := by simp
    refine ⟨rfl, OA6, oc6, ⟨?_, ?_, ⟨_, hmp8, hmo8⟩, ?_⟩, hM04.trans hM48 (VS.moved hV04), ?_⟩
    · rw [el, brV_snoc]
      refine (hown6.mod hM7 (fun i hi e => ?_)).mod hM8 (fun i hi e => ?_)
      · have := (hrows6 i hi).1; have := hK.lt.2; omega
      · have := (hrows6 i hi).1; have := hK.lt.1; omega
    · rw [el]
      exact hB7.mod hM8 (fun e => hK.ne.1 e.symm)
    · have := hS4.top; have := hM48.size; omega
    · exact hV04.trans (hV6.back hE5.size) hM04.size
end

section
open Go Go.RowKit

/-- A diagram as a result. -/
def DgRes (w : World) (r : List Br × Int) (v : Value) (w' : World) : Prop := ∃ A n c, v = dgV A n c r.2 ∧ Ext w w' ∧ SB w' A n c r.1 ∧ ∀ i, rowS A i → w.heap.size ≤ i

theorem diagram_fn (bp : Nat) (kv : Value) (NA : Option Addr) (nn nc : Nat) (nd : List Br) (root : Int) (w : World) (hb : Blk w bp 159 [.slice NA nn nc, kv]) (hN : SB w NA nn nc nd) (hwf : WfB nd) (hnn : nn ≤ 1000000000000) (h0 : 0 ≤ root) (hr : root < nn + 2)
    (hrow : ∀ ad, NA = some ad → 0 < nn → ad.block < w.heap.size) :
    Fn Tryz.prog 95 [.pointer (some ⟨bp, 0, none⟩), .int .i64 root] w (DgRes w (numberedD nd root)) := by
  have hnl : nd.length = nn := hN.2
  have hbl := hb.lt
  refine fn_of_exec (c := { c95 with cuts := [] }) gx_ok Tryz.func95 rfl rfl rfl ?_
  refine new (fun w1 hE1 hz1 hB1 => ?_)
  refine new (fun w2 hE2 hz2 hB2 => ?_)
  refine new (fun w3 hE3 hz3 hB3 => ?_)
  refine storeN_blk0 hB3 rfl (sc rfl) (fun w4 hg4 hz4 hB4 => ?_)
  have hM4 : Mod (· = w2.heap.size) w3 w4 := Mod.of_grown hg4 rfl
  refine at_makeMap gx_ok intK rfl ?_
  intro w5 hE5 hz5 hm5
  refine at_insert (kv := intK) (a := 0) gx_ok rfl rfl rfl rfl rfl (KeyV.int .i64) rfl rfl rfl hm5 (fun w6 hg6 hz6 hm6 => ?_)
  refine at_insert (kv := intK) (a := 1) gx_ok rfl rfl rfl rfl rfl (KeyV.int .i64) rfl rfl rfl hm6 (fun w7 hg7 hz7 hm7 => ?_)
  have hM57 : Mod (· = w4.heap.size) w5 w7 := (Mod.of_grown (S := (· = w4.heap.size)) hg6 rfl).trans (Mod.of_grown (S := (· = w4.heap.size)) hg7 rfl) (fun i hi => .inl hi)
  refine new (fun w8 hE8 hz8 hB8 => ?_)
  refine store_mod0 hB8 (by simp [cellsL]) (fun w9 hM9 hB9 => ?_)
  refine new (fun w10 hE10 hz10 hB10 => ?_)
  refine store_mod0 hB10 (by simp [cellsL]) (fun w11 hM11 hB11 => ?_)
  have z9 := hM9.size
  have z11 := hM11.size
  have q1 : Ext w w4 := hM4.ext ((hE1.trans hE2).trans hE3) (fun i hi => by omega)
  have q2 : Ext w4 w7 := hM57.ext hE5 (fun i hi => by omega)
  have q3 : Ext w7 w9 := hM9.ext hE8 (fun i hi => by omega)
  have q4 : Ext w9 w11 := hM11.ext hE10 (fun i hi => by omega)
  have q04 : Ext w w11 := ((q1.trans q2).trans q3).trans q4
  let p : VP := ⟨w7.heap.size, w4.heap.size, w.heap.size, bp, w9.heap.size, w2.heap.size⟩
  have hB1' : Blk w11 w.heap.size 156 [VP.ptr bp] := (((hB1.ext (hE2.trans hE3)).mod hM4 (by omega)).ext q2).ext (q3.trans q4)
  have hB2' : Blk w11 w1.heap.size 42 [.slice none 0 0, .int .i64 0] := (((hB2.ext hE3).mod hM4 (by omega)).ext q2).ext (q3.trans q4)
  have hB4' : Blk w11 w2.heap.size 42 [.slice none 0 0, .int .i64 0] := (hB4.ext q2).ext (q3.trans q4)
  have hB9' : Blk w11 w7.heap.size 188 [.map (some w4.heap.size)] := hB9.ext q4
  have hm7' : MapAt intK w11 w4.heap.size _ := ((hm7.ext hE8).mod hM9 (by omega)).ext q4
  have hK : VK w11 w11.heap.size p NA nn nc nd := by
    refine ⟨hB9', hB1', ⟨kv, hb.ext q04⟩, hB11, hN.ext q04, ⟨?_, ?_⟩, ⟨?_, ?_, ?_, ?_, ?_, ?_, ?_, ?_, ?_⟩, ⟨?_, ?_, ?_, ?_⟩, fun ad e hn => ?_⟩
    all_goals try (show (_ : Nat) ≠ _; simp only [p]; omega)
    all_goals try (show (_ : Nat) < _; simp only [p]; omega)
    have := hrow ad e hn
    refine ⟨by omega, ?_, ?_⟩ <;> (simp only [p]; omega)
  have hS : VSt w11 w11.heap.size p 0 none 0 ([], List.replicate nd.length 0) := ⟨Own.nil _ _ _ _, hB4', ⟨_, hm7', mapOk_init _⟩, Nat.le_refl _⟩
  refine load_blk0 hB11 rfl ?_
  refine call (visit_fn w11.heap.size p 0 NA nn nc nd hwf hnn (root.toNat + 1) root ([], List.replicate nd.length 0) none 0 w11 hK hS h0 (by omega) hr (by simp [hnl]) (by simp; omega)) ?_
  rintro v w12 ⟨rfl, OA, oc, hS12, hM12, hV12⟩
  have hnr : ∀ i, i ≠ w4.heap.size → i ≠ w2.heap.size → ¬ VS p none i := fun i h1 h2 e => by
    rcases e with e | e | ⟨_, e, _⟩
    · exact h1 e
    · exact h2 e
    · cases e
  have hR12 := hB2'.mod hM12 (hnr _ (by omega) (by omega))
  have hrows := hS12.own.rows
  refine store_mod hS12.obx (by simp) (fun w13 hM13 hB13 => ?_)
  have hR13 := hR12.mod hM13 (by show ¬ w1.heap.size = w2.heap.size; omega)
  refine loadN_blk0 hB13 rfl ?_
  refine storeN_blk0 hR13 rfl (sc rfl) (fun w14 hg14 _ hB14 => ?_)
  have hM14 : Mod (· = w1.heap.size) w13 w14 := Mod.of_grown hg14 rfl
  refine loadN_blk0 hB14 rfl ?_
  have hE12 : Ext w w12 := hM12.ext q04 (fun i hi => by
    rcases hi with e | e | ⟨_, e, _⟩
    · simp only [p] at e; omega
    · simp only [p] at e; omega
    · cases e)
  have hE14 : Ext w w14 := hM14.ext (hM13.ext hE12 (fun i hi => by have hi' : i = w2.heap.size := hi; omega)) (fun i hi => by omega)
  refine ⟨OA, _, oc, rfl, hE14, ⟨?_, rfl⟩, fun i hi => Nat.le_trans q04.size (hrows i hi).1⟩
  have : ∀ i, rowS OA i → w11.heap.size ≤ i := fun i hi => (hrows i hi).1
  exact ((hS12.own.mod hM13 (fun i hi e => by have := this i hi; have e' : i = w2.heap.size := e; omega)).mod hM14 (fun i hi e => by have := this i hi; omega)).sl
end

section
open Go Go.RowKit

theorem eqStruct {P : Program} {t : TypeId} {fs : Array Field} {ks : List Nat} {xs ys : Array Value} {b : Bool} {w : World} (hu : P.underlying t = some (.struct fs)) (hh : P.stoodInHeld t = false) (hf : fieldsB P 0 fs.toList ks = true) (h : eqCells ks xs.toList ys.toList = some b) (n : Nat) :
    (Op.equalIn (n + 2) t (.agg xs) (.agg ys)).run P w = .ok b w := by
  have hf2 : P.fieldsOf t = fs := by simp [Program.fieldsOf, hu]
  rw [run_equalIn_struct w (n + 1) t xs ys (by rw [hf2]; exact hu) hh, hf2]
  exact eqCells_fields fs.toList ks 0 _ _ b hf h (fun j => by simp) (fun j => by simp) n w
theorem k3 : kindD (Tryz.prog.underlying 3) < 3 := by rw [Tryz.underlying3]; decide
abbrev brK : Br → Value := fun b => .agg b.cells.toArray
theorem brEq (a b : Br) (n : Nat) (w : World) : (Op.equalIn (n + 2) 116 (brK a) (brK b)).run Tryz.prog w = .ok (decide (a = b)) w := by
  refine eqStruct (ks := [0, 0, 0]) Tryz.underlying116 (by kernel_rfl) (by kernel_rfl) ?_ n
  rw [show eqCells [0, 0, 0] a.cells.toArray.toList b.cells.toArray.toList = some (a.v == b.v && (a.l == b.l && (a.h == b.h && true))) from rfl, eq3]
  congr 1
  exact decide_eq_decide.2 br_eq.symm
theorem brCheck (b : Bool) (a : Br) (n : Nat) (w : World) : (Instr.checkKey b (n + 2) 116 (brK a)).run Tryz.prog w = .ok () w := by
  simp [Instr.checkKey, run_underlying Tryz.underlying116, run_underlying Tryz.underlying3, brK, Br.cells, part_one k3 (cs := #[Value.int IntKind.i64 a.v, Value.int IntKind.i64 a.l, Value.int IntKind.i64 a.h]) (n := 0) rfl, part_one k3 (cs := #[Value.int IntKind.i64 a.v, Value.int IntKind.i64 a.l, Value.int IntKind.i64 a.h]) (n := 1) rfl, part_one k3 (cs := #[Value.int IntKind.i64 a.v, Value.int IntKind.i64 a.l, Value.int IntKind.i64 a.h]) (n := 2) rfl]
theorem brKey : KeyQ Tryz.prog 116 brK :=
  KeyQ.asking Tryz.underlying116 (fun a b w => brEq a b 9998 w) (fun b a w => brCheck b a 9998 w) (fun a => by simp [Br.cells, Instr.sameBits])

theorem at_lookupQ {α : Type} [DecidableEq α] {kv : α → Value} {c : Cx} {o : Oper} {S : Env} {w : World} {K : Env → World → Prop} {Q : Post} {t ke e : Nat} {r re : TyRow} {x y : Operand} {q : Nat} {m : List (α × Value)} {a : α} (hg : c.g.Ok) (ho : o.op = .lookup t x y false) (hr : rowOf c.g.tys t = some r) (hd : r.d = .map ke e) (hre : rowOf c.g.tys e = some re) (hk : KeyQ c.g.P ke kv)
    (hx : S.ev x = some (.map (some q))) (hy : S.ev y = some (kv a)) (hm : MapQ kv w q m) {v : Value} (hv : (assoc a m).getD re.z = v)
    (k : putK c S o.dst (.v v) (fun S => K S w)) : AtOp c o S w K Q := by
  refine at_run (w' := w) (fun b hf => ?_) k
  have e1 := hf.ev hx
  have e2 := hf.ev hy
  have := run_lookupQ (w := w) (a := a) hg hr hd hre hk hm false
  simp only [hv] at this
  simp only [execOp, ho, e1, e2]
  simp only [Sem.run_bind, this, Result.andThen_ok]
  simp

theorem SB.lt {w : World} {A : Option Addr} {n c : Nat} {d : List Br} (h : SB w A n c d) : ∀ ad, A = some ad → 0 < n → ad.block < w.heap.size := by
  intro ad e hn
  obtain ⟨ad', e', hc⟩ := h.1.at_ hn
  cases e.symm.trans e'
  have hl := h.1.len
  cases hcs : d.flatMap Br.cells with
  | nil => rw [hcs] at hl; simp at hl; omega
  | cons u us =>
    rw [hcs] at hc
    have := World.block_lt_of_cell? w _ (hc 0 u rfl)
    rw [block_add] at this
    exact this
end

section
open Go Go.RowKit

theorem check2_fn (A : Option Addr) (n c : Nat) (nd : List Br) (root : Int) (w : World) (h : SB w A n c nd) :
    Fn Tryz.prog 54 [dgV A n c root] w (fun v w' => v = .int .i64 (chkD nd root) ∧ Ext w w') := by
  have hlen := h.2
  refine fn_of_exec (c := { c54 with cuts := [4] }) gx_ok Tryz.func54 rfl rfl rfl ?_
  refine new (fun w1 hE1 hz1 hB1 => ?_)
  refine load_blk0 hB1 rfl ?_
  refine wif_d (fun h1 => ?_) (fun h1 => ?_)
  · exact ⟨by rw [chkD_large (by omega)], hE1⟩
  have hsm : ¬ 4096 < nd.length := by omega
  refine at_makeMapQ gx_ok brK rfl ?_
  intro w2 hE2 hz2 hm2
  have hE02 := hE1.trans hE2
  have hB2 := hB1.ext hE2
  refine cutIn [] gx_ok [] (fun _ : Unit => []) (fun _ w' => Mod (· = w1.heap.size) w2 w' ∧ ∀ (j : Nat) (b : Br), j < n → nd[j]? = some b → brOk nd j b) ?_ ?_
  · refine load_blk0 hB2 rfl ?_
    refine loop gx_ok [15] (fun s : Nat => [.int .i64 s]) (fun s w' => Mod (· = w1.heap.size) w2 w' ∧ s ≤ n ∧ (∀ (j : Nat) (b : Br), j < s → nd[j]? = some b → brOk nd j b) ∧ ∃ m, MapQ brK w' w1.heap.size m ∧ ∀ b, (assoc b m).getD (.bool false) = .bool (decide (b ∈ nd.take s))) (fun s _ => n - s) 0 rfl ⟨Mod.refl _ _, Nat.zero_le _, fun j b hj => absurd hj (by omega), [], hm2, fun b => by simp [assoc]⟩ ?_
    rintro s w3 ⟨hM3, hs, hall, m, hm3, hmem⟩
    have hE3 : Ext w w3 := hM3.ext hE02 (fun i hi => by have := hE1.size; omega)
    have hB3 := hB2.mod hM3 (by omega)
    refine wif_d (fun h2 => ?_) (fun h2 => ?_)
    · refine index_sls br_len (h.ext hE3) rfl (by omega) (fun p x hx hc => ?_)
      refine loadN_at (vs := x.cells) rfl hc ?_
      refine new (fun w4 hE4 hz4 hB4 => ?_)
      refine storeN_blk0 hB4 rfl (sc rfl) (fun w5 hg5 hz5 hX5 => ?_)
      have hE35 : Ext w3 w5 := newBox hE4 hB4 hg5
      have hE5 := hE3.trans hE35
      have hm5 := hm3.ext hE35
      have hB5 := hB3.ext hE35
      have bad : ¬ brOk nd s x → ∀ w', Ext w w' → (Value.int .i64 20 = .int .i64 (chkD nd root)) ∧ Ext w w' := fun hno w' hE => ⟨by rw [chkD_no hsm (fun hv => hno (hv.1 s x hx))], hE⟩
      refine load_blk0 hX5 rfl ?_
      refine wif_d (fun c1 => ?_) (fun c1 => ?_)
      · exact bad (fun hb => by have := hb.1; omega) _ hE5
      refine load_blk0 hX5 rfl ?_
      refine wif_d (fun c2 => ?_) (fun c2 => ?_)
      · exact bad (fun hb => by have := hb.2.1; omega) _ hE5
      refine load_blk hX5 rfl ?_
      refine wif_d (fun c3 => ?_) (fun c3 => ?_)
      · exact bad (fun hb => by have := hb.2.2.1; omega) _ hE5
      refine load_blk hX5 rfl ?_
      refine wif_d (fun c4 => ?_) (fun c4 => ?_)
      · exact bad (fun hb => by have := hb.2.2.2.2.1; omega) _ hE5
      refine load_blk hX5 rfl ?_
      refine norm_i64_to ((s : Int) + 1) rfl (by omega) ?_
      refine wif_d (fun c5 => ?_) (fun c5 => ?_)
      · exact bad (fun hb => by have := hb.2.2.2.1; omega) _ hE5
      refine load_blk hX5 rfl ?_
      refine norm_i64_to ((s : Int) + 1) rfl (by omega) ?_
      refine wif_d (fun c6 => ?_) (fun c6 => ?_)
      · exact bad (fun hb => by have := hb.2.2.2.2.2.1; omega) _ hE5
      refine load_blk hX5 rfl ?_
      refine load_blk hX5 rfl ?_
      refine wif_eq (fun c7 => ?_) (fun c7 => ?_)
      · exact bad (fun hb => hb.2.2.2.2.2.2.1 c7) _ hE5
      refine loadN_blk0 hX5 rfl ?_
      refine at_lookupQ (kv := brK) (a := x) gx_ok rfl rfl rfl rfl brKey rfl rfl hm5 (hmem x) ?_
      refine wif_d (fun c8 => ?_) (fun c8 => ?_)
      · exact bad (fun hb => hb.2.2.2.2.2.2.2.1 c8) _ hE5
      refine draw_plan gx_ok (Ext w5) 16 [(true, 0), (true, 1), (true, 2), (true, 4), (true, 5), (false, 3), (true, 6), (true, 7), (true, 8), (true, 9), (true, 10), (true, 12), (true, 13), (false, 11), (true, 14), (true, 15)] (by kernel_rfl) (Ext.drew w5) ?_
      have qB : ∀ w', Ext w5 w' → ∀ (j : Nat) (v : Value), [Value.slice A n c, .int .i64 root][j]? = some v → w'.cell? ((⟨w.heap.size, 0, none⟩ : Addr).add j) = some v := fun w' hw' j v hj => by rw [(hB5.ext hw').cell]; exact hj
      have qX : ∀ w', Ext w5 w' → ∀ (j : Nat) (v : Value), x.cells[j]? = some v → w'.cell? ((⟨w3.heap.size, 0, none⟩ : Addr).add j) = some v := fun w' hw' j v hj => by rw [(hX5.ext hw').cell]; exact hj
      have qX0 : ∀ w', Ext w5 w' → w'.cell? (⟨w3.heap.size, 0, none⟩ : Addr) = some (.int .i64 x.v) := fun w' hw' => by have := qX w' hw' 0 _ rfl; simpa [Addr.add] using this
      refine qloadN (vs := [.slice A n c, .int .i64 root]) rfl (fun w' hw' j v hj => by have := qB w' hw' j v hj; simpa [Addr.add] using this) ?_
      refine qload (v := .int .i64 x.l) (fun w' hw' => qX w' hw' 1 _ rfl) ?_
      refine qload (v := .int .i64 x.v) (fun w' hw' => qX0 w' hw') ?_
      refine call (level_fn A n c root x.l nd _ (h.ext (hE5.trans (Ext.drew w5))) (by omega)) ?_
      rintro v w6 ⟨rfl, hE6⟩
      have hE56 := (Ext.drew w5).trans hE6
      refine ⟨hE56, ?_⟩
      refine wif_d (fun c9 => ?_) (fun c9 => ?_)
      · exact bad (fun hb => by have := hb.2.2.2.2.2.2.2.2.1; omega) _ (hE5.trans hE56)
      refine qloadN (vs := [.slice A n c, .int .i64 root]) rfl (fun w' hw' j v hj => by have := qB w' hw' j v hj; simpa [Addr.add] using this) ?_
      refine qload (v := .int .i64 x.h) (fun w' hw' => qX w' hw' 2 _ rfl) ?_
      refine qload (v := .int .i64 x.v) (fun w' hw' => qX0 w' hw') ?_
      refine call (level_fn A n c root x.h nd _ (h.ext (hE5.trans hE56)) (by omega)) ?_
      rintro v w7 ⟨rfl, hE7⟩
      have hE57 := hE56.trans hE7
      refine ⟨hE57, ?_⟩
      refine wif_d (fun c10 => ?_) (fun c10 => ?_)
      · exact bad (fun hb => by have := hb.2.2.2.2.2.2.2.2.2; omega) _ (hE5.trans hE57)
      have hok : brOk nd s x := ⟨by omega, by omega, by omega, by omega, by omega, by omega, c7, c8, by omega, by omega⟩
      refine loadN_blk0 (hX5.ext hE57) rfl ?_
      refine at_mapUpdateQ (kv := brK) (a := x) gx_ok rfl rfl rfl rfl brKey rfl rfl rfl (hm5.ext hE57) (fun w8 hM8 hz8 hm8 => ?_)
      refine norm_i64_to ((s + 1 : Nat) : Int) (by omega) (by omega) ?_
      refine ⟨s + 1, rfl, ⟨(hM3.trans (Mod.of_ext (· = w1.heap.size) (hE35.trans hE57)) (fun i hi => .inl hi)).trans hM8 (fun i hi => .inl hi), by omega, fun j b hj hb => ?_, _, hm8, fun b => ?_⟩, by show n - (s + 1) < n - s; omega⟩
      · by_cases hjs : j < s
        · exact hall j b hjs hb
        · have : j = s := by omega
          subst this
          rw [Option.some.inj (hb.symm.trans hx)]; exact hok
      · rw [assoc_set, List.take_add_one, hx]
        by_cases hbx : b = x
        · subst hbx; simp
        · rw [if_neg hbx, hmem b]
          simp [hbx]
    · have : s = n := by omega
      subst this
      exact ⟨(), rfl, hM3, hall⟩
  rintro ⟨⟩ w3 ⟨hM3, hall⟩
  have hE3 : Ext w w3 := hM3.ext hE02 (fun i hi => by have := hE1.size; omega)
  have hB3 := hB2.mod hM3 (by omega)
  refine load_blk hB3 rfl ?_
  refine wif_d (fun c1 => ?_) (fun c1 => ?_)
  · exact ⟨by rw [chkD_no hsm (fun hv => by have := hv.2.1; omega)], hE3⟩
  refine load_blk hB3 rfl ?_
  refine load_blk0 hB3 rfl ?_
  refine norm_i64_to ((n : Int) + 1) rfl (by omega) ?_
  refine wif_d (fun c2 => ?_) (fun c2 => ?_)
  · exact ⟨by rw [chkD_no hsm (fun hv => by have := hv.2.2.1; omega)], hE3⟩
  have hwf : WfB nd := fun j x hx => by
    obtain ⟨_, _, h1, h2, h3, h4, _⟩ := hall j x (by have := (List.getElem?_eq_some_iff.1 hx).1; omega) hx
    exact ⟨h1, h2, h3, h4⟩
  refine load_blk0 hB3 rfl ?_
  refine new (fun w4 hE4 hz4 hB4 => ?_)
  have hE04 := hE3.trans hE4
  have hB34 := hB3.ext hE4
  refine load_blk hB34 rfl ?_
  refine call (diagram_fn w3.heap.size (.map none) A n c nd root w4 hB4 (h.ext hE04) hwf (by omega) (by omega) (by omega) (SB.lt (h.ext hE04))) ?_
  rintro v w5 ⟨OA, m, oc, rfl, hE5, hO5, _⟩
  refine new (fun w6 hE6 hz6 hB6 => ?_)
  refine storeN_blk0 hB6 rfl (sc rfl) (fun w7 hg7 hz7 hX7 => ?_)
  have hE57 : Ext w5 w7 := newBox hE6 hB6 hg7
  have hE07 := (hE04.trans hE5).trans hE57
  refine loadN_blk0 hX7 rfl ?_
  refine loadN_blk0 ((hB34.ext hE5).ext hE57) rfl ?_
  refine call (same_fn OA A m oc n c _ nd _ root w7 (hO5.ext hE57) (h.ext hE07)) ?_
  rintro v w8 ⟨rfl, hE8⟩
  have hE08 := hE07.trans hE8
  refine wif_not (wif_d (fun c3 => ?_) (fun c3 => ?_))
  · exact ⟨by rw [chkD_ok hsm ⟨fun j b hb => hall j b (by have := (List.getElem?_eq_some_iff.1 hb).1; omega) hb, by omega, by omega, c3⟩], hE08⟩
  · exact ⟨by rw [chkD_no hsm (fun hv => c3 hv.2.2.2)], hE08⟩
end
end
end Go.Proofs.YtedopgkbajhanaaGreatDoor

namespace Go.Proofs.YtedopgkbajhanaaGreatDoor
section
section
open Go Go.RowKit

theorem Blk.cell0 {w : World} {g t : Nat} {cs : List Value} (h : Blk w g t cs) : w.cell? ⟨g, 0, none⟩ = cs[0]? := by have := h.cell 0; simpa [Addr.add] using this

theorem rlevel_fn (A : Option Addr) (n c : Nat) (r m : Int) (nd : List Br) (w : World) (h : SB w A n c nd) (hm : m < n + 2) :
    Fn Tryz.prog 161 [dgV A n c r, .int .i64 m] w (fun v w' => v = .int .i64 (lvlD nd m) ∧ Ext w w') := by
  have hlen := h.2
  refine fn_of_exec (c := { c161 with cuts := [] }) gx_ok Tryz.func161 rfl rfl rfl ?_
  refine new (fun w1 hE1 hz1 hB1 => ?_)
  refine wif_d (fun h1 => ?_) (fun h1 => ?_)
  · exact ⟨by unfold lvlD; rw [if_pos h1], hE1⟩
  · refine load_blk0 hB1 rfl ?_
    refine norm_i64_to (((m - 2).toNat : Nat) : Int) (by omega) (by have := h.1.le; have := h.1.cap; simp only [maxLen] at this; omega) ?_
    refine index_sls br_len (h.ext hE1) rfl (by omega) (fun p x hx hc => ?_)
    refine load (hc 0 _ rfl) ?_
    exact ⟨by unfold lvlD; rw [if_neg h1, hx]; rfl, hE1⟩


theorem rsame_fn (A B : Option Addr) (n c m e : Nat) (l l' : List Br) (r r' : Int) (w : World) (h : SB w A n c l) (h' : SB w B m e l') :
    Fn Tryz.prog 38 [dgV A n c r, dgV B m e r'] w (fun v w' => v = .bool (decide ((l, r) = (l', r'))) ∧ Ext w w') := by
  have hl := h.2
  have hl' := h'.2
  have hcap : n ≤ 9223372036854775807 := by have := h.1.le; have := h.1.cap; simp only [maxLen] at this; omega
  refine fn_of_exec (c := { c38 with cuts := [] }) gx_ok Tryz.func38 rfl rfl rfl ?_
  refine new (fun w1 hE1 hz1 hB1 => ?_)
  refine new (fun w2 hE2 hz2 hB2 => ?_)
  have hB12 := hB1.ext hE2
  have hE02 := hE1.trans hE2
  refine load_blk hB12 rfl ?_
  refine load_blk hB2 rfl ?_
  refine wif_ne (fun h1 => ?_) (fun h1 => ?_)
  · exact ⟨by rw [decide_eq_false (fun e => h1 (by cases e; rfl))], hE02⟩
  refine load_blk0 hB12 rfl ?_
  refine load_blk0 hB2 rfl ?_
  refine wif_ne (fun h2 => ?_) (fun h2 => ?_)
  · exact ⟨by rw [decide_eq_false (fun e => h2 (by cases e; omega))], hE02⟩
  refine loop gx_ok [5] (fun s : Nat => [.int .i64 s]) (fun s w' => Ext w2 w' ∧ s ≤ n ∧ ∀ j, j < s → l[j]? = l'[j]?) (fun s _ => n - s) 0 rfl ⟨Ext.refl w2, Nat.zero_le _, fun j hj => absurd hj (by omega)⟩ ?_
  rintro s w3 ⟨hE3, hs, hall⟩
  have hX3 := hB12.ext hE3
  have hY3 := hB2.ext hE3
  have hE03 := hE02.trans hE3
  refine load_blk0 hX3 rfl ?_
  refine wif_d (fun h3 => ?_) (fun h3 => ?_)
  · refine draw_plan gx_ok (Ext w3) 11 [(true, 0), (true, 1), (true, 2), (true, 3), (true, 4), (true, 5), (true, 6), (true, 7), (true, 8), (true, 9), (true, 10)] (by kernel_rfl) (Ext.drew w3) ?_
    refine qload (v := .slice A n c) (fun w' hw' => by rw [(hX3.ext hw').cell]; rfl) ?_
    refine index_sls br_len (h.ext hE03) rfl (by omega) (fun p x hx hc => ?_)
    refine qloadN (vs := x.cells) rfl (fun w' hw' j v hj => hw'.cell (hc j v hj)) ?_
    refine qload (v := .slice B m e) (fun w' hw' => by rw [(hY3.ext hw').cell]; rfl) ?_
    refine index_sls br_len (h'.ext hE03) rfl (by omega) (fun q y hy hc' => ?_)
    refine qloadN (vs := y.cells) rfl (fun w' hw' j v hj => hw'.cell (hc' j v hj)) ?_
    have hEd := hE3.trans (Ext.drew w3)
    by_cases hxy : x = y
    · refine wif_f (by rw [eq3, decide_eq_true (br_eq.1 hxy)]; rfl) ?_
      refine norm_i64_to ((s + 1 : Nat) : Int) (by omega) (by omega) ?_
      refine ⟨s + 1, rfl, ⟨hEd, by omega, fun j hj => ?_⟩, by show n - (s + 1) < n - s; omega⟩
      by_cases hjs : j < s
      · exact hall j hjs
      · have : j = s := by omega
        subst this
        rw [hx, hy, hxy]
    · refine wif_t (by rw [eq3, decide_eq_false (fun e => hxy (br_eq.2 e))]; rfl) ?_
      refine ⟨?_, hE02.trans hEd⟩
      rw [decide_eq_false (fun e => list_ne hx hy hxy (by cases e; rfl))]
  · refine ⟨?_, hE03⟩
    have e1 := list_eq hl (by omega) (fun j hj => hall j (by omega))
    rw [decide_eq_true (by rw [e1, h1])]

theorem rbranch_fn (A : Option Addr) (n c : Nat) (r : Int) (s : Nat) (nd : List Br) (x : Br) (w : World) (h : SB w A n c nd) (hx : nd[s]? = some x) (hcap : n ≤ 1000000000000) :
    Fn Tryz.prog 129 [dgV A n c r, .int .i64 s] w (fun v w' => ∃ b, v = .bool b ∧ (b = true ↔ brOk nd s x) ∧ Ext w w') := by
  have hlen := h.2
  have hs : s < nd.length := (List.getElem?_eq_some_iff.1 hx).1
  refine fn_of_exec (c := { c129 with cuts := [] }) gx_ok Tryz.func129 rfl rfl rfl ?_
  refine new (fun w1 hE1 hz1 hB1 => ?_)
  refine load_blk0 hB1 rfl ?_
  refine index_sls br_len (h.ext hE1) rfl (by omega) (fun p y hy hc => ?_)
  have hyx : y = x := Option.some.inj (hy.symm.trans hx)
  subst hyx
  refine loadN_at (vs := y.cells) rfl hc ?_
  refine new (fun w4 hE4 hz4 hB4 => ?_)
  refine storeN_blk0 hB4 rfl (sc rfl) (fun w5 hg5 hz5 hX5 => ?_)
  have hE15 : Ext w1 w5 := newBox hE4 hB4 hg5
  have hE5 := hE1.trans hE15
  have hB5 := hB1.ext hE15
  have bad : ¬ brOk nd s y → ∀ w', Ext w w' → ∃ b, (Value.bool false : Value) = .bool b ∧ (b = true ↔ brOk nd s y) ∧ Ext w w' := fun hno w' hE => ⟨false, rfl, by simp [hno], hE⟩
  refine load_blk0 hX5 rfl ?_
  refine wif_d (fun c1 => ?_) (fun c1 => ?_)
  · exact bad (fun hb => by have := hb.1; omega) _ hE5
  refine load_blk0 hX5 rfl ?_
  refine wif_d (fun c2 => ?_) (fun c2 => ?_)
  · exact bad (fun hb => by have := hb.2.1; omega) _ hE5
  refine load_blk hX5 rfl ?_
  refine wif_d (fun c3 => ?_) (fun c3 => ?_)
  · exact bad (fun hb => by have := hb.2.2.1; omega) _ hE5
  refine load_blk hX5 rfl ?_
  refine wif_d (fun c4 => ?_) (fun c4 => ?_)
  · exact bad (fun hb => by have := hb.2.2.2.2.1; omega) _ hE5
  refine load_blk hX5 rfl ?_
  refine norm_i64_to ((s : Int) + 2) rfl (by omega) ?_
  refine wif_d (fun c5 => ?_) (fun c5 => ?_)
  · exact bad (fun hb => by have := hb.2.2.2.1; omega) _ hE5
  refine load_blk hX5 rfl ?_
  refine norm_i64_to ((s : Int) + 2) rfl (by omega) ?_
  refine wif_d (fun c6 => ?_) (fun c6 => ?_)
  · exact bad (fun hb => by have := hb.2.2.2.2.2.1; omega) _ hE5
  refine load_blk hX5 rfl ?_
  refine load_blk hX5 rfl ?_
  refine wif_eq (fun c7 => ?_) (fun c7 => ?_)
  · exact bad (fun hb => hb.2.2.2.2.2.2.1 c7) _ hE5
  have qB : ∀ w', Ext w5 w' → ∀ (j : Nat) (v : Value), [Value.slice A n c, .int .i64 r][j]? = some v → w'.cell? ((⟨w.heap.size, 0, none⟩ : Addr).add j) = some v := fun w' hw' j v hj => by rw [(hB5.ext hw').cell]; exact hj
  have qX : ∀ w', Ext w5 w' → ∀ (j : Nat) (v : Value), y.cells[j]? = some v → w'.cell? ((⟨w1.heap.size, 0, none⟩ : Addr).add j) = some v := fun w' hw' j v hj => by rw [(hX5.ext hw').cell]; exact hj
  have qX0 : ∀ w', Ext w5 w' → w'.cell? (⟨w1.heap.size, 0, none⟩ : Addr) = some (.int .i64 y.v) := fun w' hw' => by rw [(hX5.ext hw').cell0]; rfl
  refine draw_plan gx_ok (Ext w5) 16 [(true, 0), (true, 1), (true, 2), (true, 4), (true, 5), (false, 3), (true, 6), (true, 7), (true, 8), (true, 9), (true, 10), (true, 12), (true, 13), (false, 11), (true, 14), (true, 15)] (by kernel_rfl) (Ext.drew w5) ?_
  refine qloadN (vs := [.slice A n c, .int .i64 r]) rfl (fun w' hw' j v hj => by have := qB w' hw' j v hj; simpa [Addr.add] using this) ?_
  refine qload (v := .int .i64 y.l) (fun w' hw' => qX w' hw' 1 _ rfl) ?_
  refine qload (v := .int .i64 y.v) (fun w' hw' => qX0 w' hw') ?_
  refine call (rlevel_fn A n c r y.l nd _ (h.ext (hE5.trans (Ext.drew w5))) (by omega)) ?_
  rintro v w6 ⟨rfl, hE6⟩
  have hE56 := (Ext.drew w5).trans hE6
  refine ⟨hE56, ?_⟩
  refine wif_d (fun c9 => ?_) (fun c9 => ?_)
  · exact bad (fun hb => by have := hb.2.2.2.2.2.2.2.2.1; omega) _ (hE5.trans hE56)
  refine qloadN (vs := [.slice A n c, .int .i64 r]) rfl (fun w' hw' j v hj => by have := qB w' hw' j v hj; simpa [Addr.add] using this) ?_
  refine qload (v := .int .i64 y.h) (fun w' hw' => qX w' hw' 2 _ rfl) ?_
  refine qload (v := .int .i64 y.v) (fun w' hw' => qX0 w' hw') ?_
  refine call (rlevel_fn A n c r y.h nd _ (h.ext (hE5.trans hE56)) (by omega)) ?_
  rintro v w7 ⟨rfl, hE7⟩
  have hE57 := hE56.trans hE7
  refine ⟨hE57, ?_⟩
  refine wif_d (fun c10 => ?_) (fun c10 => ?_)
  · exact bad (fun hb => by have := hb.2.2.2.2.2.2.2.2.2; omega) _ (hE5.trans hE57)
  have hE07 := hE5.trans hE57
  refine loop gx_ok [6] (fun t : Nat => [.int .i64 t]) (fun t w' => Ext w7 w' ∧ t ≤ s ∧ y ∉ nd.take t) (fun t _ => s - t) 0 rfl ⟨Ext.refl w7, Nat.zero_le _, by simp⟩ ?_
  rintro t w8 ⟨hE8, ht, hno⟩
  have hB8 := (hB5.ext hE57).ext hE8
  have hX8 := (hX5.ext hE57).ext hE8
  have hE08 := hE07.trans hE8
  refine wif_d (fun h8 => ?_) (fun h8 => ?_)
  · refine draw_plan gx_ok (Ext w8) 7 [(true, 0), (true, 1), (true, 2), (true, 3), (true, 4), (true, 5), (true, 6)] (by kernel_rfl) (Ext.drew w8) ?_
    refine qload (v := .slice A n c) (fun w' hw' => by rw [(hB8.ext hw').cell]; rfl) ?_
    refine index_sls br_len (h.ext hE08) rfl (by omega) (fun p z hz hc => ?_)
    refine qloadN (vs := z.cells) rfl (fun w' hw' j v hj => hw'.cell (hc j v hj)) ?_
    refine qloadN (vs := y.cells) rfl (fun w' hw' j v hj => by have := (hX8.ext hw').cell j; simp [Addr.add] at this; rw [← hj]; simpa [Addr.add] using this) ?_
    have hEd := hE8.trans (Ext.drew w8)
    by_cases hzy : z = y
    · refine wif_t (by rw [eq3, decide_eq_true (br_eq.1 hzy)]) ?_
      refine bad (fun hb => hb.2.2.2.2.2.2.2.1 ?_) _ (hE07.trans hEd)
      subst hzy
      exact List.mem_of_getElem? (i := t) (by rw [List.getElem?_take_of_lt (by omega)]; exact hz)
    · refine wif_f (by rw [eq3, decide_eq_false (fun e => hzy (br_eq.2 e))]) ?_
      refine norm_i64_to ((t + 1 : Nat) : Int) (by omega) (by omega) ?_
      refine ⟨t + 1, rfl, ⟨hEd, by omega, ?_⟩, by show s - (t + 1) < s - t; omega⟩
      rw [List.take_add_one, hz]
      simp only [Option.toList_some, List.mem_append, List.mem_singleton, not_or]
      exact ⟨hno, fun e => hzy e.symm⟩
  · have : t = s := by omega
    subst this
    exact ⟨true, rfl, by simp only [true_iff]; exact ⟨by omega, by omega, by omega, by omega, by omega, by omega, c7, hno, by omega, by omega⟩, hE08⟩
end

section
open Go Go.RowKit

def natsV (l : List Nat) : List Value := l.map fun (x : Nat) => .int .i64 (x : Int)
theorem natsV_get {l : List Nat} {j x : Nat} (h : l[j]? = some x) : (natsV l)[j]? = some (.int .i64 (x : Int)) := by simp [natsV, h]
theorem natsV_length (l : List Nat) : (natsV l).length = l.length := by simp [natsV]
theorem natsV_set (l : List Nat) (i x : Nat) : natsV (l.set i x) = (natsV l).set i (.int .i64 (x : Int)) := by simp [natsV, List.map_set]

/-- What the walk writes. -/
def WS (x pg : Nat) (A : Option Addr) : Nat → Prop := fun k => k = x ∨ k = pg ∨ rowS A k
theorem WS.moved {w : World} {x pg : Nat} {A A' : Option Addr} (h : Moved w A A') : ∀ k, WS x pg A' k → WS x pg A k ∨ w.heap.size ≤ k := by
  rintro k (rfl | rfl | hk)
  · exact .inl (.inl rfl)
  · exact .inl (.inr (.inl rfl))
  · rcases h.rows k hk with h | h
    · exact .inl (.inr (.inr h))
    · exact .inr h
/-- The walk in memory. -/
structure Wk (w : World) (base x pg : Nat) (NA : Option Addr) (nn nc : Nat) (nd : List Br) (OA : Option Addr) (oc : Nat) (st : List Br × List Nat) : Prop where
  blk : Blk w x 226 [.slice NA nn nc, .slice (some ⟨pg, 0, none⟩) nn nn, .slice OA st.1.length oc]
  num : Blk w pg 3 (natsV st.2)
  own : Own w base 116 3 OA st.1.length oc (brV st.1)
  lt : x < base ∧ pg < base ∧ x ≠ pg
  top : base ≤ w.heap.size
  nds : SB w NA nn nc nd
  row : ∀ ad, NA = some ad → 0 < nn → ad.block < base ∧ ad.block ≠ x ∧ ad.block ≠ pg
  len : st.2.length = nn
theorem Wk.ext {w w' : World} {base x pg : Nat} {NA : Option Addr} {nn nc : Nat} {nd : List Br} {OA : Option Addr} {oc : Nat} {st : List Br × List Nat} (h : Wk w base x pg NA nn nc nd OA oc st) (k : Ext w w') : Wk w' base x pg NA nn nc nd OA oc st :=
  ⟨h.blk.ext k, h.num.ext k, h.own.ext k, h.lt, Nat.le_trans h.top k.size, h.nds.ext k, h.row, h.len⟩
theorem Wk.keep {w w' : World} {base x pg : Nat} {NA : Option Addr} {nn nc : Nat} {nd : List Br} {OA : Option Addr} {oc : Nat} {st : List Br × List Nat} (h : Wk w base x pg NA nn nc nd OA oc st) (hm : Mod (WS x pg OA) w w') : SB w' NA nn nc nd := by
  refine ⟨h.nds.1.modS hm ?_, h.nds.2⟩
  rintro h0 i ⟨ad, rfl, rfl⟩ hi
  obtain ⟨r1, r2, r3⟩ := h.row ad rfl h0
  rcases hi with hi | hi | hi
  · exact r2 hi
  · exact r3 hi
  · have := (h.own.rows _ hi).1; omega
def WTo (w : World) (base x pg : Nat) (NA : Option Addr) (nn nc : Nat) (nd : List Br) (OA : Option Addr) (st : List Br × List Nat) (w' : World) : Prop := ∃ OA' oc', Wk w' base x pg NA nn nc nd OA' oc' st ∧ Mod (WS x pg OA) w w' ∧ Moved w OA OA'

theorem rvisit_fn (base x pg : Nat) (NA : Option Addr) (nn nc : Nat) (nd : List Br) (hwf : WfB nd) (hnn : nn ≤ 1000000000000) : ∀ (m : Nat) (n : Int) (st : List Br × List Nat) (OA : Option Addr) (oc : Nat) (w : World),
    Wk w base x pg NA nn nc nd OA oc st → 0 ≤ n → n < m → n < nn + 2 → st.1.length + st.2.count 0 ≤ 1000000000000 →
    Fn Tryz.prog 162 [.pointer (some ⟨x, 0, none⟩), .int .i64 n] w (fun v w' => v = .int .i64 (vis nd m n st).1 ∧ WTo w base x pg NA nn nc nd OA (vis nd m n st).2 w')
  | 0, n, st, OA, oc, w, _, h0, hm, _, _ => by omega
  | m + 1, n, st, OA, oc, w, hK, h0, hm, hn, hc => by
    have ih := rvisit_fn base x pg NA nn nc nd hwf hnn m
    have hnl : nd.length = nn := hK.nds.2
    have hl := hK.len
    have hrows := hK.own.rows
    have hxlt := hK.blk.lt
    have hplt := hK.num.lt
    obtain ⟨lx, lp, lxp⟩ := hK.lt
    refine fn_of_exec (c := { c162 with cuts := [] }) gx_ok Tryz.func162 rfl rfl rfl ?_
    by_cases h1 : n < 2
    · refine wif_dt h1 ?_
      rw [vis_lt h1]
      exact ⟨rfl, OA, oc, hK, Mod.refl _ _, Moved.refl _ _⟩
    refine wif_df h1 ?_
    have hj : (n - 2).toNat < nn := by omega
    have hz : st.2[(n - 2).toNat]? = some st.2[(n - 2).toNat] := List.getElem?_eq_getElem (by omega)
    refine load_blk hK.blk rfl ?_
    refine norm_i64_to (((n - 2).toNat : Nat) : Int) (by omega) (by omega) ?_
    refine index (by omega) ?_
    refine load_blk hK.num (natsV_get hz) ?_
    have hd : st.2[(n - 2).toNat]?.getD 0 = st.2[(n - 2).toNat] := by rw [hz]; rfl
    by_cases h2 : 0 < st.2[(n - 2).toNat]?.getD 0
    · rw [vis_old h1 h2]
      rw [hd] at h2 ⊢
      refine wif_dt (by omega) ?_
      refine load_blk hK.blk rfl ?_
      refine norm_i64_to (((n - 2).toNat : Nat) : Int) (by omega) (by omega) ?_
      refine index (by omega) ?_
      refine load_blk hK.num (natsV_get hz) ?_
      exact ⟨rfl, OA, oc, hK, Mod.refl _ _, Moved.refl _ _⟩
    refine wif_df (by rw [hd] at h2; omega) ?_
    have hx := List.getElem?_eq_getElem (show (n - 2).toNat < nd.length by omega)
    generalize nd[(n - 2).toNat] = b at hx
    obtain ⟨x1, x2, x3, x4⟩ := hwf _ _ hx
    rw [vis_new h1 h2 hx]
    refine load_blk0 hK.blk rfl ?_
    refine norm_i64_to (((n - 2).toNat : Nat) : Int) (by omega) (by omega) ?_
    refine index_sls br_len hK.nds rfl (by omega) (fun ad y hy hcl => ?_)
    have hyx : y = b := Option.some.inj (hy.symm.trans hx)
    subst hyx
    refine loadN_at (vs := y.cells) rfl hcl ?_
    refine new (fun w1 hE1 hz1 hB1 => ?_)
    refine storeN_blk0 hB1 rfl (sc rfl) (fun w2 hg2 hz2 hX2 => ?_)
    have hE2 : Ext w w2 := newBox hE1 hB1 hg2
    have hM02 : Mod (WS x pg OA) w w2 := Mod.of_ext _ hE2
    have hbn : ¬ WS x pg OA w.heap.size := fun e => by
      rcases e with e | e | e
      · omega
      · omega
      · have := (hrows _ e).2; omega
    refine load_blk hX2 rfl ?_
    have f1 := vis_facts hwf m y.l st x1 (by omega) (by omega) (by omega)
    refine call (ih y.l st OA oc w2 (hK.ext hE2) x1 (by omega) (by omega) hc) ?_
    rintro v w3 ⟨rfl, OA3, oc3, hK3, hM3, hV3⟩
    have hX3 := hX2.mod hM3 hbn
    have hbn3 : ¬ WS x pg OA3 w.heap.size := fun e => (WS.moved hV3 _ e).elim hbn (fun h => by omega)
    refine load_blk hX3 rfl ?_
    have f2 := vis_facts hwf m y.h _ x3 (by omega) (by omega) f1.len
    have c1 := f1.cnt
    have c2 := f2.cnt
    refine call (ih y.h _ OA3 oc3 w3 hK3 x3 (by omega) (by omega) (by omega)) ?_
    rintro v w4 ⟨rfl, OA4, oc4, hK4, hM4, hV4⟩
    have hX4 := hX3.mod hM4 hbn3
    have hbn4 : ¬ WS x pg OA4 w.heap.size := fun e => (WS.moved hV4 _ e).elim hbn3 (fun h => by have := hM3.size; omega)
    have hM24 := hM3.trans hM4 (WS.moved hV3)
    have hV24 := hV3.trans hV4 hM3.size
    have hM04 : Mod (WS x pg OA) w w4 := hM02.trans hM24 (fun i hi => .inl hi)
    have hV04 := hV24.back hE2.size
    generalize (vis nd m y.l st) = a at *
    generalize (vis nd m y.h a.2) = b at *
    have hrows4 := hK4.own.rows
    have hnx : ¬ rowS OA4 x := fun e => by have := (hrows4 _ e).1; omega
    have hnp : ¬ rowS OA4 pg := fun e => by have := (hrows4 _ e).1; omega
    refine draw_plan gx_ok (Mod (rowS OA4) w4) 12 [(true, 0), (true, 1), (true, 2), (true, 3), (true, 4), (true, 5), (true, 6), (true, 7), (true, 8), (true, 9), (false, 10), (false, 11)] (by kernel_rfl) (Mod.of_ext _ (Ext.drew w4)) ?_
    refine qload (v := .slice OA4 b.2.1.length oc4) (fun w' hw' => by rw [(hK4.blk.mod hw' hnx).cell]; rfl) ?_
    refine qload (v := .int .i64 y.v) (fun w' hw' => by rw [(hX4.mod hw' (fun e => hbn4 (.inr (.inr e)))).cell]; rfl) ?_
    refine at_buildN gx_ok [(⟨y.v, a.1, b.1⟩ : Br).cells] rfl rfl rfl rfl rfl ⟨rfl, rfl, ⟨⟩⟩ rfl (fun cs h => by simp only [List.mem_singleton] at h; subst h; rfl) rfl (by decide) (by decide) ?_
    intro w5 hE5 hz5 hB5
    have hE45 := (Ext.drew w4).trans hE5
    have hK5 := hK4.ext hE45
    refine ⟨Mod.of_ext _ hE45, ?_⟩
    have hs5 : Sl w5 3 (some ⟨w4.drew.heap.size, 0, none⟩) 1 1 (⟨y.v, a.1, b.1⟩ : Br).cells := Sl.own (sz := 3) (n := 1) hB5 (Nat.le_refl _) (by decide) (by simp [Br.cells])
    refine at_app gx_ok rfl rfl rfl rfl rfl (by decide) rfl rfl ⟨_, rfl⟩ rfl rfl hK5.own hs5 (by intro u hu; simp [Br.cells] at hu; rcases hu with rfl | rfl | rfl <;> rfl) (by unfold maxLen; omega) (by show _ * 24 ≤ _; omega) hK5.top ?_
    intro OA6 oc6 w6 hM6 hown6 hV6
    have hM46 : Mod (rowS OA4) w4 w6 := (Mod.of_ext (rowS OA4) hE45).trans hM6 (fun i hi => .inl hi)
    refine ⟨hM46, ?_⟩
    refine store_mod (hK4.blk.mod hM46 hnx) (by simp) (fun w7 hM7 hB7 => ?_)
    have hN7 := (hK4.num.mod hM46 hnp).mod hM7 (fun e => lxp e.symm)
    have hlen : b.2.2.length = nn := hK4.len
    refine draw_plan gx_ok (Ext w7) 13 [(true, 0), (true, 1), (true, 2), (true, 3), (true, 4), (true, 5), (true, 6), (true, 7), (true, 8), (true, 9), (true, 10), (true, 11), (true, 12)] (by kernel_rfl) (Ext.drew w7) ?_
    refine qload (v := .slice (some ⟨pg, 0, none⟩) nn nn) (fun w' hw' => by rw [(hB7.ext hw').cell]; rfl) ?_
    refine norm_i64_to (((n - 2).toNat : Nat) : Int) (by omega) (by omega) ?_
    refine qload (v := .slice OA6 (b.2.1.length + 1) oc6) (fun w' hw' => by rw [(hB7.ext hw').cell]; rfl) ?_
    refine norm_i64_to ((b.2.1.length + 2 : Nat) : Int) (by omega) (by omega) ?_
    refine index (by omega) ?_
    refine store_mod (hN7.ext (Ext.drew w7)) (by rw [natsV_length]; omega) (fun w8 hM8 hB8 => ?_)
    rw [← natsV_set] at hB8
    have hB8' := (hB7.ext (Ext.drew w7)).mod hM8 lxp
    refine load_blk hB8' rfl ?_
    refine norm_i64_to ((b.2.1.length + 2 : Nat) : Int) (by omega) (by omega) ?_
    have hM48 : Mod (WS x pg OA4) w4 w8 := (((hM46.mono (fun i hi => .inl (.inr (.inr hi)))).trans hM7 (fun i hi => .inl (.inl hi))).trans (Mod.of_ext (WS x pg OA4) (Ext.drew w7)) (fun i hi => .inl hi)).trans hM8 (fun i hi => .inl (.inr (.inl hi)))
    have hrows6 := hown6.rows
    have el : (b.2.1 ++ [(⟨y.v, a.1, b.1⟩ : Br)]).length = b.2.1.length + 1 := by simp
    refine ⟨rfl, OA6, oc6, ⟨?_, ?_, ?_, hK.lt, ?_, hK4.keep hM48, hK.row, ?_⟩, hM04.trans hM48 (WS.moved hV04), ?_⟩
    · rw [el]; exact hB8'
    · exact hB8
    · rw [el, brV_snoc]
      refine ((hown6.mod hM7 (fun i hi e => ?_)).ext (Ext.drew w7)).mod hM8 (fun i hi e => ?_)
      · have := (hrows6 i hi).1; omega
      · have := (hrows6 i hi).1; omega
    · have := hK4.top; have := hM48.size; omega
    · rw [List.length_set]; exact hlen
    · exact hV04.trans (hV6.back hE45.size) hM04.size

theorem rnumbered_fn (NA : Option Addr) (nn nc : Nat) (nd : List Br) (root : Int) (w : World) (hN : SB w NA nn nc nd) (hwf : WfB nd) (hnn : nn ≤ 1000000000000) (h0 : 0 ≤ root) (hr : root < nn + 2) :
    Fn Tryz.prog 130 [.slice NA nn nc, .int .i64 root] w (DgRes w (numberedD nd root)) := by
  have hnl : nd.length = nn := hN.2
  have hrow := SB.lt hN
  refine fn_of_exec (c := { c130 with cuts := [] }) gx_ok Tryz.func130 rfl rfl rfl ?_
  refine new (fun w1 hE1 hz1 hB1 => ?_)
  refine at_make gx_ok rfl rfl rfl rfl rfl rfl rfl rfl (by show 8 * nn ≤ _; omega) (by unfold maxLen; omega) (fun w2 hE2 hz2 hB2 => ?_)
  refine new (fun w3 hE3 hz3 hB3 => ?_)
  have hE03 := (hE1.trans hE2).trans hE3
  have hW : Wk w3 w3.heap.size w2.heap.size w1.heap.size NA nn nc nd none 0 ([], List.replicate nd.length 0) := by
    refine ⟨hB3, ?_, Own.nil _ _ _ _, ⟨by omega, by omega, by omega⟩, Nat.le_refl _, hN.ext hE03, fun ad e hn => ?_, by simp [hnl]⟩
    · have := hB2.ext hE3
      rw [hnl]
      simpa [natsV] using this
    · have := hrow ad e hn
      exact ⟨by omega, by omega, by omega⟩
  refine call (rvisit_fn w3.heap.size w2.heap.size w1.heap.size NA nn nc nd hwf hnn (root.toNat + 1) root _ none 0 w3 hW h0 (by omega) hr (by simp; omega)) ?_
  rintro v w4 ⟨rfl, OA, oc, hK, hM4, hV4⟩
  refine load_blk hK.blk rfl ?_
  have hR4 := ((hB1.ext hE2).ext hE3).mod hM4 (fun e => by
    rcases e with e | e | ⟨_, e, _⟩
    · omega
    · omega
    · cases e)
  refine storeN_blk0 hR4 rfl (sc rfl) (fun w5 hg5 _ hB5 => ?_)
  have hM5 : Mod (· = w.heap.size) w4 w5 := Mod.of_grown hg5 rfl
  refine loadN_blk0 hB5 rfl ?_
  have hE4 : Ext w w4 := hM4.ext hE03 (fun i hi => by
    rcases hi with e | e | ⟨_, e, _⟩
    · omega
    · omega
    · cases e)
  exact ⟨OA, _, oc, rfl, hM5.ext hE4 (fun i hi => by omega), ⟨(hK.own.mod hM5 (fun i hi e => by have := (hK.own.rows i hi).1; omega)).sl, rfl⟩, fun i hi => Nat.le_trans hE03.size (hK.own.rows i hi).1⟩

theorem rvalid_fn (A : Option Addr) (n c : Nat) (nd : List Br) (root : Int) (w : World) (h : SB w A n c nd) (hn : n ≤ 1000000000000) :
    Fn Tryz.prog 96 [dgV A n c root] w (fun v w' => ∃ b, v = .bool b ∧ (b = true ↔ VD nd root) ∧ Ext w w') := by
  have hlen := h.2
  refine fn_of_exec (c := { c96 with cuts := [] }) gx_ok Tryz.func96 rfl rfl rfl ?_
  refine new (fun w1 hE1 hz1 hB1 => ?_)
  have bad : ¬ VD nd root → ∀ w', Ext w w' → ∃ b, (Value.bool false : Value) = .bool b ∧ (b = true ↔ VD nd root) ∧ Ext w w' := fun hno w' hE => ⟨false, rfl, by simp [hno], hE⟩
  refine load_blk hB1 rfl ?_
  refine wif_d (fun c1 => ?_) (fun c1 => ?_)
  · exact bad (fun hv => by have := hv.2.1; omega) _ hE1
  refine load_blk hB1 rfl ?_
  refine load_blk0 hB1 rfl ?_
  refine norm_i64_to ((n : Int) + 2) rfl (by omega) ?_
  refine wif_d (fun c2 => ?_) (fun c2 => ?_)
  · exact bad (fun hv => by have := hv.2.2.1; omega) _ hE1
  refine loop gx_ok [3] (fun s : Nat => [.int .i64 s]) (fun s w' => Ext w1 w' ∧ s ≤ n ∧ ∀ (j : Nat) (b : Br), j < s → nd[j]? = some b → brOk nd j b) (fun s _ => n - s) 0 rfl ⟨Ext.refl _, Nat.zero_le _, fun j b hj => absurd hj (by omega)⟩ ?_
  rintro s w2 ⟨hE2, hs, hall⟩
  have hB2 := hB1.ext hE2
  have hE02 := hE1.trans hE2
  refine load_blk0 hB2 rfl ?_
  refine wif_d (fun h3 => ?_) (fun h3 => ?_)
  · have hx : nd[s]? = some nd[s] := List.getElem?_eq_getElem (by omega)
    generalize nd[s] = x at hx
    refine loadN_blk0 hB2 rfl ?_
    refine call (rbranch_fn A n c root s nd x w2 (h.ext hE02) hx hn) ?_
    rintro v w3 ⟨b, rfl, hb, hE3⟩
    refine wif_not (wif (fun hbt => ?_) (fun hbf => ?_))
    · refine norm_i64_to ((s + 1 : Nat) : Int) (by omega) (by omega) ?_
      refine ⟨s + 1, rfl, ⟨hE2.trans hE3, by omega, fun j y hj hy => ?_⟩, by show n - (s + 1) < n - s; omega⟩
      by_cases hjs : j < s
      · exact hall j y hjs hy
      · have : j = s := by omega
        subst this
        rw [Option.some.inj (hy.symm.trans hx)]; exact hb.1 hbt
    · exact bad (fun hv => by have := hb.2 (hv.1 s x hx); rw [hbf] at this; cases this) _ (hE02.trans hE3)
  · have : s = n := by omega
    subst this
    have hwf : WfB nd := fun j x hx => by
      obtain ⟨_, _, h1, h2, h3, h4, _⟩ := hall j x (by have := (List.getElem?_eq_some_iff.1 hx).1; omega) hx
      exact ⟨h1, h2, h3, h4⟩
    refine draw_plan gx_ok (Ext w2) 7 [(true, 0), (true, 1), (true, 2), (true, 3), (true, 4), (false, 5), (false, 6)] (by kernel_rfl) (Ext.drew w2) ?_
    refine qloadN (vs := [.slice A s c, .int .i64 root]) rfl (fun w' hw' j v hj => by rw [(hB2.ext hw').cell]; exact hj) ?_
    refine qload (v := .slice A s c) (fun w' hw' => by rw [(hB2.ext hw').cell]; rfl) ?_
    refine qload (v := .int .i64 root) (fun w' hw' => by rw [(hB2.ext hw').cell]; rfl) ?_
    have hEd := hE02.trans (Ext.drew w2)
    refine call (rnumbered_fn A s c nd root _ (h.ext hEd) hwf hn (by omega) (by omega)) ?_
    rintro v w3 ⟨OA, m, oc, rfl, hE3, hO3, _⟩
    have hE23 := (Ext.drew w2).trans hE3
    refine ⟨hE23, ?_⟩
    refine call (rsame_fn A OA s c m oc nd _ root _ w3 (h.ext (hE02.trans hE23)) hO3) ?_
    rintro v w4 ⟨rfl, hE4⟩
    refine ⟨hE23.trans hE4, ?_⟩
    refine ⟨_, rfl, ?_, (hE02.trans hE23).trans hE4⟩
    rw [decide_eq_true_eq]
    exact ⟨fun e => ⟨fun j b hb => hall j b (by have := (List.getElem?_eq_some_iff.1 hb).1; omega) hb, by omega, by omega, e.symm⟩, fun hv => hv.2.2.2.symm⟩

theorem rcheck2_fn (A : Option Addr) (n c : Nat) (nd : List Br) (root : Int) (w : World) (h : SB w A n c nd) :
    Fn Tryz.prog 55 [dgV A n c root] w (fun v w' => v = .int .i64 (chkD nd root) ∧ Ext w w') := by
  have hlen := h.2
  refine fn_of_exec (c := { c55 with cuts := [] }) gx_ok Tryz.func55 rfl rfl rfl ?_
  refine new (fun w1 hE1 hz1 hB1 => ?_)
  refine load_blk0 hB1 rfl ?_
  refine wif_d (fun h1 => ?_) (fun h1 => ?_)
  · exact ⟨by rw [chkD_large (by omega)], hE1⟩
  have hsm : ¬ 4096 < nd.length := by omega
  refine loadN_blk0 hB1 rfl ?_
  refine call (rvalid_fn A n c nd root w1 (h.ext hE1) (by omega)) ?_
  rintro v w2 ⟨b, rfl, hb, hE2⟩
  refine wif_not (wif (fun hbt => ?_) (fun hbf => ?_))
  · exact ⟨by rw [chkD_ok hsm (hb.1 hbt)], hE1.trans hE2⟩
  · exact ⟨by rw [chkD_no hsm (fun hv => by have := hb.2 hv; rw [hbf] at this; cases this)], hE1.trans hE2⟩
end

section
open Go Go.RowKit

/-- Where a branch stands first. -/
def fstIdx (b : Br) : List Br → Option Nat
  | [] => none
  | x :: l => if x = b then some 0 else (fstIdx b l).map (· + 1)
theorem fstIdx_some {b : Br} : ∀ {l : List Br} {s : Nat}, (∀ j, j < s → l[j]? ≠ some b) → l[s]? = some b → fstIdx b l = some s
  | [], s, _, h => by simp at h
  | x :: l, 0, _, h => by simp at h; simp [fstIdx, h]
  | x :: l, s + 1, hn, h => by
    have hx : x ≠ b := fun e => hn 0 (by omega) (by simp [e])
    have := fstIdx_some (l := l) (s := s) (fun j hj => by have := hn (j + 1) (by omega); simpa using this) (by simpa using h)
    simp [fstIdx, hx, this]
theorem fstIdx_none {b : Br} : ∀ {l : List Br}, (∀ j, j < l.length → l[j]? ≠ some b) → fstIdx b l = none
  | [], _ => rfl
  | x :: l, hn => by
    have hx : x ≠ b := fun e => hn 0 (by simp) (by simp [e])
    have := fstIdx_none (l := l) (fun j hj => by have := hn (j + 1) (by simpa using hj); simpa using this)
    simp [fstIdx, hx, this]
def uniqD (b : Br) (l : List Br) : List Br × Int := if b.l = b.h then (l, b.l) else match fstIdx b l with
  | some i => (l, ((i + 2 : Nat) : Int))
  | none => (l ++ [b], ((l.length + 2 : Nat) : Int))
theorem uniqD_len (b : Br) (l : List Br) : l.length ≤ (uniqD b l).1.length := by
  unfold uniqD
  split
  · exact Nat.le_refl _
  · split
    · exact Nat.le_refl _
    · simp

def constD (op x y : Int) : Int := if op = 0 then x * y else if op = 1 then max x y else if op = 3 then 1 - x else (x + y) % 2
def sideD (d : List Br) (n v : Int) : Int × Int := if lvlD d n ≠ v then (n, n) else match d[(n - 2).toNat]? with
  | some b => (b.l, b.h)
  | none => (n, n)
abbrev Tr3 := Int × Int × Int
def at2 (a b : List Br) (op : Int) : Nat → Int → Int → List Br × List Tr3 → Int × (List Br × List Tr3)
  | 0, _, _, st => (0, st)
  | m + 1, x, y, st => if x < 2 ∧ y < 2 then (constD op x y, st) else
      match st.2.find? (fun t => decide (t.1 = x ∧ t.2.1 = y)) with
      | some t => (t.2.2, st)
      | none =>
        let v := min (lvlD a x) (lvlD b y)
        let r0 := at2 a b op m (sideD a x v).1 (sideD b y v).1 st
        let r1 := at2 a b op m (sideD a x v).2 (sideD b y v).2 r0.2
        let u := uniqD ⟨v, r0.1, r1.1⟩ r1.2.1
        (u.2, (u.1, r1.2.2 ++ [(x, y, u.2)]))
theorem at2_c {a b : List Br} {op : Int} {m : Nat} {x y : Int} {st : List Br × List Tr3} (h : x < 2 ∧ y < 2) : at2 a b op (m + 1) x y st = (constD op x y, st) := by rw [at2, if_pos h]
theorem at2_s {a b : List Br} {op : Int} {m : Nat} {x y : Int} {st : List Br × List Tr3} {t : Tr3} (h : ¬ (x < 2 ∧ y < 2)) (k : st.2.find? (fun t => decide (t.1 = x ∧ t.2.1 = y)) = some t) : at2 a b op (m + 1) x y st = (t.2.2, st) := by rw [at2, if_neg h, k]
theorem at2_n {a b : List Br} {op : Int} {m : Nat} {x y : Int} {st : List Br × List Tr3} (h : ¬ (x < 2 ∧ y < 2)) (k : st.2.find? (fun t => decide (t.1 = x ∧ t.2.1 = y)) = none) (v : Int) (hv : min (lvlD a x) (lvlD b y) = v) :
    at2 a b op (m + 1) x y st = ((uniqD ⟨v, (at2 a b op m (sideD a x v).1 (sideD b y v).1 st).1, (at2 a b op m (sideD a x v).2 (sideD b y v).2 (at2 a b op m (sideD a x v).1 (sideD b y v).1 st).2).1⟩ (at2 a b op m (sideD a x v).2 (sideD b y v).2 (at2 a b op m (sideD a x v).1 (sideD b y v).1 st).2).2.1).2,
      ((uniqD ⟨v, (at2 a b op m (sideD a x v).1 (sideD b y v).1 st).1, (at2 a b op m (sideD a x v).2 (sideD b y v).2 (at2 a b op m (sideD a x v).1 (sideD b y v).1 st).2).1⟩ (at2 a b op m (sideD a x v).2 (sideD b y v).2 (at2 a b op m (sideD a x v).1 (sideD b y v).1 st).2).2.1).1,
        (at2 a b op m (sideD a x v).2 (sideD b y v).2 (at2 a b op m (sideD a x v).1 (sideD b y v).1 st).2).2.2 ++ [(x, y, (uniqD ⟨v, (at2 a b op m (sideD a x v).1 (sideD b y v).1 st).1, (at2 a b op m (sideD a x v).2 (sideD b y v).2 (at2 a b op m (sideD a x v).1 (sideD b y v).1 st).2).1⟩ (at2 a b op m (sideD a x v).2 (sideD b y v).2 (at2 a b op m (sideD a x v).1 (sideD b y v).1 st).2).2.1).2)])) := by
  subst hv; rw [at2, if_neg h, k]
theorem at2_mono (a b : List Br) (op : Int) : ∀ (m : Nat) (x y : Int) (st : List Br × List Tr3), st.1.length ≤ (at2 a b op m x y st).2.1.length ∧ st.2.length ≤ (at2 a b op m x y st).2.2.length
  | 0, x, y, st => ⟨Nat.le_refl _, Nat.le_refl _⟩
  | m + 1, x, y, st => by
    by_cases h : x < 2 ∧ y < 2
    · rw [at2_c h]; exact ⟨Nat.le_refl _, Nat.le_refl _⟩
    cases k : st.2.find? (fun t => decide (t.1 = x ∧ t.2.1 = y)) with
    | some t => rw [at2_s h k]; exact ⟨Nat.le_refl _, Nat.le_refl _⟩
    | none =>
      rw [at2_n h k _ rfl]
      have h1 := at2_mono a b op m (sideD a x (min (lvlD a x) (lvlD b y))).1 (sideD b y (min (lvlD a x) (lvlD b y))).1 st
      have h2 := at2_mono a b op m (sideD a x (min (lvlD a x) (lvlD b y))).2 (sideD b y (min (lvlD a x) (lvlD b y))).2 (at2 a b op m (sideD a x (min (lvlD a x) (lvlD b y))).1 (sideD b y (min (lvlD a x) (lvlD b y))).1 st).2
      refine ⟨Nat.le_trans (Nat.le_trans h1.1 h2.1) (uniqD_len _ _), ?_⟩
      simp only [List.length_append]
      omega

/-- Children come first, and the conditions are conditions. -/
def DOk (nd : List Br) : Prop := WfB nd ∧ ∀ (j : Nat) (b : Br), nd[j]? = some b → 0 ≤ b.v ∧ b.v ≤ 63
theorem VD.dok {nd : List Br} {r : Int} (h : VD nd r) : DOk nd := ⟨h.wf, fun j b hb => ⟨(h.1 j b hb).1, (h.1 j b hb).2.1⟩⟩
theorem sideD_le {nd : List Br} (h : DOk nd) {n v : Int} (h0 : 0 ≤ n) (h64 : v < 64) : 0 ≤ (sideD nd n v).1 ∧ (sideD nd n v).1 ≤ n ∧ 0 ≤ (sideD nd n v).2 ∧ (sideD nd n v).2 ≤ n ∧ (lvlD nd n = v → (sideD nd n v).1 < n ∧ (sideD nd n v).2 < n) := by
  unfold sideD
  split
  · rename_i hv; exact ⟨h0, Int.le_refl _, h0, Int.le_refl _, fun e => absurd e hv⟩
  · rename_i hv
    have hv := Decidable.not_not.1 hv
    have h2n : ¬ n < 2 := fun h2 => by
      unfold lvlD at hv
      rw [if_pos h2] at hv
      omega
    cases hx : nd[(n - 2).toNat]? with
    | none =>
      unfold lvlD at hv
      rw [if_neg h2n, hx] at hv
      simp at hv
      omega
    | some b =>
      obtain ⟨h1, h2, h3, h4⟩ := h.1 _ _ hx
      exact ⟨h1, by simp only; omega, h3, by simp only; omega, fun _ => ⟨by simp only; omega, by simp only; omega⟩⟩
theorem lvl_lt {nd : List Br} (h : DOk nd) {n : Int} (h2 : ¬ n < 2) (hn : n < nd.length + 2) : lvlD nd n < 64 := by
  unfold lvlD
  have hx := List.getElem?_eq_getElem (show (n - 2).toNat < nd.length by omega)
  rw [if_neg h2, hx]
  have := (h.2 _ _ hx).2
  simp only [Option.map_some, Option.getD_some]
  omega
theorem unique_fn (base : Nat) (A : Option Addr) (n c : Nat) (l : List Br) (b : Br) (w : World) (h : Own w base 116 3 A n c (brV l)) (hn : l.length = n) (hb : base ≤ w.heap.size) (hl : n + 1 ≤ 1000000000000) :
    Fn Tryz.prog 182 [.slice A n c, .agg b.cells.toArray] w (fun v w' => ∃ A' c', v = .tuple #[.slice A' (uniqD b l).1.length c', .int .i64 (uniqD b l).2] ∧ Own w' base 116 3 A' (uniqD b l).1.length c' (brV (uniqD b l).1) ∧ Mod (rowS A) w w' ∧ Moved w A A') := by
  have hsb : SB w A n c l := ⟨h.sl, hn⟩
  refine fn_of_exec (c := { c182 with cuts := [] }) gx_ok Tryz.func182 rfl rfl rfl ?_
  refine new (fun w1 hE1 hz1 hB1 => ?_)
  have hM1 : Mod (rowS A) w w1 := Mod.of_ext _ hE1
  refine load_blk hB1 rfl ?_
  refine load_blk hB1 rfl ?_
  refine wif_eq (fun h1 => ?_) (fun h1 => ?_)
  · have e : uniqD b l = (l, b.l) := by unfold uniqD; rw [if_pos h1]
    rw [e]
    refine draw_plan gx_ok (Ext w1) 5 [(true, 0), (true, 1), (true, 2), (true, 3), (true, 4)] (by kernel_rfl) (Ext.drew w1) ?_
    refine qload (v := .int .i64 b.l) (fun w' hw' => by rw [(hB1.ext hw').cell]; rfl) ?_
    have hEd := hE1.trans (Ext.drew w1)
    rw [hn]
    exact ⟨A, c, rfl, h.ext hEd, Mod.of_ext _ hEd, Moved.refl _ _⟩
  have e0 : uniqD b l = match fstIdx b l with
    | some i => (l, ((i + 2 : Nat) : Int))
    | none => (l ++ [b], ((l.length + 2 : Nat) : Int)) := by unfold uniqD; rw [if_neg h1]
  refine loop gx_ok [6] (fun s : Nat => [.int .i64 s]) (fun s w' => Ext w1 w' ∧ s ≤ n ∧ ∀ j, j < s → l[j]? ≠ some b) (fun s _ => n - s) 0 rfl ⟨Ext.refl _, Nat.zero_le _, fun j hj => absurd hj (by omega)⟩ ?_
  rintro s w2 ⟨hE2, hs, hno⟩
  have hE02 := hE1.trans hE2
  have hB2 := hB1.ext hE2
  refine wif_d (fun h3 => ?_) (fun h3 => ?_)
  · refine draw_plan gx_ok (Ext w2) 6 [(true, 0), (true, 1), (true, 2), (true, 3), (true, 4), (true, 5)] (by kernel_rfl) (Ext.drew w2) ?_
    refine index_sls br_len (hsb.ext hE02) rfl (by omega) (fun p z hz hc => ?_)
    refine qloadN (vs := z.cells) rfl (fun w' hw' j v hj => hw'.cell (hc j v hj)) ?_
    refine qloadN (vs := b.cells) rfl (fun w' hw' j v hj => by rw [(hB2.ext hw').cell]; exact hj) ?_
    have hEd := hE2.trans (Ext.drew w2)
    by_cases hzb : z = b
    · refine wif_t (by rw [eq3, decide_eq_true (br_eq.1 hzb)]) ?_
      subst hzb
      rw [fstIdx_some hno hz] at e0
      simp only at e0
      rw [e0]
      refine norm_i64_to ((s + 2 : Nat) : Int) (by omega) (by omega) ?_
      rw [hn]
      exact ⟨A, c, rfl, h.ext (hE1.trans hEd), Mod.of_ext _ (hE1.trans hEd), Moved.refl _ _⟩
    · refine wif_f (by rw [eq3, decide_eq_false (fun e => hzb (br_eq.2 e))]) ?_
      refine norm_i64_to ((s + 1 : Nat) : Int) (by omega) (by omega) ?_
      refine ⟨s + 1, rfl, ⟨hEd, by omega, fun j hj => ?_⟩, by show n - (s + 1) < n - s; omega⟩
      by_cases hjs : j < s
      · exact hno j hjs
      · have : j = s := by omega
        subst this
        rw [hz]
        exact fun e => hzb (Option.some.inj e)
  · have : s = n := by omega
    subst this
    rw [fstIdx_none (by rw [hn]; exact hno)] at e0
    simp only at e0
    rw [e0]
    refine loadN_blk0 hB2 rfl ?_
    refine at_buildN gx_ok [b.cells] rfl rfl rfl rfl rfl ⟨rfl, rfl, ⟨⟩⟩ rfl (fun cs h => by simp only [List.mem_singleton] at h; subst h; rfl) rfl (by decide) (by decide) ?_
    intro w3 hE3 hz3 hB3
    have hE03 := hE02.trans hE3
    have hs3 : Sl w3 3 (some ⟨w2.heap.size, 0, none⟩) 1 1 b.cells := Sl.own (sz := 3) (n := 1) hB3 (Nat.le_refl _) (by decide) (by simp [Br.cells])
    refine at_app gx_ok rfl rfl rfl rfl rfl (by decide) rfl rfl ⟨_, rfl⟩ rfl rfl (h.ext hE03) hs3 (by intro u hu; simp [Br.cells] at hu; rcases hu with rfl | rfl | rfl <;> rfl) (by unfold maxLen; omega) (by show _ * 24 ≤ _; omega) (Nat.le_trans hb hE03.size) ?_
    intro A' c' w4 hM4 hown4 hV4
    refine norm_i64_to ((s + 2 : Nat) : Int) (by omega) (by omega) ?_
    have el : (l ++ [b]).length = s + 1 := by rw [List.length_append, hn]; rfl
    rw [el, hn]
    refine ⟨A', c', rfl, ?_, (Mod.of_ext (rowS A) hE03).trans hM4 (fun i hi => .inl hi), hV4.back hE03.size⟩
    rw [brV_snoc]; exact hown4
end

section
open Go Go.RowKit

theorem constant_fn (pb : Nat) (cs : List Value) (op x y : Int) (w : World) (h : Blk w pb 222 cs) (hc : cs[4]? = some (.int .i64 op)) (x0 : 0 ≤ x) (x1 : x < 2) (y0 : 0 ≤ y) (y1 : y < 2) (ho : op ≠ 3) :
    Fn Tryz.prog 180 [.pointer (some ⟨pb, 0, none⟩), .int .i64 x, .int .i64 y] w (fun v w' => v = .int .i64 (constD op x y) ∧ w = w') := by
  refine fn_of_exec (c := { c180 with cuts := [] }) gx_ok Tryz.func180 rfl rfl rfl ?_
  refine load_blk h hc ?_
  refine wif_eq (fun c0 => ?_) (fun c0 => ?_)
  · have : 0 ≤ x * y ∧ x * y ≤ 1 := by
      rcases (by omega : x = 0 ∨ x = 1) with rfl | rfl <;> rcases (by omega : y = 0 ∨ y = 1) with rfl | rfl <;> decide
    refine norm_i64_to (x * y) rfl (by omega) ?_
    exact ⟨by unfold constD; rw [if_pos c0], rfl⟩
  refine wif_eq (fun c1 => ?_) (fun c1 => ?_)
  · refine norm (m := max x y) (by rw [Int.max_def]; split <;> split <;> omega) ?_
    exact ⟨by unfold constD; rw [if_neg c0, if_pos c1], rfl⟩
  · refine norm_i64_to (x + y) rfl (by omega) ?_
    refine normIf (m := (x + y) % 2) (by decide) (Int.tmod_eq_emod_of_nonneg (by omega)) ?_
    exact ⟨by unfold constD; rw [if_neg c0, if_neg c1, if_neg ho], rfl⟩

theorem sides_fn (A : Option Addr) (n c : Nat) (r m v : Int) (nd : List Br) (w : World) (h : SB w A n c nd) (hm : m < n + 2) (h64 : v < 64) :
    Fn Tryz.prog 181 [dgV A n c r, .int .i64 m, .int .i64 v] w (fun u w' => u = .tuple #[.int .i64 (sideD nd m v).1, .int .i64 (sideD nd m v).2] ∧ Ext w w') := by
  have hlen := h.2
  have hcap : n ≤ 9223372036854775807 := by have := h.1.le; have := h.1.cap; simp only [maxLen] at this; omega
  refine fn_of_exec (c := { c181 with cuts := [] }) gx_ok Tryz.func181 rfl rfl rfl ?_
  refine new (fun w1 hE1 hz1 hB1 => ?_)
  refine loadN_blk0 hB1 rfl ?_
  refine call (rlevel_fn A n c r m nd w1 (h.ext hE1) hm) ?_
  rintro u w2 ⟨rfl, hE2⟩
  have hE02 := hE1.trans hE2
  have hB2 := hB1.ext hE2
  refine wif_ne (fun c1 => ?_) (fun c1 => ?_)
  · exact ⟨by unfold sideD; rw [if_pos c1], hE02⟩
  · have h2n : ¬ m < 2 := fun h2 => by
      unfold lvlD at c1
      rw [if_pos h2] at c1
      omega
    have hx := List.getElem?_eq_getElem (show (m - 2).toNat < nd.length by omega)
    generalize nd[(m - 2).toNat] = b at hx
    have e : sideD nd m v = (b.l, b.h) := by unfold sideD; rw [if_neg (by omega), hx]
    rw [e]
    refine draw_plan gx_ok (Ext w2) 16 [(true, 0), (true, 1), (true, 2), (true, 3), (true, 4), (true, 5), (true, 6), (true, 7), (true, 8), (true, 9), (true, 10), (true, 11), (true, 12), (true, 13), (true, 14), (true, 15)] (by kernel_rfl) (Ext.drew w2) ?_
    refine qload (v := .slice A n c) (fun w' hw' => by rw [(hB2.ext hw').cell]; rfl) ?_
    refine norm_i64_to (((m - 2).toNat : Nat) : Int) (by omega) (by omega) ?_
    refine index_sls br_len (h.ext hE02) rfl (by omega) (fun p z hz hc => ?_)
    have hzb : z = b := Option.some.inj (hz.symm.trans hx)
    subst hzb
    refine qload (v := .int .i64 z.l) (fun w' hw' => hw'.cell (hc 1 _ rfl)) ?_
    refine qload (v := .slice A n c) (fun w' hw' => by rw [(hB2.ext hw').cell]; rfl) ?_
    refine norm_i64_to (((m - 2).toNat : Nat) : Int) (by omega) (by omega) ?_
    refine index_sls br_len (h.ext hE02) rfl (by omega) (fun p' z' hz' hc' => ?_)
    have hzb' : z' = z := Option.some.inj (hz'.symm.trans hx)
    subst hzb'
    refine qload (v := .int .i64 z'.h) (fun w' hw' => hw'.cell (hc' 2 _ rfl)) ?_
    exact ⟨rfl, hE02.trans (Ext.drew w2)⟩

def Tr3.cells (t : Tr3) : List Value := [.int .i64 t.1, .int .i64 t.2.1, .int .i64 t.2.2]
theorem tr_len (t : Tr3) : (Tr3.cells t).length = 3 := rfl
def trV (l : List Tr3) : List Value := l.flatMap Tr3.cells
theorem trV_snoc (l : List Tr3) (x : Tr3) : trV (l ++ [x]) = trV l ++ Tr3.cells x := by simp [trV]

/-- What an operation writes. -/
def AS (pb : Nat) (NA SA : Option Addr) : Nat → Prop := fun k => k = pb ∨ rowS NA k ∨ rowS SA k
theorem AS.moved {w : World} {pb : Nat} {NA NA' SA SA' : Option Addr} (h : Moved w NA NA') (h' : Moved w SA SA') : ∀ k, AS pb NA' SA' k → AS pb NA SA k ∨ w.heap.size ≤ k := by
  rintro k (rfl | hk | hk)
  · exact .inl (.inl rfl)
  · rcases h.rows k hk with h | h
    · exact .inl (.inr (.inl h))
    · exact .inr h
  · rcases h'.rows k hk with h | h
    · exact .inl (.inr (.inr h))
    · exact .inr h
/-- The two diagrams, and the operation. -/
structure AD where
  A : Option Addr
  n : Nat
  c : Nat
  a : List Br
  ra : Int
  B : Option Addr
  m : Nat
  d : Nat
  b : List Br
  rb : Int
  op : Int
structure Ap (w0 w : World) (base pb : Nat) (D : AD) (NA : Option Addr) (nc : Nat) (SA : Option Addr) (sc : Nat) (st : List Br × List Tr3) : Prop where
  e0 : Ext w0 w
  as_ : SB w0 D.A D.n D.c D.a
  bs : SB w0 D.B D.m D.d D.b
  p0 : w0.heap.size ≤ pb
  blk : Blk w pb 222 [.slice D.A D.n D.c, .int .i64 D.ra, .slice D.B D.m D.d, .int .i64 D.rb, .int .i64 D.op, .slice NA st.1.length nc, .slice SA st.2.length sc]
  nown : Own w base 116 3 NA st.1.length nc (brV st.1)
  sown : Own w base 199 3 SA st.2.length sc (trV st.2)
  apart : ∀ i, rowS NA i → ¬ rowS SA i
  lt : pb < base
  top : base ≤ w.heap.size
def ATo (w0 w : World) (base pb : Nat) (D : AD) (NA SA : Option Addr) (st : List Br × List Tr3) (w' : World) : Prop := ∃ NA' nc' SA' sc', Ap w0 w' base pb D NA' nc' SA' sc' st ∧ Mod (AS pb NA SA) w w' ∧ Moved w NA NA' ∧ Moved w SA SA'
theorem Ap.grow {w0 w w' : World} {base pb : Nat} {D : AD} {NA : Option Addr} {nc : Nat} {SA : Option Addr} {sc : Nat} {st : List Br × List Tr3} (h : Ap w0 w base pb D NA nc SA sc st) (k : Ext w w') : Ap w0 w' base pb D NA nc SA sc st :=
  ⟨h.e0.trans k, h.as_, h.bs, h.p0, h.blk.ext k, h.nown.ext k, h.sown.ext k, h.apart, h.lt, Nat.le_trans h.top k.size⟩
theorem Ap.kept {w0 w : World} {base pb : Nat} {D : AD} {NA : Option Addr} {nc : Nat} {SA : Option Addr} {sc : Nat} {st : List Br × List Tr3} (h : Ap w0 w base pb D NA nc SA sc st) : ∀ i, AS pb NA SA i → w0.heap.size ≤ i := by
  have := h.p0
  have := h.lt
  rintro i (rfl | hi | hi)
  · omega
  · have := (h.nown.rows i hi).1; omega
  · have := (h.sown.rows i hi).1; omega

theorem find_at {l : List Tr3} {x y : Int} : ∀ {s : Nat} {t : Tr3}, (∀ j u, j < s → l[j]? = some u → ¬ (u.1 = x ∧ u.2.1 = y)) → l[s]? = some t → t.1 = x ∧ t.2.1 = y → l.find? (fun t => decide (t.1 = x ∧ t.2.1 = y)) = some t := by
  induction l with
  | nil => intro s t _ h; simp at h
  | cons u l ih =>
    intro s t hn h ht
    cases s with
    | zero => simp at h; subst h; rw [List.find?_cons_of_pos (by simp [ht])]
    | succ s =>
      rw [List.find?_cons_of_neg (by have := hn 0 u (by omega) rfl; simpa using this)]
      exact ih (s := s) (fun j v hj hv => hn (j + 1) v (by omega) (by simpa using hv)) (by simpa using h) ht
theorem find_no {l : List Tr3} {x y : Int} (h : ∀ j u, j < l.length → l[j]? = some u → ¬ (u.1 = x ∧ u.2.1 = y)) : l.find? (fun t => decide (t.1 = x ∧ t.2.1 = y)) = none := by
  rw [List.find?_eq_none]
  intro u hu
  obtain ⟨j, hj, rfl⟩ := List.mem_iff_getElem.1 hu
  simpa using h j _ hj (List.getElem?_eq_getElem hj)
end

section
open Go Go.RowKit

theorem at_fn (w0 : World) (base pb : Nat) (D : AD) (ha : DOk D.a) (hb : DOk D.b) (hlim : D.n ≤ 1000000000000 ∧ D.m ≤ 1000000000000) (ho : D.op ≠ 3) : ∀ (m : Nat) (x y : Int) (st : List Br × List Tr3) (NA SA : Option Addr) (nc sc : Nat) (w : World),
    Ap w0 w base pb D NA nc SA sc st → 0 ≤ x → 0 ≤ y → x + y < m → x < D.n + 2 → y < D.m + 2 → (at2 D.a D.b D.op m x y st).2.1.length ≤ 100000000000 → (at2 D.a D.b D.op m x y st).2.2.length ≤ 100000000000 →
    Fn Tryz.prog 160 [.pointer (some ⟨pb, 0, none⟩), .int .i64 x, .int .i64 y] w (fun v w' => v = .int .i64 (at2 D.a D.b D.op m x y st).1 ∧ ATo w0 w base pb D NA SA (at2 D.a D.b D.op m x y st).2 w')
  | 0, x, y, st, NA, SA, nc, sc, w, _, x0, y0, hm, _, _, _, _ => by omega
  | m + 1, x, y, st, NA, SA, nc, sc, w, h, x0, y0, hm, hx, hy, hl1, hl2 => by
    have ih := at_fn w0 base pb D ha hb hlim ho m
    have hmono := at2_mono D.a D.b D.op (m + 1) x y st
    have hal : D.a.length = D.n := h.as_.2
    have hbl : D.b.length = D.m := h.bs.2
    refine fn_of_exec (c := { c160 with cuts := [1] }) gx_ok Tryz.func160 rfl rfl rfl ?_
    refine cutIn [] gx_ok [] (fun _ : Unit => []) (fun _ w' => w = w' ∧ ¬ (x < 2 ∧ y < 2)) ?_ ?_
    · refine wif_d (fun c1 => ?_) (fun c1 => ?_)
      · refine wif_d (fun c2 => ?_) (fun c2 => ?_)
        · rw [at2_c ⟨c1, c2⟩]
          refine call (constant_fn pb _ D.op x y w h.blk rfl x0 c1 y0 c2 ho) ?_
          rintro v _ ⟨rfl, rfl⟩
          exact ⟨rfl, NA, nc, SA, sc, h, Mod.refl _ _, Moved.refl _ _, Moved.refl _ _⟩
        · exact ⟨(), rfl, rfl, fun hh => c2 hh.2⟩
      · exact ⟨(), rfl, rfl, fun hh => c1 hh.1⟩
    rintro ⟨⟩ _ ⟨rfl, hxy⟩
    have hseen : SlS Tr3.cells 3 w SA st.2.length sc st.2 := ⟨h.sown.sl, rfl⟩
    refine loop gx_ok [7] (fun s : Nat => [.int .i64 s]) (fun s w' => w = w' ∧ s ≤ st.2.length ∧ ∀ (j : Nat) (u : Tr3), j < s → st.2[j]? = some u → ¬ (u.1 = x ∧ u.2.1 = y)) (fun s _ => st.2.length - s) 0 rfl ⟨rfl, Nat.zero_le _, fun j u hj => absurd hj (by omega)⟩ ?_
    rintro s _ ⟨rfl, hs, hno⟩
    refine load_blk h.blk rfl ?_
    refine wif_d (fun h3 => ?_) (fun h3 => ?_)
    · have again : ∀ t : Tr3, st.2[s]? = some t → ¬ (t.1 = x ∧ t.2.1 = y) → ∀ (j : Nat) (u : Tr3), j < s + 1 → st.2[j]? = some u → ¬ (u.1 = x ∧ u.2.1 = y) := fun t ht hn j u hj hu => by
        by_cases hjs : j < s
        · exact hno j u hjs hu
        · have : j = s := by omega
          subst this
          rw [Option.some.inj (hu.symm.trans ht)]; exact hn
      refine load_blk h.blk rfl ?_
      refine index_sls tr_len hseen rfl (by omega) (fun p t ht hc => ?_)
      refine index (j := 0) (by decide) ?_
      refine load (hc 0 _ rfl) ?_
      refine wif_eq (fun e1 => ?_) (fun e1 => ?_)
      · refine load_blk h.blk rfl ?_
        refine index_sls tr_len hseen rfl (by omega) (fun p' t' ht' hc' => ?_)
        have htt : t' = t := Option.some.inj (ht'.symm.trans ht)
        subst htt
        refine index (j := 1) (by decide) ?_
        refine load (hc' 1 _ rfl) ?_
        refine wif_eq (fun e2 => ?_) (fun e2 => ?_)
        · refine load_blk h.blk rfl ?_
          refine index_sls tr_len hseen rfl (by omega) (fun p2 t2 ht2 hc2 => ?_)
          have htt2 : t2 = t' := Option.some.inj (ht2.symm.trans ht)
          subst htt2
          refine index (j := 2) (by decide) ?_
          refine load (hc2 2 _ rfl) ?_
          rw [at2_s hxy (find_at hno ht ⟨e1, e2⟩)]
          exact ⟨rfl, NA, nc, SA, sc, h, Mod.refl _ _, Moved.refl _ _, Moved.refl _ _⟩
        · refine norm_i64_to ((s + 1 : Nat) : Int) (by omega) (by omega) ?_
          exact ⟨s + 1, rfl, ⟨rfl, by omega, again t' ht (fun hh => e2 hh.2)⟩, by show st.2.length - (s + 1) < st.2.length - s; omega⟩
      · refine norm_i64_to ((s + 1 : Nat) : Int) (by omega) (by omega) ?_
        exact ⟨s + 1, rfl, ⟨rfl, by omega, again t ht (fun hh => e1 hh.1)⟩, by show st.2.length - (s + 1) < st.2.length - s; omega⟩
    have hss : s = st.2.length := by omega
    subst hss
    have hnone := find_no hno
    have hE0 := h.e0
    refine draw_plan gx_ok (Ext w) 13 [(true, 0), (true, 1), (true, 2), (true, 3), (true, 4), (true, 6), (true, 7), (true, 8), (true, 9), (true, 10), (false, 5), (false, 11), (true, 12)] (by kernel_rfl) (Ext.drew w) ?_
    refine qloadN (vs := [.slice D.A D.n D.c, .int .i64 D.ra]) rfl (fun w' hw' j v hj => by
      rw [add_add, (h.blk.ext hw').cell]
      match j, hj with
      | 0, hj => exact hj
      | 1, hj => exact hj) ?_
    refine qloadN (vs := [.slice D.B D.m D.d, .int .i64 D.rb]) rfl (fun w' hw' j v hj => by
      rw [add_add, (h.blk.ext hw').cell]
      match j, hj with
      | 0, hj => exact hj
      | 1, hj => exact hj) ?_
    refine call (rlevel_fn D.A D.n D.c D.ra x D.a _ (h.as_.ext (hE0.trans (Ext.drew w))) hx) ?_
    rintro v w1 ⟨rfl, hE1⟩
    have hE01 := (Ext.drew w).trans hE1
    refine ⟨hE01, ?_⟩
    refine call (rlevel_fn D.B D.m D.d D.rb y D.b w1 (h.bs.ext (hE0.trans hE01)) hy) ?_
    rintro v w2 ⟨rfl, hE2⟩
    have hE02 := hE01.trans hE2
    refine ⟨hE02, ?_⟩
    refine norm (m := min (lvlD D.a x) (lvlD D.b y)) (by rw [Int.min_def]; split <;> split <;> omega) ?_
    have hv64 : min (lvlD D.a x) (lvlD D.b y) < 64 := by
      by_cases c : x < 2
      · have := lvl_lt hb (n := y) (fun c2 => hxy ⟨c, c2⟩) (by omega)
        rw [Int.min_def]; split <;> omega
      · have := lvl_lt ha (n := x) c (by omega)
        rw [Int.min_def]; split <;> omega
    have hvx : lvlD D.a x = min (lvlD D.a x) (lvlD D.b y) ∨ lvlD D.b y = min (lvlD D.a x) (lvlD D.b y) := by rw [Int.min_def]; split <;> simp
    have hnew := at2_n (a := D.a) (b := D.b) (op := D.op) (m := m) hxy hnone _ rfl
    rw [hnew] at hl1 hl2 ⊢
    generalize min (lvlD D.a x) (lvlD D.b y) = v at *
    obtain ⟨s1, s2, s3, s4, s5⟩ := sideD_le ha (n := x) x0 hv64
    obtain ⟨t1, t2, t3, t4, t5⟩ := sideD_le hb (n := y) y0 hv64
    have dec : (sideD D.a x v).1 + (sideD D.b y v).1 < m ∧ (sideD D.a x v).2 + (sideD D.b y v).2 < m := by
      rcases hvx with e | e
      · have := s5 e; omega
      · have := t5 e; omega
    have h2 := h.grow hE02
    refine loadN_at (vs := [.slice D.A D.n D.c, .int .i64 D.ra]) rfl (fun j v hj => by
      rw [add_add, h2.blk.cell]
      match j, hj with
      | 0, hj => exact hj
      | 1, hj => exact hj) ?_
    refine call (sides_fn D.A D.n D.c D.ra x v D.a w2 (h2.as_.ext h2.e0) hx hv64) ?_
    rintro _ w3 ⟨rfl, hE3⟩
    have h3' := h2.grow hE3
    refine loadN_at (vs := [.slice D.B D.m D.d, .int .i64 D.rb]) rfl (fun j v hj => by
      rw [add_add, h3'.blk.cell]
      match j, hj with
      | 0, hj => exact hj
      | 1, hj => exact hj) ?_
    refine call (sides_fn D.B D.m D.d D.rb y v D.b w3 (h3'.bs.ext h3'.e0) hy hv64) ?_
    rintro _ w4 ⟨rfl, hE4⟩
    have hE04 := (hE02.trans hE3).trans hE4
    have h4 := h3'.grow hE4
    have mono1 := at2_mono D.a D.b D.op m (sideD D.a x v).1 (sideD D.b y v).1 st
    have mono2 := at2_mono D.a D.b D.op m (sideD D.a x v).2 (sideD D.b y v).2 (at2 D.a D.b D.op m (sideD D.a x v).1 (sideD D.b y v).1 st).2
    simp only [List.length_append, List.length_cons, List.length_nil] at hl1 hl2
    have ulen := uniqD_len ⟨v, (at2 D.a D.b D.op m (sideD D.a x v).1 (sideD D.b y v).1 st).1, (at2 D.a D.b D.op m (sideD D.a x v).2 (sideD D.b y v).2 (at2 D.a D.b D.op m (sideD D.a x v).1 (sideD D.b y v).1 st).2).1⟩ (at2 D.a D.b D.op m (sideD D.a x v).2 (sideD D.b y v).2 (at2 D.a D.b D.op m (sideD D.a x v).1 (sideD D.b y v).1 st).2).2.1
    refine call (ih _ _ st NA SA nc sc w4 h4 s1 t1 dec.1 (by omega) (by omega) (by omega) (by omega)) ?_
    rintro _ w5 ⟨rfl, NA5, nc5, SA5, sc5, h5, hM5, hV5, hU5⟩
    refine call (ih _ _ _ NA5 SA5 nc5 sc5 w5 h5 s3 t3 dec.2 (by omega) (by omega) (by omega) (by omega)) ?_
    rintro _ w6 ⟨rfl, NA6, nc6, SA6, sc6, h6, hM6, hV6, hU6⟩
    have hM46 := hM5.trans hM6 (AS.moved hV5 hU5)
    have hV46 := hV5.trans hV6 hM5.size
    have hU46 := hU5.trans hU6 hM5.size
    generalize (at2 D.a D.b D.op m (sideD D.a x v).1 (sideD D.b y v).1 st) = r0 at *
    generalize (at2 D.a D.b D.op m (sideD D.a x v).2 (sideD D.b y v).2 r0.2) = r1 at *
    have hnr6 := h6.nown.rows
    have hsr6 := h6.sown.rows
    have hlt6 := h6.lt
    have htop6 := h6.top
    refine load_blk h6.blk rfl ?_
    refine call (unique_fn base NA6 _ nc6 r1.2.1 ⟨v, r0.1, r1.1⟩ w6 h6.nown rfl h6.top (by omega)) ?_
    rintro _ w7 ⟨NA7, nc7, rfl, hown7, hM7, hV7⟩
    have hB7 := h6.blk.mod hM7 (fun e => by have := (hnr6 _ e).1; omega)
    have hS7 := h6.sown.mod hM7 (fun i hi e => h6.apart i e hi)
    generalize uniqD ⟨v, r0.1, r1.1⟩ r1.2.1 = u at *
    refine store_mod hB7 (by simp) (fun w8 hM8 hB8 => ?_)
    have hown8 := hown7.mod hM8 (fun i hi e => by have := (hown7.rows i hi).1; omega)
    have hS8 := hS7.mod hM8 (fun i hi e => by have := (hS7.rows i hi).1; omega)
    refine load_blk hB8 rfl ?_
    refine at_buildN gx_ok [Tr3.cells (x, y, u.2)] rfl rfl rfl rfl rfl ⟨rfl, rfl, ⟨⟩⟩ rfl (fun cs h => by simp only [List.mem_singleton] at h; subst h; rfl) rfl (by decide) (by decide) ?_
    intro w9 hE9 hz9 hB9
    have hs9 : Sl w9 3 (some ⟨w8.heap.size, 0, none⟩) 1 1 (Tr3.cells (x, y, u.2)) := Sl.own (sz := 3) (n := 1) hB9 (Nat.le_refl _) (by decide) (by simp [Tr3.cells])
    have z7 := hM7.size
    have z8 := hM8.size
    have z9 := hE9.size
    refine at_app gx_ok rfl rfl rfl rfl rfl (by decide) rfl rfl ⟨_, rfl⟩ rfl rfl (hS8.ext hE9) hs9 (by intro u hu; simp [Tr3.cells] at hu; rcases hu with rfl | rfl | rfl <;> rfl) (by unfold maxLen; omega) (by show _ * 24 ≤ _; omega) (by omega) ?_
    intro SA10 sc10 w10 hM10 hown10 hU10
    have hsr8 := hS8.rows
    refine store_mod ((hB8.ext hE9).mod hM10 (fun e => by have := (hsr8 _ e).1; omega)) (by simp) (fun w11 hM11 hB11 => ?_)
    have hap7 : ∀ i, rowS NA7 i → ¬ rowS SA6 i := fun i hi e => by
      rcases hV7.rows i hi with hh | hh
      · exact h6.apart i hh e
      · have := (hsr6 i e).2; omega
    have hap10 : ∀ i, rowS NA7 i → ¬ rowS SA10 i := fun i hi e => by
      rcases hU10.rows i e with hh | hh
      · exact hap7 i hi hh
      · have := (hown7.rows i hi).2; omega
    have hown11 := ((hown8.ext hE9).mod hM10 (fun i hi e => hap7 i hi e)).mod hM11 (fun i hi e => by have := (hown7.rows i hi).1; omega)
    have hS11 := hown10.mod hM11 (fun i hi e => by have := (hown10.rows i hi).1; omega)
    have hM611 : Mod (AS pb NA6 SA6) w6 w11 := ((((hM7.mono (fun i hi => .inl (.inr (.inl hi)))).trans hM8 (fun i hi => .inl (.inl hi))).trans (Mod.of_ext (AS pb NA6 SA6) hE9) (fun i hi => .inl hi)).trans hM10 (fun i hi => .inl (.inr (.inr hi)))).trans hM11 (fun i hi => .inl (.inl hi))
    have hM4_11 := hM46.trans hM611 (AS.moved hV46 hU46)
    have el : (r1.2.2 ++ [((x, y, u.2) : Tr3)]).length = r1.2.2.length + 1 := by simp
    refine ⟨rfl, NA7, nc7, SA10, sc10, ⟨hM611.ext h6.e0 h6.kept, h.as_, h.bs, h.p0, ?_, hown11, ?_, hap10, h.lt, ?_⟩, (Mod.of_ext (AS pb NA SA) hE04).trans hM4_11 (fun i hi => .inl hi), ?_, ?_⟩
    · show Blk w11 pb _ [_, _, _, _, _, _, .slice SA10 (r1.2.2 ++ [((x, y, u.2) : Tr3)]).length sc10]
      rw [el]; exact hB11
    · show Own w11 base _ 3 SA10 (r1.2.2 ++ [((x, y, u.2) : Tr3)]).length sc10 (trV (r1.2.2 ++ [((x, y, u.2) : Tr3)]))
      rw [el, trV_snoc]; exact hS11
    · have := hM10.size; have := hM11.size; omega
    · exact (hV46.back hE04.size).trans hV7 (by have := hE04.size; have := hM46.size; omega)
    · exact (hU46.back hE04.size).trans (hU10.back (by omega)) (by have := hE04.size; have := hM46.size; omega)
end

section
open Go Go.RowKit

def AtInv (st : List Br × List Tr3) : Prop := WfB st.1 ∧ ∀ t ∈ st.2, 0 ≤ t.2.2 ∧ t.2.2 < st.1.length + 2
theorem uniqD_inv {b : Br} {l : List Br} (hw : WfB l) (h1 : 0 ≤ b.l) (h2 : b.l < l.length + 2) (h3 : 0 ≤ b.h) (h4 : b.h < l.length + 2) : WfB (uniqD b l).1 ∧ 0 ≤ (uniqD b l).2 ∧ (uniqD b l).2 < (uniqD b l).1.length + 2 := by
  have idx : ∀ {l : List Br} {i : Nat}, fstIdx b l = some i → i < l.length := by
    intro l
    induction l with
    | nil => intro i h; cases h
    | cons x l ih =>
      intro i h
      unfold fstIdx at h
      split at h
      · cases h; simp
      · cases hf : fstIdx b l with
        | none => rw [hf] at h; cases h
        | some k => rw [hf] at h; cases h; have := ih hf; simp; omega
  unfold uniqD
  split
  · exact ⟨hw, h1, h2⟩
  · split
    · rename_i i hi
      have := idx hi
      exact ⟨hw, by omega, by simp only; omega⟩
    · refine ⟨fun j x hx => ?_, by omega, by simp only [List.length_append, List.length_cons, List.length_nil]; omega⟩
      by_cases hj : j < l.length
      · rw [List.getElem?_append_left hj] at hx
        exact hw j x hx
      · rw [List.getElem?_append_right (by omega)] at hx
        have hj0 : j - l.length = 0 := by
          cases hk : j - l.length with
          | zero => rfl
          | succ k => rw [hk] at hx; simp at hx
        rw [hj0] at hx
        simp at hx
        subst hx
        omega
theorem constD_in {op x y : Int} (x0 : 0 ≤ x) (x1 : x < 2) (y0 : 0 ≤ y) (y1 : y < 2) : 0 ≤ constD op x y ∧ constD op x y < 2 := by
  unfold constD
  rcases (by omega : x = 0 ∨ x = 1) with rfl | rfl <;> rcases (by omega : y = 0 ∨ y = 1) with rfl | rfl <;> (split <;> first | decide | (split <;> first | decide | (split <;> decide)))
theorem at2_inv {a b : List Br} (ha : DOk a) (hb : DOk b) (op : Int) : ∀ (m : Nat) (x y : Int) (st : List Br × List Tr3), AtInv st → 0 ≤ x → 0 ≤ y → x < a.length + 2 → y < b.length + 2 →
    AtInv (at2 a b op m x y st).2 ∧ 0 ≤ (at2 a b op m x y st).1 ∧ (at2 a b op m x y st).1 < (at2 a b op m x y st).2.1.length + 2
  | 0, x, y, st, h, _, _, _, _ => ⟨h, Int.le_refl _, by show (0 : Int) < st.1.length + 2; omega⟩
  | m + 1, x, y, st, h, x0, y0, hx, hy => by
    by_cases hxy : x < 2 ∧ y < 2
    · rw [at2_c hxy]
      have := constD_in (op := op) x0 hxy.1 y0 hxy.2
      exact ⟨h, this.1, by simp only; omega⟩
    cases k : st.2.find? (fun t => decide (t.1 = x ∧ t.2.1 = y)) with
    | some t =>
      rw [at2_s hxy k]
      have := h.2 t (List.mem_of_find?_eq_some k)
      exact ⟨h, this.1, this.2⟩
    | none =>
      have hv64 : min (lvlD a x) (lvlD b y) < 64 := by
        by_cases c : x < 2
        · have := lvl_lt hb (n := y) (fun c2 => hxy ⟨c, c2⟩) (by omega)
          rw [Int.min_def]; split <;> omega
        · have := lvl_lt ha (n := x) c (by omega)
          rw [Int.min_def]; split <;> omega
      rw [at2_n hxy k _ rfl]
      generalize min (lvlD a x) (lvlD b y) = v at *
      obtain ⟨s1, s2, s3, s4, s5⟩ := sideD_le ha (n := x) x0 hv64
      obtain ⟨t1, t2, t3, t4, t5⟩ := sideD_le hb (n := y) y0 hv64
      have i1 := at2_inv ha hb op m (sideD a x v).1 (sideD b y v).1 st h s1 t1 (by omega) (by omega)
      have m2 := at2_mono a b op m (sideD a x v).2 (sideD b y v).2 (at2 a b op m (sideD a x v).1 (sideD b y v).1 st).2
      generalize (at2 a b op m (sideD a x v).1 (sideD b y v).1 st) = r0 at *
      have i2 := at2_inv ha hb op m (sideD a x v).2 (sideD b y v).2 r0.2 i1.1 s3 t3 (by omega) (by omega)
      generalize (at2 a b op m (sideD a x v).2 (sideD b y v).2 r0.2) = r1 at *
      have hu := uniqD_inv (b := ⟨v, r0.1, r1.1⟩) (l := r1.2.1) i2.1.1 i1.2.1 (by have := i1.2.2; simp only; omega) i2.2.1 i2.2.2
      have hul := uniqD_len ⟨v, r0.1, r1.1⟩ r1.2.1
      generalize uniqD ⟨v, r0.1, r1.1⟩ r1.2.1 = u at *
      refine ⟨⟨hu.1, fun t ht => ?_⟩, hu.2.1, hu.2.2⟩
      simp only [List.mem_append, List.mem_singleton] at ht
      rcases ht with ht | rfl
      · have := i2.1.2 t ht
        exact ⟨this.1, by simp only; omega⟩
      · exact ⟨hu.2.1, hu.2.2⟩

/-- The result of an operation on two valid diagrams. -/
def at2D (a : List Br) (ra : Int) (b : List Br) (rb op : Int) : Int × (List Br × List Tr3) := at2 a b op (ra.toNat + rb.toNat + 1) ra rb ([], [])
def combD (a : List Br) (ra : Int) (b : List Br) (rb op : Int) : List Br × Int := numberedD (at2D a ra b rb op).2.1 (at2D a ra b rb op).1
def limD (d : List Br × Int) : (List Br × Int) × Int := if 4096 < d.1.length then (([], 0), 2) else (d, 0)
noncomputable def opD (a : List Br) (ra : Int) (b : List Br) (rb op : Int) : (List Br × Int) × Int := if chkD a ra ≠ 0 then (([], 0), chkD a ra) else if chkD b rb ≠ 0 then (([], 0), chkD b rb) else limD (combD a ra b rb op)
/-- A diagram and an error number. -/
def DgE (w : World) (r : (List Br × Int) × Int) (v : Value) (w' : World) : Prop := ∃ A n c, v = .tuple #[dgV A n c r.1.2, .int .i64 r.2] ∧ Ext w w' ∧ SB w' A n c r.1.1 ∧ ∀ i, rowS A i → w.heap.size ≤ i

theorem rcombine_fn (A : Option Addr) (n c : Nat) (a : List Br) (ra : Int) (B : Option Addr) (m d : Nat) (b : List Br) (rb op : Int) (w : World) (h : SB w A n c a) (h' : SB w B m d b) (ha : DOk a) (hb : DOk b) (r0 : 0 ≤ ra) (r1 : ra < n + 2) (s0 : 0 ≤ rb) (s1 : rb < m + 2) (hn : n ≤ 1000000000000) (hm : m ≤ 1000000000000)
    (hl1 : (at2D a ra b rb op).2.1.length ≤ 100000000000) (hl2 : (at2D a ra b rb op).2.2.length ≤ 100000000000) (ho : op ≠ 3) :
    Fn Tryz.prog 126 [dgV A n c ra, dgV B m d rb, .int .i64 op] w (DgRes w (combD a ra b rb op)) := by
  have hal := h.2
  have hbl := h'.2
  refine fn_of_exec (c := { c126 with cuts := [] }) gx_ok Tryz.func126 rfl rfl rfl ?_
  refine new (fun w1 hE1 hz1 hB1 => ?_)
  refine new (fun w2 hE2 hz2 hB2 => ?_)
  refine new (fun w3 hE3 hz3 hB3 => ?_)
  have hE03 := (hE1.trans hE2).trans hE3
  have hB13 := (hB1.ext hE2).ext hE3
  have hB23 := hB2.ext hE3
  refine loadN_blk0 hB13 rfl ?_
  refine loadN_blk0 hB23 rfl ?_
  refine new (fun w4 hE4 hz4 hB4 => ?_)
  have hE04 := hE03.trans hE4
  let D : AD := ⟨A, n, c, a, ra, B, m, d, b, rb, op⟩
  have hA : Ap w3 w4 w4.heap.size w3.heap.size D none 0 none 0 ([], []) := ⟨hE4, h.ext hE03, h'.ext hE03, Nat.le_refl _, hB4, Own.nil _ _ _ _, Own.nil _ _ _ _, (fun i hi => by obtain ⟨_, e, _⟩ := hi; cases e), (by omega), Nat.le_refl _⟩
  refine load_blk (hB13.ext hE4) rfl ?_
  refine load_blk (hB23.ext hE4) rfl ?_
  have inv := at2_inv ha hb op (ra.toNat + rb.toNat + 1) ra rb ([], []) ⟨fun j x hx => by simp at hx, fun t ht => by simp at ht⟩ r0 s0 (by omega) (by omega)
  refine call (at_fn w3 w4.heap.size w3.heap.size D ha hb ⟨hn, hm⟩ ho (ra.toNat + rb.toNat + 1) ra rb ([], []) none none 0 0 w4 hA r0 s0 (by omega) r1 s1 hl1 hl2) ?_
  rintro v w5 ⟨rfl, NA, nc, SA, sc1, hA5, hM5, hV5, hU5⟩
  have hE5 : Ext w3 w5 := hA5.e0
  have hE05 := hE03.trans hE5
  refine load_blk hA5.blk rfl ?_
  refine call (rnumbered_fn NA _ nc _ _ w5 ⟨hA5.nown.sl, rfl⟩ inv.1.1 (by have : (at2D a ra b rb op).2.1.length ≤ 100000000000 := hl1; exact Nat.le_trans this (by decide)) inv.2.1 inv.2.2) ?_
  rintro v w6 ⟨OA, k, oc, rfl, hE6, hO6, hR6⟩
  refine storeN_blk0 ((hB3.ext hE5).ext hE6) rfl (sc rfl) (fun w7 hg7 _ hB7 => ?_)
  have hM7 : Mod (· = w2.heap.size) w6 w7 := Mod.of_grown hg7 rfl
  refine loadN_blk0 hB7 rfl ?_
  have z5 := hE5.size
  have nr : ∀ i, rowS OA i → ¬ i = w2.heap.size := fun i hi e => by have := hR6 i hi; omega
  refine ⟨OA, k, oc, rfl, hM7.ext (hE05.trans hE6) (fun i hi => by have := hE1.size; have := hE2.size; omega), ⟨hO6.1.modS hM7 (fun _ i hi => nr i hi), hO6.2⟩, fun i hi => by have := hR6 i hi; have := hE05.size; omega⟩

theorem rlimited_fn (A : Option Addr) (n c : Nat) (a : List Br) (ra : Int) (w0 w : World) (h : SB w A n c a) (hr : ∀ i, rowS A i → w0.heap.size ≤ i) (hE : Ext w0 w) :
    Fn Tryz.prog 178 [dgV A n c ra] w (DgE w0 (limD (a, ra))) := by
  have hal := h.2
  refine fn_of_exec (c := { c178 with cuts := [] }) gx_ok Tryz.func178 rfl rfl rfl ?_
  refine new (fun w1 hE1 hz1 hB1 => ?_)
  refine new (fun w2 hE2 hz2 hB2 => ?_)
  have hE02 := hE1.trans hE2
  refine load_blk0 (hB1.ext hE2) rfl ?_
  refine wif_d (fun c1 => ?_) (fun c1 => ?_)
  · have e : limD (a, ra) = (([], 0), 2) := by unfold limD; rw [if_pos (show 4096 < (a, ra).1.length by simp only; omega)]
    rw [e]
    refine storeN_blk0 hB2 rfl (sc rfl) (fun w3 hg3 _ hB3 => ?_)
    have hM3 : Mod (· = w1.heap.size) w2 w3 := Mod.of_grown hg3 rfl
    refine loadN_blk0 hB3 rfl ?_
    exact ⟨none, 0, 0, rfl, hE.trans (hM3.ext hE02 (fun i hi => by have := hE1.size; omega)), SlS.nil _, fun i ⟨_, e, _⟩ => by cases e⟩
  · have e : limD (a, ra) = ((a, ra), 0) := by unfold limD; rw [if_neg (show ¬ 4096 < (a, ra).1.length by simp only; omega)]
    rw [e]
    refine loadN_blk0 (hB1.ext hE2) rfl ?_
    refine storeN_blk0 hB2 rfl (sc rfl) (fun w3 hg3 _ hB3 => ?_)
    have hM3 : Mod (· = w1.heap.size) w2 w3 := Mod.of_grown hg3 rfl
    refine loadN_blk0 hB3 rfl ?_
    refine ⟨A, n, c, rfl, hE.trans (hM3.ext hE02 (fun i hi => by have := hE1.size; omega)), ⟨(h.ext hE02).1.modS hM3 (fun h0 i hi e => by obtain ⟨ad, rfl, rfl⟩ := hi; have := SB.lt h ad rfl h0; omega), hal⟩, hr⟩

theorem rvar_fn (k : Int) (w : World) (h0 : 0 ≤ k) (h1 : k ≤ 63) : Fn Tryz.prog 42 [.int .i64 k] w (DgE w (([⟨k, 0, 1⟩], 2), 0)) := by
  refine fn_of_exec (c := { c42 with cuts := [] }) gx_ok Tryz.func42 rfl rfl rfl ?_
  refine new (fun w1 hE1 hz1 hB1 => ?_)
  refine wif_df (by omega) ?_
  refine wif_df (by omega) ?_
  refine at_buildN gx_ok [(⟨k, 0, 1⟩ : Br).cells] rfl rfl rfl rfl rfl ⟨rfl, rfl, ⟨⟩⟩ rfl (fun cs h => by simp only [List.mem_singleton] at h; subst h; rfl) rfl (by decide) (by decide) ?_
  intro w2 hE2 hz2 hB2
  refine storeN_blk0 (hB1.ext hE2) rfl (sc rfl) (fun w3 hg3 _ hB3 => ?_)
  have hM3 : Mod (· = w.heap.size) w2 w3 := Mod.of_grown hg3 rfl
  refine loadN_blk0 hB3 rfl ?_
  refine ⟨some ⟨w1.heap.size, 0, none⟩, 1, 1, rfl, hM3.ext (hE1.trans hE2) (fun i hi => by omega), ⟨Sl.own (sz := 3) (n := 1) (hB2.mod hM3 (by omega)) (Nat.le_refl _) (by decide) (by simp [Br.cells]), rfl⟩, fun i ⟨ad, e, hi⟩ => by cases e; simp only at hi; omega⟩
end

section
open Go Go.RowKit

/-- A diagram in memory. -/
structure DV where
  A : Option Addr
  n : Nat
  c : Nat
  nd : List Br
  r : Int
def DV.cells (x : DV) : List Value := [.slice x.A x.n x.c, .int .i64 x.r]
theorem dv_len (x : DV) : x.cells.length = 2 := rfl
noncomputable def firstD : List DV → Int
  | [] => 0
  | x :: l => if chkD x.nd x.r ≠ 0 then chkD x.nd x.r else firstD l
theorem firstD_hit {l : List DV} : ∀ {s : Nat} {x : DV}, (∀ j y, j < s → l[j]? = some y → chkD y.nd y.r = 0) → l[s]? = some x → chkD x.nd x.r ≠ 0 → firstD l = chkD x.nd x.r := by
  induction l with
  | nil => intro s x _ h; simp at h
  | cons y l ih =>
    intro s x hn h hx
    cases s with
    | zero => simp at h; subst h; rw [firstD, if_pos hx]
    | succ s =>
      rw [firstD, if_neg (fun hh => hh (hn 0 y (by omega) rfl))]
      exact ih (s := s) (fun j z hj hz => hn (j + 1) z (by omega) (by simpa using hz)) (by simpa using h) hx
theorem firstD_none {l : List DV} (h : ∀ j y, j < l.length → l[j]? = some y → chkD y.nd y.r = 0) : firstD l = 0 := by
  induction l with
  | nil => rfl
  | cons y l ih =>
    rw [firstD, if_neg (fun hh => hh (h 0 y (by simp) rfl))]
    exact ih (fun j z hj hz => h (j + 1) z (by simpa using hj) (by simpa using hz))

theorem rfirst_fn (F : Option Addr) (m cf : Nat) (L : List DV) (w : World) (h : SlS DV.cells 2 w F m cf L) (hL : ∀ x ∈ L, SB w x.A x.n x.c x.nd) :
    Fn Tryz.prog 97 [.slice F m cf] w (fun v w' => v = .int .i64 (firstD L) ∧ Ext w w') := by
  have hlen := h.2
  have hcap : m ≤ 9223372036854775807 := by have := h.1.le; have := h.1.cap; simp only [maxLen] at this; omega
  refine fn_of_exec (c := { c97 with cuts := [] }) gx_ok Tryz.func97 rfl rfl rfl ?_
  refine loop gx_ok [3] (fun s : Nat => [.int .i64 s]) (fun s w' => Ext w w' ∧ s ≤ m ∧ ∀ (j : Nat) (y : DV), j < s → L[j]? = some y → chkD y.nd y.r = 0) (fun s _ => m - s) 0 rfl ⟨Ext.refl w, Nat.zero_le _, fun j y hj => absurd hj (by omega)⟩ ?_
  rintro s w1 ⟨hE1, hs, hall⟩
  refine wif_d (fun h2 => ?_) (fun h2 => ?_)
  · refine index_sls dv_len (h.ext hE1) rfl (by omega) (fun p x hx hc => ?_)
    refine loadN_at (vs := x.cells) rfl hc ?_
    refine call (rcheck2_fn x.A x.n x.c x.nd x.r w1 ((hL x (List.mem_of_getElem? hx)).ext hE1)) ?_
    rintro v w2 ⟨rfl, hE2⟩
    refine wif_ne (fun c1 => ?_) (fun c1 => ?_)
    · exact ⟨by rw [firstD_hit hall hx c1], hE1.trans hE2⟩
    · refine norm_i64_to ((s + 1 : Nat) : Int) (by omega) (by omega) ?_
      refine ⟨s + 1, rfl, ⟨hE1.trans hE2, by omega, fun j y hj hy => ?_⟩, by show m - (s + 1) < m - s; omega⟩
      by_cases hjs : j < s
      · exact hall j y hjs hy
      · have : j = s := by omega
        subst this
        rw [Option.some.inj (hy.symm.trans hx)]; exact c1
  · exact ⟨by rw [firstD_none (fun j y hj hy => hall j y (by omega) hy)], hE1⟩

theorem roperation_fn (A : Option Addr) (n c : Nat) (a : List Br) (ra : Int) (B : Option Addr) (m d : Nat) (b : List Br) (rb op : Int) (w : World) (h : SB w A n c a) (h' : SB w B m d b)
    (hl : chkD a ra = 0 → chkD b rb = 0 → (at2D a ra b rb op).2.1.length ≤ 100000000000 ∧ (at2D a ra b rb op).2.2.length ≤ 100000000000) (ho : op ≠ 3) :
    Fn Tryz.prog 179 [dgV A n c ra, dgV B m d rb, .int .i64 op] w (DgE w (opD a ra b rb op)) := by
  have hal := h.2
  have hbl := h'.2
  refine fn_of_exec (c := { c179 with cuts := [] }) gx_ok Tryz.func179 rfl rfl rfl ?_
  refine new (fun w1 hE1 hz1 hB1 => ?_)
  refine new (fun w2 hE2 hz2 hB2 => ?_)
  refine new (fun w3 hE3 hz3 hB3 => ?_)
  have hE03 := (hE1.trans hE2).trans hE3
  have hB13 := (hB1.ext hE2).ext hE3
  have hB23 := hB2.ext hE3
  refine loadN_blk0 hB13 rfl ?_
  refine loadN_blk0 hB23 rfl ?_
  refine at_buildN gx_ok [(⟨A, n, c, a, ra⟩ : DV).cells, (⟨B, m, d, b, rb⟩ : DV).cells] rfl rfl rfl rfl rfl ⟨rfl, rfl, rfl, rfl, ⟨⟩⟩ rfl (fun cs h => by simp only [List.mem_cons, List.not_mem_nil, or_false] at h; rcases h with rfl | rfl <;> rfl) rfl (by decide) (by decide) ?_
  intro w4 hE4 hz4 hB4
  have hE04 := hE03.trans hE4
  have hL : SlS DV.cells 2 w4 (some ⟨w3.heap.size, 0, none⟩) 2 2 [⟨A, n, c, a, ra⟩, ⟨B, m, d, b, rb⟩] := ⟨Sl.own (sz := 2) (n := 2) hB4 (Nat.le_refl _) (by decide) (by simp [DV.cells]), rfl⟩
  refine call (rfirst_fn _ 2 2 _ w4 hL (fun x hx => by
    simp only [List.mem_cons, List.not_mem_nil, or_false] at hx
    rcases hx with rfl | rfl
    · exact h.ext hE04
    · exact h'.ext hE04)) ?_
  rintro v w5 ⟨rfl, hE5⟩
  have hE35 := hE4.trans hE5
  have hE05 := hE03.trans hE35
  have hB35 := hB3.ext hE35
  have ef : firstD [(⟨A, n, c, a, ra⟩ : DV), ⟨B, m, d, b, rb⟩] = if chkD a ra ≠ 0 then chkD a ra else if chkD b rb ≠ 0 then chkD b rb else 0 := rfl
  refine wif_ne (fun c1 => ?_) (fun c1 => ?_)
  · have e : opD a ra b rb op = (([], 0), firstD [(⟨A, n, c, a, ra⟩ : DV), ⟨B, m, d, b, rb⟩]) := by
      rw [ef] at c1 ⊢
      unfold opD
      split
      · rfl
      · rename_i hh
        rw [if_neg hh] at c1
        split
        · rfl
        · rename_i hh2; rw [if_neg hh2] at c1; exact absurd rfl c1
    rw [e]
    refine storeN_blk0 hB35 rfl (sc rfl) (fun w6 hg6 _ hB6 => ?_)
    have hM6 : Mod (· = w2.heap.size) w5 w6 := Mod.of_grown hg6 rfl
    refine loadN_blk0 hB6 rfl ?_
    exact ⟨none, 0, 0, rfl, hM6.ext hE05 (fun i hi => by have := hE1.size; have := hE2.size; omega), SlS.nil _, fun i ⟨_, e, _⟩ => by cases e⟩
  · rw [ef] at c1
    have ca : chkD a ra = 0 := by
      by_cases hh : chkD a ra = 0
      · exact hh
      · rw [if_pos hh] at c1; exact c1
    have cb : chkD b rb = 0 := by
      rw [if_neg (fun hh => hh ca)] at c1
      by_cases hh : chkD b rb = 0
      · exact hh
      · rw [if_pos hh] at c1; exact c1
    obtain ⟨sa, va⟩ := chkD_zero.1 ca
    obtain ⟨sb, vb⟩ := chkD_zero.1 cb
    have e : opD a ra b rb op = limD (combD a ra b rb op) := by unfold opD; rw [if_neg (fun hh => hh ca), if_neg (fun hh => hh cb)]
    rw [e]
    refine loadN_blk0 (hB13.ext hE35) rfl ?_
    refine loadN_blk0 (hB23.ext hE35) rfl ?_
    have hll := hl ca cb
    refine call (rcombine_fn A n c a ra B m d b rb op w5 (h.ext hE05) (h'.ext hE05) va.dok vb.dok va.2.1 (by have := va.2.2.1; omega) vb.2.1 (by have := vb.2.2.1; omega) (by omega) (by omega) hll.1 hll.2 ho) ?_
    rintro v w6 ⟨OA, k, oc, rfl, hE6, hO6, hR6⟩
    have hE36 := hE35.trans hE6
    have hE06 := hE03.trans hE36
    have hz35 := hE35.size
    have hz3 := hE03.size
    refine call (rlimited_fn OA k oc _ _ w3 w6 hO6 (fun i hi => by have := hR6 i hi; omega) hE36) ?_
    rintro v w7 ⟨PA, q, pc, rfl, hE7, hP7, hR7⟩
    refine storeN_blk0 (hB3.ext hE7) rfl (sc rfl) (fun w8 hg8 _ hB8 => ?_)
    have hM8 : Mod (· = w2.heap.size) w7 w8 := Mod.of_grown hg8 rfl
    refine loadN_blk0 hB8 rfl ?_
    refine ⟨PA, q, pc, rfl, hM8.ext (hE03.trans hE7) (fun i hi => by have := hE1.size; have := hE2.size; omega), ⟨hP7.1.modS hM8 (fun _ i hi e => by have := hR7 i hi; omega), hP7.2⟩, fun i hi => by have := hR7 i hi; omega⟩
end
end
end Go.Proofs.YtedopgkbajhanaaGreatDoor
